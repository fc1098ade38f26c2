/-
  What each function that the law calls hands back, as a Lean function of what its arguments hold. No condition beyond each theorem.
-/
import Derived.Test.YtohghogmgnommaaProg
import Derived.Laws.Externs
import Derived.Test.YtohghogmgnommaaV2
set_option linter.all false
set_option linter.unusedVariables false
set_option linter.unusedSimpArgs false
set_option linter.unusedSectionVars false
section
open Go Go.Proofs Vc
namespace Vc
theorem mix : Try.prog.follows .mixedOrders = true := by kernel_rfl
def Γ : Types := [
  (2, ⟨.int .i64, 1, 8, [.int .i64 0]⟩),
  (3, ⟨.int .i64, 1, 8, [.int .i64 0]⟩),
  (4, ⟨.bool, 1, 1, [.bool false]⟩),
  (9, ⟨.string, 1, 16, [.string { data := #[] }]⟩),
  (22, ⟨.slice 37, 1, 24, [.slice none 0 0]⟩),
  (23, ⟨.slice 4, 1, 24, [.slice none 0 0]⟩),
  (26, ⟨.struct [(0, 2), (1, 2)], 2, 16, [.int .i64 0, .int .i64 0]⟩),
  (27, ⟨.struct [(0, 2), (1, 2)], 2, 16, [.int .i64 0, .int .i64 0]⟩),
  (28, ⟨.slice 55, 1, 24, [.slice none 0 0]⟩),
  (29, ⟨.slice 58, 1, 24, [.slice none 0 0]⟩),
  (30, ⟨.struct [(0, 3), (1, 3), (2, 27), (4, 2), (5, 2), (6, 28), (7, 29), (8, 29)], 9, 120, [.int .i64 0, .int .i64 0, .int .i64 0, .int .i64 0, .int .i64 0, .int .i64 0, .slice none 0 0, .slice none 0 0, .slice none 0 0]⟩),
  (31, ⟨.struct [(0, 3), (1, 3), (2, 27), (4, 2), (5, 2), (6, 28), (7, 29), (8, 29)], 9, 120, [.int .i64 0, .int .i64 0, .int .i64 0, .int .i64 0, .int .i64 0, .int .i64 0, .slice none 0 0, .slice none 0 0, .slice none 0 0]⟩),
  (32, ⟨.struct [(0, 3), (1, 3), (2, 3), (3, 3)], 4, 32, [.int .i64 0, .int .i64 0, .int .i64 0, .int .i64 0]⟩),
  (33, ⟨.struct [(0, 3), (1, 3), (2, 3), (3, 3)], 4, 32, [.int .i64 0, .int .i64 0, .int .i64 0, .int .i64 0]⟩),
  (34, ⟨.slice 65, 1, 24, [.slice none 0 0]⟩),
  (35, ⟨.slice 63, 1, 24, [.slice none 0 0]⟩),
  (36, ⟨.struct [(0, 3), (1, 3), (2, 3), (3, 3), (4, 33), (8, 27), (10, 2), (11, 4), (12, 34), (13, 35)], 14, 144, [.int .i64 0, .int .i64 0, .int .i64 0, .int .i64 0, .int .i64 0, .int .i64 0, .int .i64 0, .int .i64 0, .int .i64 0, .int .i64 0, .int .i64 0, .bool false, .slice none 0 0, .slice none 0 0]⟩),
  (37, ⟨.struct [(0, 3), (1, 3), (2, 3), (3, 3), (4, 33), (8, 27), (10, 2), (11, 4), (12, 34), (13, 35)], 14, 144, [.int .i64 0, .int .i64 0, .int .i64 0, .int .i64 0, .int .i64 0, .int .i64 0, .int .i64 0, .int .i64 0, .int .i64 0, .int .i64 0, .int .i64 0, .bool false, .slice none 0 0, .slice none 0 0]⟩),
  (40, ⟨.int .i64, 1, 8, [.int .i64 0]⟩),
  (41, ⟨.slice 50, 1, 24, [.slice none 0 0]⟩),
  (42, ⟨.struct [(0, 40), (1, 41), (2, 33), (6, 3), (7, 27), (9, 2), (10, 4)], 11, 104, [.int .i64 0, .slice none 0 0, .int .i64 0, .int .i64 0, .int .i64 0, .int .i64 0, .int .i64 0, .int .i64 0, .int .i64 0, .int .i64 0, .bool false]⟩),
  (43, ⟨.struct [(0, 40), (1, 41), (2, 33), (6, 3), (7, 27), (9, 2), (10, 4)], 11, 104, [.int .i64 0, .slice none 0 0, .int .i64 0, .int .i64 0, .int .i64 0, .int .i64 0, .int .i64 0, .int .i64 0, .int .i64 0, .int .i64 0, .bool false]⟩),
  (49, ⟨.struct [(0, 9), (1, 9)], 2, 32, [.string { data := #[] }, .string { data := #[] }]⟩),
  (50, ⟨.struct [(0, 9), (1, 9)], 2, 32, [.string { data := #[] }, .string { data := #[] }]⟩),
  (51, ⟨.slice 84, 1, 24, [.slice none 0 0]⟩),
  (52, ⟨.struct [(0, 33), (4, 3), (5, 27), (7, 4), (8, 9)], 9, 80, [.int .i64 0, .int .i64 0, .int .i64 0, .int .i64 0, .int .i64 0, .int .i64 0, .int .i64 0, .bool false, .string { data := #[] }]⟩),
  (53, ⟨.struct [(0, 33), (4, 3), (5, 27), (7, 4), (8, 9)], 9, 80, [.int .i64 0, .int .i64 0, .int .i64 0, .int .i64 0, .int .i64 0, .int .i64 0, .int .i64 0, .bool false, .string { data := #[] }]⟩),
  (54, ⟨.struct [(0, 9), (1, 51), (2, 4), (3, 53)], 12, 128, [.string { data := #[] }, .slice none 0 0, .bool false, .int .i64 0, .int .i64 0, .int .i64 0, .int .i64 0, .int .i64 0, .int .i64 0, .int .i64 0, .bool false, .string { data := #[] }]⟩),
  (55, ⟨.struct [(0, 9), (1, 51), (2, 4), (3, 53)], 12, 128, [.string { data := #[] }, .slice none 0 0, .bool false, .int .i64 0, .int .i64 0, .int .i64 0, .int .i64 0, .int .i64 0, .int .i64 0, .int .i64 0, .bool false, .string { data := #[] }]⟩),
  (57, ⟨.struct [(0, 33), (4, 27), (6, 4)], 7, 56, [.int .i64 0, .int .i64 0, .int .i64 0, .int .i64 0, .int .i64 0, .int .i64 0, .bool false]⟩),
  (58, ⟨.struct [(0, 33), (4, 27), (6, 4)], 7, 56, [.int .i64 0, .int .i64 0, .int .i64 0, .int .i64 0, .int .i64 0, .int .i64 0, .bool false]⟩),
  (62, ⟨.struct [(0, 9), (1, 4), (2, 9)], 3, 40, [.string { data := #[] }, .bool false, .string { data := #[] }]⟩),
  (63, ⟨.struct [(0, 9), (1, 4), (2, 9)], 3, 40, [.string { data := #[] }, .bool false, .string { data := #[] }]⟩),
  (64, ⟨.struct [(0, 9), (1, 9)], 2, 32, [.string { data := #[] }, .string { data := #[] }]⟩),
  (65, ⟨.struct [(0, 9), (1, 9)], 2, 32, [.string { data := #[] }, .string { data := #[] }]⟩),
  (69, ⟨.ptr 31, 1, 8, [.pointer none]⟩),
  (83, ⟨.struct [(0, 27), (2, 4), (3, 9)], 4, 40, [.int .i64 0, .int .i64 0, .bool false, .string { data := #[] }]⟩),
  (84, ⟨.struct [(0, 27), (2, 4), (3, 9)], 4, 40, [.int .i64 0, .int .i64 0, .bool false, .string { data := #[] }]⟩),
  (112, ⟨.slice 3, 1, 24, [.slice none 0 0]⟩)]
theorem Γok : TypesOk Try.prog Γ :=
  typesOk_cons ⟨by kernel_rfl, by kernel_rfl, rfl, rfl, by kernel_rfl⟩ <|
  typesOk_cons ⟨by kernel_rfl, by kernel_rfl, rfl, rfl, by kernel_rfl⟩ <|
  typesOk_cons ⟨by kernel_rfl, by kernel_rfl, rfl, rfl, by kernel_rfl⟩ <|
  typesOk_cons ⟨by kernel_rfl, by kernel_rfl, rfl, rfl, by kernel_rfl⟩ <|
  typesOk_cons ⟨by kernel_rfl, by kernel_rfl, rfl, rfl, by kernel_rfl⟩ <|
  typesOk_cons ⟨by kernel_rfl, by kernel_rfl, rfl, rfl, by kernel_rfl⟩ <|
  typesOk_cons ⟨by kernel_rfl, by kernel_rfl, rfl, rfl, by kernel_rfl⟩ <|
  typesOk_cons ⟨by kernel_rfl, by kernel_rfl, rfl, rfl, by kernel_rfl⟩ <|
  typesOk_cons ⟨by kernel_rfl, by kernel_rfl, rfl, rfl, by kernel_rfl⟩ <|
  typesOk_cons ⟨by kernel_rfl, by kernel_rfl, rfl, rfl, by kernel_rfl⟩ <|
  typesOk_cons ⟨by kernel_rfl, by kernel_rfl, rfl, rfl, by kernel_rfl⟩ <|
  typesOk_cons ⟨by kernel_rfl, by kernel_rfl, rfl, rfl, by kernel_rfl⟩ <|
  typesOk_cons ⟨by kernel_rfl, by kernel_rfl, rfl, rfl, by kernel_rfl⟩ <|
  typesOk_cons ⟨by kernel_rfl, by kernel_rfl, rfl, rfl, by kernel_rfl⟩ <|
  typesOk_cons ⟨by kernel_rfl, by kernel_rfl, rfl, rfl, by kernel_rfl⟩ <|
  typesOk_cons ⟨by kernel_rfl, by kernel_rfl, rfl, rfl, by kernel_rfl⟩ <|
  typesOk_cons ⟨by kernel_rfl, by kernel_rfl, rfl, rfl, by kernel_rfl⟩ <|
  typesOk_cons ⟨by kernel_rfl, by kernel_rfl, rfl, rfl, by kernel_rfl⟩ <|
  typesOk_cons ⟨by kernel_rfl, by kernel_rfl, rfl, rfl, by kernel_rfl⟩ <|
  typesOk_cons ⟨by kernel_rfl, by kernel_rfl, rfl, rfl, by kernel_rfl⟩ <|
  typesOk_cons ⟨by kernel_rfl, by kernel_rfl, rfl, rfl, by kernel_rfl⟩ <|
  typesOk_cons ⟨by kernel_rfl, by kernel_rfl, rfl, rfl, by kernel_rfl⟩ <|
  typesOk_cons ⟨by kernel_rfl, by kernel_rfl, rfl, rfl, by kernel_rfl⟩ <|
  typesOk_cons ⟨by kernel_rfl, by kernel_rfl, rfl, rfl, by kernel_rfl⟩ <|
  typesOk_cons ⟨by kernel_rfl, by kernel_rfl, rfl, rfl, by kernel_rfl⟩ <|
  typesOk_cons ⟨by kernel_rfl, by kernel_rfl, rfl, rfl, by kernel_rfl⟩ <|
  typesOk_cons ⟨by kernel_rfl, by kernel_rfl, rfl, rfl, by kernel_rfl⟩ <|
  typesOk_cons ⟨by kernel_rfl, by kernel_rfl, rfl, rfl, by kernel_rfl⟩ <|
  typesOk_cons ⟨by kernel_rfl, by kernel_rfl, rfl, rfl, by kernel_rfl⟩ <|
  typesOk_cons ⟨by kernel_rfl, by kernel_rfl, rfl, rfl, by kernel_rfl⟩ <|
  typesOk_cons ⟨by kernel_rfl, by kernel_rfl, rfl, rfl, by kernel_rfl⟩ <|
  typesOk_cons ⟨by kernel_rfl, by kernel_rfl, rfl, rfl, by kernel_rfl⟩ <|
  typesOk_cons ⟨by kernel_rfl, by kernel_rfl, rfl, rfl, by kernel_rfl⟩ <|
  typesOk_cons ⟨by kernel_rfl, by kernel_rfl, rfl, rfl, by kernel_rfl⟩ <|
  typesOk_cons ⟨by kernel_rfl, by kernel_rfl, rfl, rfl, by kernel_rfl⟩ <|
  typesOk_cons ⟨by kernel_rfl, by kernel_rfl, rfl, rfl, by kernel_rfl⟩ <|
  typesOk_cons ⟨by kernel_rfl, by kernel_rfl, rfl, rfl, by kernel_rfl⟩ <|
  typesOk_cons ⟨by kernel_rfl, by kernel_rfl, rfl, rfl, by kernel_rfl⟩ <|
  typesOk_cons ⟨by kernel_rfl, by kernel_rfl, rfl, rfl, by kernel_rfl⟩ <|
  typesOk_nil _

theorem okv_nil {m : Mem} : ∀ v ∈ ([] : List AV), v.ok m := fun _ h => (by cases h)
theorem okv_cons {m : Mem} {v : AV} {l : List AV} (h : v.ok m) (hl : ∀ u ∈ l, u.ok m) : ∀ u ∈ v :: l, u.ok m := fun u hu => (List.mem_cons.1 hu).elim (fun e => e ▸ h) (hl u)
theorem okL_v {m : Mem} {cs : List Value} (h : oneAll cs = true) : AV.ok m (.agg (vmap cs)) := okL_vmap (oneAll_spec h)

/-! ### What the program's values stand for -/
structure Stamp where
  wall : Int
  tie : Int
  deriving DecidableEq
structure Tri where
  node : Int
  life : Int
  seq : Int
  att : Int
  deriving DecidableEq
structure Lk where
  who : Tri
  home : Int
  at_ : Stamp
  drop : Bool
  data : ByteArray
  deriving DecidableEq
structure Ver where
  at_ : Stamp
  drop : Bool
  data : ByteArray
  deriving DecidableEq
structure Cell where
  key : ByteArray
  vers : List Ver
  locked : Bool
  lock : Lk
  deriving DecidableEq
structure Pair where
  key : ByteArray
  data : ByteArray
  deriving DecidableEq
structure Span where
  lo : ByteArray
  hi : ByteArray
  deriving DecidableEq
structure Wr where
  key : ByteArray
  drop : Bool
  data : ByteArray
  deriving DecidableEq
structure Outc where
  who : Tri
  at_ : Stamp
  yes : Bool
  deriving DecidableEq

def Stamp.c (s : Stamp) : List Value := [.int .i64 s.wall, .int .i64 s.tie]
def Tri.c (s : Tri) : List Value := [.int .i64 s.node, .int .i64 s.life, .int .i64 s.seq, .int .i64 s.att]
def Lk.c (s : Lk) : List Value := [.int .i64 s.who.node, .int .i64 s.who.life, .int .i64 s.who.seq, .int .i64 s.who.att, .int .i64 s.home, .int .i64 s.at_.wall, .int .i64 s.at_.tie, .bool s.drop, .string s.data]
def Ver.c (s : Ver) : List Value := [.int .i64 s.at_.wall, .int .i64 s.at_.tie, .bool s.drop, .string s.data]
def Pair.c (s : Pair) : List Value := [.string s.key, .string s.data]
def Span.c (s : Span) : List Value := [.string s.lo, .string s.hi]
def Wr.c (s : Wr) : List Value := [.string s.key, .bool s.drop, .string s.data]
def Outc.c (s : Outc) : List Value := [.int .i64 s.who.node, .int .i64 s.who.life, .int .i64 s.who.seq, .int .i64 s.who.att, .int .i64 s.at_.wall, .int .i64 s.at_.tie, .bool s.yes]
/-- A cell's cells, its versions at the slice x. -/
def Cell.c (s : Cell) (x : Sl) : List Value := [.string s.key, .slice x.A x.n x.c, .bool s.locked, .int .i64 s.lock.who.node, .int .i64 s.lock.who.life, .int .i64 s.lock.who.seq, .int .i64 s.lock.who.att, .int .i64 s.lock.home, .int .i64 s.lock.at_.wall, .int .i64 s.lock.at_.tie, .bool s.lock.drop, .string s.lock.data]
def av (cs : List Value) : Value := .agg cs.toArray

/-- The slice x shows these cells. -/
structure Row (m : Mem) (sz : Nat) (x : Sl) (cells : List Value) : Prop where
  len : cells.length = x.n * sz
  cap : x.n ≤ x.c
  most : x.c ≤ maxLen
  reads : 0 < x.n → ∃ a, x.A = some a ∧ MemReads m a cells

theorem MemReads.mono' {m m' : Mem} {a : Addr} {cs : List Value} (h : MemReads m a cs) (hm : m.le m') : MemReads m' a cs := MemReads.mono h hm
theorem Row.mono {m m' : Mem} {sz : Nat} {x : Sl} {cells : List Value} (h : Row m sz x cells) (hm : m.le m') : Row m' sz x cells :=
  ⟨h.len, h.cap, h.most, fun hn => (h.reads hn).imp fun _ ⟨h1, h2⟩ => ⟨h1, MemReads.mono h2 hm⟩⟩
theorem MemReads.part {m : Mem} {a : Addr} {cs : List Value} (h : MemReads m a cs) (off : Nat) {ds : List Value} (hd : ∀ j u, ds[j]? = some u → cs[off + j]? = some u) : MemReads m (a.add off) ds := by
  obtain ⟨hs, c, t, fr, hm, hc⟩ := h
  rw [addr_add hs]
  exact ⟨rfl, c, t, fr, hm, fun j u hu => by
    have := hc _ _ (hd j u hu)
    simpa [Nat.add_assoc] using this⟩

theorem flat_length {α : Type} {f : α → List Value} {sz : Nat} (hf : ∀ x, (f x).length = sz) (l : List α) : (l.flatMap f).length = l.length * sz := by
  induction l with
  | nil => simp
  | cons x r ih => simp [hf, ih, Nat.add_mul, Nat.add_comm]
theorem flat_get {α : Type} {f : α → List Value} {sz : Nat} (hf : ∀ x, (f x).length = sz) : ∀ (l : List α) (k : Nat) (x : α), l[k]? = some x → ∀ j u, (f x)[j]? = some u → (l.flatMap f)[k * sz + j]? = some u := by
  intro l
  induction l with
  | nil => intro k x h; simp at h
  | cons y r ih =>
    intro k x h j u hu
    have hj : j < sz := by rw [← hf x]; exact (List.getElem?_eq_some_iff.1 hu).1
    cases k with
    | zero =>
      simp at h; subst h
      simp only [List.flatMap_cons, Nat.zero_mul, Nat.zero_add]
      rw [List.getElem?_append_left (by rw [hf]; exact hj)]; exact hu
    | succ k =>
      simp only [List.getElem?_cons_succ] at h
      simp only [List.flatMap_cons]
      rw [List.getElem?_append_right (by rw [hf, Nat.succ_mul]; omega)]
      have := ih k x h j u hu
      rw [hf]
      have e : (k + 1) * sz + j - sz = k * sz + j := by rw [Nat.succ_mul]; omega
      rw [e]; exact this

/-- A list of things without lists of their own. -/
def Flat {α : Type} (f : α → List Value) (sz : Nat) (m : Mem) (x : Sl) (l : List α) : Prop := Row m sz x (l.flatMap f) ∧ x.n = l.length
theorem Flat.mono {α : Type} {f : α → List Value} {sz : Nat} {m m' : Mem} {x : Sl} {l : List α} (h : Flat f sz m x l) (hm : m.le m') : Flat f sz m' x l := ⟨h.1.mono hm, h.2⟩
theorem Flat.at {α : Type} {f : α → List Value} {sz : Nat} {m : Mem} {x : Sl} {l : List α} (h : Flat f sz m x l) (hf : ∀ x, (f x).length = sz) {k : Nat} {y : α} (hk : l[k]? = some y) :
    ∃ a, x.A = some a ∧ MemReads m (a.add (k * sz)) (f y) := by
  have hlt : k < l.length := (List.getElem?_eq_some_iff.1 hk).1
  obtain ⟨a, ha, hr⟩ := h.1.reads (by rw [h.2]; omega)
  exact ⟨a, ha, hr.part _ (fun j u hu => flat_get hf l k y hk j u hu)⟩
abbrev VerRow := Flat Ver.c 4
abbrev OutRow := Flat Outc.c 7
abbrev PairRow := Flat Pair.c 2
abbrev SpanRow := Flat Span.c 2
abbrev WrRow := Flat Wr.c 3
/-- Cells, each with its versions. -/
def CellRow (m : Mem) (x : Sl) (l : List Cell) : Prop := ∃ g : List (Cell × Sl), g.map (·.1) = l ∧ Flat (fun p => p.1.c p.2) 12 m x g ∧ ∀ p ∈ g, VerRow m p.2 p.1.vers
theorem CellRow.mono {m m' : Mem} {x : Sl} {l : List Cell} (h : CellRow m x l) (hm : m.le m') : CellRow m' x l := by
  obtain ⟨g, h1, h2, h3⟩ := h
  exact ⟨g, h1, h2.mono hm, fun p hp => (h3 p hp).mono hm⟩
theorem CellRow.n {m : Mem} {x : Sl} {l : List Cell} (h : CellRow m x l) : x.n = l.length := by
  obtain ⟨g, h1, h2, h3⟩ := h
  rw [h2.2, ← h1, List.length_map]
theorem CellRow.at {m : Mem} {x : Sl} {l : List Cell} (h : CellRow m x l) {k : Nat} {y : Cell} (hk : l[k]? = some y) :
    ∃ a s, x.A = some a ∧ MemReads m (a.add (k * 12)) (y.c s) ∧ VerRow m s y.vers := by
  obtain ⟨g, h1, h2, h3⟩ := h
  rw [← h1, List.getElem?_map] at hk
  cases hg : g[k]? with
  | none => rw [hg] at hk; cases hk
  | some p =>
    rw [hg] at hk
    simp only [Option.map_some, Option.some.injEq] at hk
    subst hk
    obtain ⟨a, ha, hr⟩ := h2.at (fun _ => rfl) hg
    exact ⟨a, p.2, ha, hr, h3 p (List.mem_of_getElem? hg)⟩
end Vc
end

section
open Go Go.Proofs Vc
namespace Vc

def Stamp.less (a b : Stamp) : Bool := decide (a.wall < b.wall) || (decide (a.wall = b.wall) && decide (a.tie < b.tie))
def vi (z : Int) : Value := .int .i64 z
abbrev ai (z : Int) : AV := .one (.v (.int .i64 z))

theorem f48 (m : Mem) (a b : Stamp) : FnS Try.prog 48 m [av a.c, av b.c] (.bool (a.less b)) := by
  refine fnS (args := [.agg (vmap a.c), .agg (vmap b.c)]) Γok mix Try.func48 rfl (by kernel_rfl) Try.ntmps48 rfl rfl (by simp) (okv_cons (okL_v rfl) (okv_cons (okL_v rfl) okv_nil)) ?_
  intro W
  refine ⟨fun h1 => ?_, fun h1 => ⟨fun h2 => ?_, fun h2 => ?_⟩⟩
  · exact ⟨[], retS fun ρ => by simp at h1; simp [AV.con, Leaf.con, Stamp.less, h1]⟩
  · exact ⟨[], retS fun ρ => by simp at h1 h2; simp [AV.con, Leaf.con, Stamp.less, h1, h2]⟩
  · exact ⟨[], retS fun ρ => by simp at h1 h2; simp [AV.con, Leaf.con, Stamp.less, h1, h2] <;> omega⟩

theorem f77 (m : Mem) (x : Int) : FnS Try.prog 77 m [vi x] (.bool false) := by
  refine fnS (args := [ai x]) Γok mix Try.func77 rfl (by kernel_rfl) Try.ntmps77 rfl rfl (by simp) (okv_cons rfl okv_nil) ?_
  intro W
  exact ⟨[], retS fun ρ => by simp [AV.con, Leaf.con]⟩

def cmpI (x y : Int) : Int := if x < y then -1 else if x > y then 1 else 0
theorem f68 (m : Mem) (x y : Int) : FnS Try.prog 68 m [vi x, vi y] (vi (cmpI x y)) := by
  refine fnS (args := [ai x, ai y]) Γok mix Try.func68 rfl (by kernel_rfl) Try.ntmps68 rfl rfl (by simp) (okv_cons rfl (okv_cons rfl okv_nil)) ?_
  intro W
  refine ⟨[], callS (f77 m x) rfl rfl ?_⟩
  refine ⟨[], callS (f77 m y) rfl rfl ?_⟩
  refine ⟨fun h => (by cases h), fun _ => ⟨fun h => (by cases h), fun _ => ⟨fun h1 => ?_, fun h1 => ⟨fun h2 => ?_, fun h2 => ?_⟩⟩⟩⟩
  · exact ⟨[], retS fun ρ => by simp at h1; simp [AV.con, Leaf.con, cmpI, vi, h1]⟩
  · exact ⟨[], retS fun ρ => by simp at h1 h2; simp [AV.con, Leaf.con, cmpI, vi, h1, h2] <;> omega⟩
  · exact ⟨[], retS fun ρ => by simp at h1 h2; simp [AV.con, Leaf.con, cmpI, vi, h1, h2] <;> omega⟩
end Vc
end

section
open Go Go.Proofs Vc
namespace Vc

abbrev asl (x : Sl) : AV := .one (.v (.slice x.A x.n x.c))
def vsl (x : Sl) : Value := .slice x.A x.n x.c
def ints (z : Int) : List Value := [.int .i64 z]
def orI : List Int → Int
  | [] => 0
  | x :: r => if x = 0 then orI r else x
theorem orI_drop {l : List Int} {i : Nat} {x : Int} (h : l[i]? = some x) : orI (l.drop i) = if x = 0 then orI (l.drop (i + 1)) else x := by
  obtain ⟨hlt, rfl⟩ := List.getElem?_eq_some_iff.1 h
  rw [List.drop_eq_getElem_cons hlt]; rfl
theorem i64_in (n : Int) (h : -9223372036854775808 ≤ n ∧ n ≤ 9223372036854775807) : IntKind.i64.wrap n = n := by rw [IntKind.wrap_i64]; omega
theorem maxLen_le : maxLen ≤ 9223372036854775807 := by decide

theorem f67 (m : Mem) (x : Sl) (l : List Int) (h : Flat ints 1 m x l) : FnS Try.prog 67 m [vsl x] (vi (orI l)) := by
  refine fnS (args := [asl x]) Γok mix Try.func67 rfl (by kernel_rfl) Try.ntmps67 rfl rfl (by simp) (okv_cons rfl okv_nil) ?_
  intro W
  have hx := h.1.cap; have hx' := h.1.most; have hm := maxLen_le
  refine ⟨[], ⟨⟨Nat, fun i => i ≤ x.n ∧ orI l = orI (l.drop i), fun i => x.n - i, fun i => [(8, ai i), (7, ai x.n), (6, asl x), (3, ai 0)], fun _ => [], fun _ => m, ⟨0, ⟨by omega, rfl⟩, entails_ren [] ⟨rfl, rfl, rfl, rfl, trivial⟩ trivial rfl rfl⟩, fun i hi => ?_⟩⟩⟩
  obtain ⟨hin, hor⟩ := hi
  refine ⟨fun h1 => ?_, fun h1 => ?_⟩
  · have h1 : i < x.n := by simpa using h1
    have hlt : i < l.length := by rw [← h.2]; exact h1
    obtain ⟨a, hA, hr⟩ := h.at (fun _ => rfl) (List.getElem?_eq_getElem hlt)
    refine ⟨i, a, _, rfl, h1, hA, hr, ?_⟩
    have hd := orI_drop (List.getElem?_eq_getElem hlt)
    refine ⟨fun h2 => ?_, fun h2 => ?_⟩
    · have h2 : l[i] ≠ 0 := by simpa using h2
      exact ⟨[], retS fun ρ => by rw [hor, hd, if_neg h2]; rfl⟩
    · have h2 : l[i] = 0 := by simpa using h2
      refine ⟨((i + 1 : Nat) : Int), i64_in _ (by omega), ?_⟩
      exact ⟨[], i + 1, ⟨by omega, by rw [hor, hd, if_pos h2]⟩, by show x.n - (i + 1) < x.n - i; omega, entails_ren [] ⟨rfl, rfl, rfl, rfl, trivial⟩ trivial rfl rfl⟩
  · have h1 : ¬ i < x.n := by simpa using h1
    exact ⟨[], retS fun ρ => by rw [hor, List.drop_eq_nil_of_le (by rw [← h.2]; omega)]; rfl⟩
end Vc
end

section
open Go Go.Proofs Vc
namespace Vc

/-- A call that only reads, without rows of one's own. -/
theorem pureS {E : Env} {f : FuncId} {args : List AV} {d : Option Nat} {F : Fr} {B : Ents} {m : Mem} {K : Cont} {v : Value} {vals : List Value} (h : FnS E.P f m vals v) (hv : avals args = some vals) (ho : oneV v = true)
    (hK : putK E d (ofRes v) F B m K) : PureNode E f args d F B m K := callSP [] rfl ⟨vals, hv, h⟩ ho hK

theorem f53 (m : Mem) (a b : Stamp) : FnS Try.prog 53 m [av a.c, av b.c] (.bool (a.less b)) := by
  refine fnS (args := [.agg (vmap a.c), .agg (vmap b.c)]) Γok mix Try.func53 rfl (by kernel_rfl) Try.ntmps53 rfl rfl (by simp) (okv_cons (okL_v rfl) (okv_cons (okL_v rfl) okv_nil)) ?_
  intro W
  refine draw Γok [(1, 2), (3, 3), (6, 2), (8, 3)] [4, 9, 10, 11] (.take 0 (.take 1 (.take 2 (.take 3 (.take 5 (.take 6 (.take 7 (.take 8 (.pcall 4 (.pcall 9 (.one 10 [] (.one 11 [] (.take 12 (.take 13 .done)))))))))))))) (by kernel_rfl) ?_
  refine pureS (f68 m a.wall b.wall) rfl rfl ?_
  refine pureS (f68 m a.tie b.tie) rfl rfl ?_
  refine ⟨[], ?_⟩
  refine PureNode.kept (callSP [15] (v := vi (orI [cmpI a.wall b.wall, cmpI a.tie b.tie])) rfl (fun A c m1 hd h1 h2 h3 h4 => ?_) rfl ?_)
  · refine ⟨_, rfl, f67 _ ⟨A, 2, c⟩ [cmpI a.wall b.wall, cmpI a.tie b.tie] ⟨⟨rfl, h2, h3, fun hn => ?_⟩, rfl⟩⟩
    obtain ⟨a', h5, h6⟩ := h4 hn
    exact ⟨a', h5, h6.mono' (Mem.join_right hd)⟩
  · exact ⟨[], retS fun ρ => by
      simp only [AV.con, Leaf.con, Stamp.less, orI, cmpI]
      congr 1
      rcases Int.lt_trichotomy a.wall b.wall with h | h | h <;> rcases Int.lt_trichotomy a.tie b.tie with h' | h' | h' <;> simp [h, h', Int.lt_asymm] <;> omega⟩
end Vc
end

section
open Go Go.Proofs Vc
namespace Vc

/-- the last of the first n versions that is not above s; -1: none -/
def lastN (l : List Ver) (s : Stamp) : Nat → Int
  | 0 => -1
  | n + 1 => match l[n]? with
    | some v => if s.less v.at_ then lastN l s n else n
    | none => -1
def lastV (l : List Ver) (s : Stamp) : Int := lastN l s l.length

theorem f63 (m : Mem) (x : Sl) (l : List Ver) (s : Stamp) (h : VerRow m x l) : FnS Try.prog 63 m [vsl x, av s.c] (vi (lastV l s)) := by
  refine fnS (args := [asl x, .agg (vmap s.c)]) Γok mix Try.func63 rfl (by kernel_rfl) Try.ntmps63 rfl rfl (by simp) (okv_cons rfl (okv_cons (okL_v rfl) okv_nil)) ?_
  intro W
  have hx := h.1.cap; have hx' := h.1.most; have hm := maxLen_le; have hn := h.2
  refine ⟨(x.n : Int) - 1, i64_in _ (by omega), ?_⟩
  refine ⟨[], ⟨⟨Nat, fun n => n ≤ x.n ∧ lastV l s = lastN l s n, fun n => n, fun n => [(5, ai (n - 1)), (3, .one (.ptr 3 0)), (0, asl x)], fun _ => [(3, .box (vmap s.c) 27)], fun _ => m,
    ⟨x.n, ⟨by omega, by rw [lastV, hn]⟩, entails_ren [] ⟨rfl, rfl, rfl, trivial⟩ ⟨rfl, trivial⟩ rfl rfl⟩, fun n hi => ?_⟩⟩⟩
  obtain ⟨hin, hlast⟩ := hi
  refine ⟨fun h1 => ?_, fun h1 => ?_⟩
  · have h1 : 0 < n := by simp at h1; omega
    obtain ⟨k, rfl⟩ : ∃ k, n = k + 1 := ⟨n - 1, by omega⟩
    have hlt : k < l.length := by omega
    have hg := List.getElem?_eq_getElem hlt
    obtain ⟨a, hA, hr⟩ := h.at (fun _ => rfl) hg
    refine draw Γok [(0, 3)] [6] (.take 0 (.take 1 (.take 2 (.take 3 (.take 4 (.take 5 (.pcall 6 (.take 7 .done)))))))) (by kernel_rfl) ?_
    refine ⟨k, a, _, by omega, by omega, hA, hr, ?_⟩
    refine pureS (f53 m s l[k].at_) rfl rfl ?_
    simp only [lastN, hg] at hlast
    refine ⟨fun h2 => ?_, fun h2 => ?_⟩
    · have h2 : s.less l[k].at_ = false := by simpa using h2
      exact ⟨[], retS fun ρ => by rw [hlast, h2]; simp [AV.con, Leaf.con, vi]⟩
    · have h2 : s.less l[k].at_ = true := by simpa using h2
      refine ⟨(k : Int) - 1, by rw [i64_in _ (by omega)]; omega, ?_⟩
      exact ⟨[], k, ⟨by omega, by rw [hlast, h2]; rfl⟩, by show k < k + 1; omega, entails_ren [] ⟨rfl, rfl, rfl, trivial⟩ ⟨rfl, trivial⟩ rfl rfl⟩
  · have h1 : n = 0 := by simp at h1; omega
    subst h1
    exact ⟨[], retS fun ρ => by rw [hlast]; rfl⟩
end Vc
end

section
open Go Go.Proofs Vc
namespace Vc

theorem eqs {t : TypeId} {xs ys : List Value} (n : Nat) (hn : Nat.ble n 10000 = true) (hg : Try.prog.eqGuardType Try.prog.depth t = false) (hs : isStructB (Try.prog.underlying t) = true) (hx : fits Try.prog n t xs = true) (hy : fits Try.prog n t ys = true) {q : Prop} [Decidable q] (hq : xs = ys ↔ q)
    {E : Env} {d : Option Nat} {F : Fr} {B : Ents} {m : Mem} {K : Cont} (hE : E.P = Try.prog) {l l' : List Leaf} (hl : vals? l = some xs) (hl' : vals? l' = some ys) (h : putK E d (boolLeaf (decide q)) F B m K) : EqNode E t false l l' d F B m K :=
  ⟨⟨xs, ys, decide q, hl, hl', fun W => by rw [hE]; exact (run_eq n hn hg hs hx hy hq W).1, h⟩⟩
theorem neqs {t : TypeId} {xs ys : List Value} (n : Nat) (hn : Nat.ble n 10000 = true) (hg : Try.prog.eqGuardType Try.prog.depth t = false) (hs : isStructB (Try.prog.underlying t) = true) (hx : fits Try.prog n t xs = true) (hy : fits Try.prog n t ys = true) {q : Prop} [Decidable q] (hq : xs = ys ↔ q)
    {E : Env} {d : Option Nat} {F : Fr} {B : Ents} {m : Mem} {K : Cont} (hE : E.P = Try.prog) {l l' : List Leaf} (hl : vals? l = some xs) (hl' : vals? l' = some ys) (h : putK E d (boolLeaf (!decide q)) F B m K) : EqNode E t true l l' d F B m K :=
  ⟨⟨xs, ys, !decide q, hl, hl', fun W => by rw [hE]; exact (run_eq n hn hg hs hx hy hq W).2, h⟩⟩
theorem tri_c (a b : Tri) : a.c = b.c ↔ a = b := by cases a; cases b; simp [Tri.c]
theorem stamp_c (a b : Stamp) : a.c = b.c ↔ a = b := by cases a; cases b; simp [Stamp.c]
theorem pair_c (a b : Pair) : a.c = b.c ↔ a = b := by cases a; cases b; simp [Pair.c]
theorem ver_c (a b : Ver) : a.c = b.c ↔ a = b := by
  obtain ⟨⟨_, _⟩, _, _⟩ := a; obtain ⟨⟨_, _⟩, _, _⟩ := b; simp [Ver.c, and_assoc]
theorem lk_c (a b : Lk) : a.c = b.c ↔ a = b := by
  obtain ⟨⟨_, _, _, _⟩, _, ⟨_, _⟩, _, _⟩ := a; obtain ⟨⟨_, _, _, _⟩, _, ⟨_, _⟩, _, _⟩ := b; simp [Lk.c, and_assoc]
theorem out_c (a b : Outc) : a.c = b.c ↔ a = b := by
  obtain ⟨⟨_, _, _, _⟩, ⟨_, _⟩, _⟩ := a; obtain ⟨⟨_, _, _, _⟩, ⟨_, _⟩, _⟩ := b; simp [Outc.c, and_assoc]
theorem eq33 {a b : Tri} {E : Env} {d : Option Nat} {F : Fr} {B : Ents} {m : Mem} {K : Cont} (hE : E.P = Try.prog) (h : putK E d (boolLeaf (decide (a = b))) F B m K) : EqNode E 33 false (vmap a.c) (vmap b.c) d F B m K :=
  eqs 3 rfl (by kernel_rfl) (by kernel_rfl) (by kernel_rfl) (by kernel_rfl) (tri_c a b) hE rfl rfl h
theorem neq33 {a b : Tri} {E : Env} {d : Option Nat} {F : Fr} {B : Ents} {m : Mem} {K : Cont} (hE : E.P = Try.prog) (h : putK E d (boolLeaf (!decide (a = b))) F B m K) : EqNode E 33 true (vmap a.c) (vmap b.c) d F B m K :=
  neqs 3 rfl (by kernel_rfl) (by kernel_rfl) (by kernel_rfl) (by kernel_rfl) (tri_c a b) hE rfl rfl h
theorem eq27 {a b : Stamp} {E : Env} {d : Option Nat} {F : Fr} {B : Ents} {m : Mem} {K : Cont} (hE : E.P = Try.prog) (h : putK E d (boolLeaf (decide (a = b))) F B m K) : EqNode E 27 false (vmap a.c) (vmap b.c) d F B m K :=
  eqs 3 rfl (by kernel_rfl) (by kernel_rfl) (by kernel_rfl) (by kernel_rfl) (stamp_c a b) hE rfl rfl h
theorem neq27 {a b : Stamp} {E : Env} {d : Option Nat} {F : Fr} {B : Ents} {m : Mem} {K : Cont} (hE : E.P = Try.prog) (h : putK E d (boolLeaf (!decide (a = b))) F B m K) : EqNode E 27 true (vmap a.c) (vmap b.c) d F B m K :=
  neqs 3 rfl (by kernel_rfl) (by kernel_rfl) (by kernel_rfl) (by kernel_rfl) (stamp_c a b) hE rfl rfl h
theorem eq50 {a b : Pair} {E : Env} {d : Option Nat} {F : Fr} {B : Ents} {m : Mem} {K : Cont} (hE : E.P = Try.prog) (h : putK E d (boolLeaf (decide (a = b))) F B m K) : EqNode E 50 false (vmap a.c) (vmap b.c) d F B m K :=
  eqs 3 rfl (by kernel_rfl) (by kernel_rfl) (by kernel_rfl) (by kernel_rfl) (pair_c a b) hE rfl rfl h
theorem neq50 {a b : Pair} {E : Env} {d : Option Nat} {F : Fr} {B : Ents} {m : Mem} {K : Cont} (hE : E.P = Try.prog) (h : putK E d (boolLeaf (!decide (a = b))) F B m K) : EqNode E 50 true (vmap a.c) (vmap b.c) d F B m K :=
  neqs 3 rfl (by kernel_rfl) (by kernel_rfl) (by kernel_rfl) (by kernel_rfl) (pair_c a b) hE rfl rfl h
theorem eq53 {a b : Lk} {E : Env} {d : Option Nat} {F : Fr} {B : Ents} {m : Mem} {K : Cont} (hE : E.P = Try.prog) (h : putK E d (boolLeaf (decide (a = b))) F B m K) : EqNode E 53 false (vmap a.c) (vmap b.c) d F B m K :=
  eqs 4 rfl (by kernel_rfl) (by kernel_rfl) (by kernel_rfl) (by kernel_rfl) (lk_c a b) hE rfl rfl h
theorem neq53 {a b : Lk} {E : Env} {d : Option Nat} {F : Fr} {B : Ents} {m : Mem} {K : Cont} (hE : E.P = Try.prog) (h : putK E d (boolLeaf (!decide (a = b))) F B m K) : EqNode E 53 true (vmap a.c) (vmap b.c) d F B m K :=
  neqs 4 rfl (by kernel_rfl) (by kernel_rfl) (by kernel_rfl) (by kernel_rfl) (lk_c a b) hE rfl rfl h
theorem eq58 {a b : Outc} {E : Env} {d : Option Nat} {F : Fr} {B : Ents} {m : Mem} {K : Cont} (hE : E.P = Try.prog) (h : putK E d (boolLeaf (decide (a = b))) F B m K) : EqNode E 58 false (vmap a.c) (vmap b.c) d F B m K :=
  eqs 4 rfl (by kernel_rfl) (by kernel_rfl) (by kernel_rfl) (by kernel_rfl) (out_c a b) hE rfl rfl h
theorem neq58 {a b : Outc} {E : Env} {d : Option Nat} {F : Fr} {B : Ents} {m : Mem} {K : Cont} (hE : E.P = Try.prog) (h : putK E d (boolLeaf (!decide (a = b))) F B m K) : EqNode E 58 true (vmap a.c) (vmap b.c) d F B m K :=
  neqs 4 rfl (by kernel_rfl) (by kernel_rfl) (by kernel_rfl) (by kernel_rfl) (out_c a b) hE rfl rfl h
theorem neq84 {a b : Ver} {E : Env} {d : Option Nat} {F : Fr} {B : Ents} {m : Mem} {K : Cont} (hE : E.P = Try.prog) (h : putK E d (boolLeaf (!decide (a = b))) F B m K) : EqNode E 84 true (vmap a.c) (vmap b.c) d F B m K :=
  neqs 4 rfl (by kernel_rfl) (by kernel_rfl) (by kernel_rfl) (by kernel_rfl) (ver_c a b) hE rfl rfl h

/-! ### first index -/
def idxI {α : Type} (p : α → Bool) : List α → Nat → Int
  | [], _ => -1
  | x :: r, k => if p x then k else idxI p r (k + 1)
theorem idxI_drop {α : Type} {p : α → Bool} {l : List α} {i : Nat} {x : α} (h : l[i]? = some x) : idxI p (l.drop i) i = if p x then (i : Int) else idxI p (l.drop (i + 1)) (i + 1) := by
  obtain ⟨hlt, rfl⟩ := List.getElem?_eq_some_iff.1 h
  rw [List.drop_eq_getElem_cons hlt]; rfl

theorem f66 (m : Mem) (x : Sl) (l : List Cell) (key : ByteArray) (h : CellRow m x l) : FnS Try.prog 66 m [vsl x, .string key] (vi (idxI (fun c => decide (c.key = key)) l 0)) := by
  refine fnS (args := [asl x, .one (.v (.string key))]) Γok mix Try.func66 rfl (by kernel_rfl) Try.ntmps66 rfl rfl (by simp) (okv_cons rfl (okv_cons rfl okv_nil)) ?_
  intro W
  have hx : x.n ≤ x.c ∧ x.c ≤ maxLen := by obtain ⟨g, _, h2, _⟩ := h; exact ⟨h2.1.cap, h2.1.most⟩
  have hm := maxLen_le; have hn := h.n
  refine ⟨[], ⟨⟨Nat, fun i => i ≤ x.n ∧ idxI (fun c => decide (c.key = key)) l 0 = idxI (fun c => decide (c.key = key)) (l.drop i) i, fun i => x.n - i, fun i => [(5, ai i), (1, .one (.v (.string key))), (0, asl x)], fun _ => [], fun _ => m,
    ⟨0, ⟨by omega, rfl⟩, entails_ren [] ⟨rfl, rfl, rfl, trivial⟩ trivial rfl rfl⟩, fun i hi => ?_⟩⟩⟩
  obtain ⟨hin, hor⟩ := hi
  refine ⟨fun h1 => ?_, fun h1 => ?_⟩
  · have h1 : i < x.n := by simpa using h1
    have hlt : i < l.length := by omega
    obtain ⟨a, s, hA, hr, hv⟩ := h.at (List.getElem?_eq_getElem hlt)
    have hd := idxI_drop (p := fun c => decide (c.key = key)) (List.getElem?_eq_getElem hlt)
    refine ⟨i, a, _, rfl, h1, hA, hr, ?_⟩
    refine ⟨fun h2 => ?_, fun h2 => ?_⟩
    · have h2 : l[i].key = key := by simpa using h2
      exact ⟨[], retS fun ρ => by rw [hor, hd]; simp [h2, AV.con, Leaf.con, vi]⟩
    · have h2 : ¬ l[i].key = key := by simpa using h2
      refine ⟨((i + 1 : Nat) : Int), i64_in _ (by omega), ?_⟩
      exact ⟨[], i + 1, ⟨by omega, by rw [hor, hd]; simp [h2]⟩, by show x.n - (i + 1) < x.n - i; omega, entails_ren [] ⟨rfl, rfl, rfl, trivial⟩ trivial rfl rfl⟩
  · have h1 : ¬ i < x.n := by simpa using h1
    exact ⟨[], retS fun ρ => by rw [hor, List.drop_eq_nil_of_le (by omega)]; rfl⟩
end Vc
end

section
open Go Go.Proofs Vc
namespace Vc

def inSpan (key : ByteArray) (s : Span) : Bool := !sLt key s.lo && sLt key s.hi
theorem f64 (m : Mem) (key : ByteArray) (s : Span) : FnS Try.prog 64 m [.string key, av s.c] (.bool (inSpan key s)) := by
  refine fnS (args := [.one (.v (.string key)), .agg (vmap s.c)]) Γok mix Try.func64 rfl (by kernel_rfl) Try.ntmps64 rfl rfl (by simp) (okv_cons rfl (okv_cons (okL_v rfl) okv_nil)) ?_
  intro W
  refine ⟨fun h1 => ?_, fun h1 => ?_⟩
  · exact ⟨[], retS fun ρ => by simp only [inSpan, AV.con, Leaf.con]; rw [h1]; rfl⟩
  · exact ⟨[], retS fun ρ => by simp only [inSpan, AV.con, Leaf.con]; rw [h1]; rfl⟩

/-- what a cell tells at a stamp: the document's way -/
def ofStep (s : Stamp) (acc : ByteArray × Bool) (v : Ver) : ByteArray × Bool := if s.less v.at_ then acc else (v.data, !v.drop)
def ofR (l : List Ver) (s : Stamp) : ByteArray × Bool :=
  let r := l.foldl (ofStep s) (ByteArray.empty, false)
  if r.2 then (r.1, true) else (ByteArray.empty, false)
def vsb (p : ByteArray × Bool) : Value := .tuple #[.string p.1, .bool p.2]

theorem f65 (m : Mem) (x : Sl) (c : Cell) (s : Stamp) (h : VerRow m x c.vers) : FnS Try.prog 65 m [av (c.c x), av s.c] (vsb (ofR c.vers s)) := by
  refine fnS (args := [.agg (vmap (c.c x)), .agg (vmap s.c)]) Γok mix Try.func65 rfl (by kernel_rfl) Try.ntmps65 rfl rfl (by simp) (okv_cons (okL_v rfl) (okv_cons (okL_v rfl) okv_nil)) ?_
  intro W
  have hx := h.1.cap; have hx' := h.1.most; have hm := maxLen_le; have hn := h.2
  refine ⟨[], ⟨⟨Nat × (ByteArray × Bool), fun p => p.1 ≤ x.n ∧ p.2 = (c.vers.take p.1).foldl (ofStep s) (ByteArray.empty, false), fun p => x.n - p.1,
    fun p => [(8, ai p.1), (7, .one (.v (.bool p.2.2))), (6, .one (.v (.string p.2.1))), (3, .one (.ptr 3 0)), (2, .one (.ptr 2 0))], fun _ => [(2, .box (vmap (c.c x)) 55), (3, .box (vmap s.c) 27)], fun _ => m,
    ⟨(0, (ByteArray.empty, false)), ⟨by show 0 ≤ x.n; omega, rfl⟩, entails_ren [] ⟨rfl, rfl, rfl, rfl, rfl, trivial⟩ ⟨rfl, rfl, trivial⟩ rfl rfl⟩, fun p hi => ?_⟩⟩⟩
  obtain ⟨i, acc⟩ := p
  obtain ⟨hin, hacc⟩ := hi
  simp only at hin hacc
  refine ⟨fun h1 => ?_, fun h1 => ?_⟩
  · have h1 : i < x.n := by simpa using h1
    have hlt : i < c.vers.length := by omega
    obtain ⟨a, hA, hr⟩ := h.at (fun _ => rfl) (List.getElem?_eq_getElem hlt)
    have hnext : (c.vers.take (i + 1)).foldl (ofStep s) (ByteArray.empty, false) = ofStep s acc c.vers[i] := by
      rw [List.take_succ_eq_append_getElem hlt, List.foldl_append, ← hacc]; rfl
    refine ⟨i, a, _, rfl, h1, hA, hr, ?_⟩
    refine ⟨[], callS (f48 m s c.vers[i].at_) rfl rfl ?_⟩
    refine ⟨fun h2 => ?_, fun h2 => ?_⟩
    · have h2 : s.less c.vers[i].at_ = false := by simpa using h2
      refine draw Γok [(1, 9), (3, 9)] [] (.take 0 (.take 1 (.take 2 (.take 3 (.take 4 (.take 5 (.take 6 .done))))))) (by kernel_rfl) ?_
      refine ⟨((i + 1 : Nat) : Int), i64_in _ (by omega), ?_⟩
      exact ⟨[], (i + 1, (c.vers[i].data, !c.vers[i].drop)), ⟨by show i + 1 ≤ x.n; omega, by rw [hnext, ofStep, h2]; rfl⟩, by show x.n - (i + 1) < x.n - i; omega, entails_ren [] ⟨rfl, rfl, rfl, rfl, rfl, trivial⟩ ⟨rfl, rfl, trivial⟩ rfl rfl⟩
    · have h2 : s.less c.vers[i].at_ = true := by simpa using h2
      refine ⟨((i + 1 : Nat) : Int), i64_in _ (by omega), ?_⟩
      exact ⟨[], (i + 1, acc), ⟨by show i + 1 ≤ x.n; omega, by rw [hnext, ofStep, h2]; rfl⟩, by show x.n - (i + 1) < x.n - i; omega, entails_ren [] ⟨rfl, rfl, rfl, rfl, rfl, trivial⟩ ⟨rfl, rfl, trivial⟩ rfl rfl⟩
  · have h1 : ¬ i < x.n := by simpa using h1
    have hfin : acc = c.vers.foldl (ofStep s) (ByteArray.empty, false) := by rw [hacc, List.take_of_length_le (by omega)]
    refine ⟨fun h2 => ?_, fun h2 => ?_⟩
    · have h2 : acc.2 = false := by simpa using h2
      exact ⟨[], retS fun ρ => by simp only [ofR, ← hfin, h2]; rfl⟩
    · have h2 : acc.2 = true := by simpa using h2
      exact ⟨[], retS fun ρ => by simp only [ofR, ← hfin, h2]; rfl⟩

/-! ### locked, Max -/
structure Rep where
  err : Int
  pairs : List Pair
  who : Tri
  home : Int
  at_ : Stamp
  wall : Int
  yes : Bool
def Rep.c (r : Rep) (x : Sl) : List Value := [.int .i64 r.err, .slice x.A x.n x.c, .int .i64 r.who.node, .int .i64 r.who.life, .int .i64 r.who.seq, .int .i64 r.who.att, .int .i64 r.home, .int .i64 r.at_.wall, .int .i64 r.at_.tie, .int .i64 r.wall, .bool r.yes]
def Tri.zero : Tri := ⟨0, 0, 0, 0⟩
def Stamp.zero : Stamp := ⟨0, 0⟩
def Sl.nil : Sl := ⟨none, 0, 0⟩
def Rep.zero : Rep := ⟨0, [], Tri.zero, 0, Stamp.zero, 0, false⟩
def lockedR (l : Lk) : Rep := { Rep.zero with err := 20, who := l.who, home := l.home, at_ := l.at_ }
theorem f46 (m : Mem) (l : Lk) : FnS Try.prog 46 m [av l.c] (av ((lockedR l).c Sl.nil)) := by
  refine fnS (args := [.agg (vmap l.c)]) Γok mix Try.func46 rfl (by kernel_rfl) Try.ntmps46 rfl rfl (by simp) (okv_cons (okL_v rfl) okv_nil) ?_
  intro W
  exact ⟨[], retS fun ρ => rfl⟩
theorem f55 (m : Mem) (l : Lk) : FnS Try.prog 55 m [av l.c] (av ((lockedR l).c Sl.nil)) := by
  refine fnS (args := [.agg (vmap l.c)]) Γok mix Try.func55 rfl (by kernel_rfl) Try.ntmps55 rfl rfl (by simp) (okv_cons (okL_v rfl) okv_nil) ?_
  intro W
  exact ⟨[], retS fun ρ => rfl⟩
def Stamp.max (a b : Stamp) : Stamp := if a.less b then b else a
theorem f24 (m : Mem) (a b : Stamp) : FnS Try.prog 24 m [av a.c, av b.c] (av (a.max b).c) := by
  refine fnS (args := [.agg (vmap a.c), .agg (vmap b.c)]) Γok mix Try.func24 rfl (by kernel_rfl) Try.ntmps24 rfl rfl (by simp) (okv_cons (okL_v rfl) (okv_cons (okL_v rfl) okv_nil)) ?_
  intro W
  refine ⟨[], callS (f48 m a b) rfl rfl ?_⟩
  refine ⟨fun h => ?_, fun h => ?_⟩
  · exact ⟨[], retS fun ρ => by simp only [Stamp.max, h]; rfl⟩
  · exact ⟨[], retS fun ρ => by simp only [Stamp.max, h]; rfl⟩
theorem f57 (m : Mem) (a b : Stamp) : FnS Try.prog 57 m [av a.c, av b.c] (av (a.max b).c) := by
  refine fnS (args := [.agg (vmap a.c), .agg (vmap b.c)]) Γok mix Try.func57 rfl (by kernel_rfl) Try.ntmps57 rfl rfl (by simp) (okv_cons (okL_v rfl) (okv_cons (okL_v rfl) okv_nil)) ?_
  intro W
  refine ⟨[], callS (f53 m a b) rfl rfl ?_⟩
  refine ⟨fun h => ?_, fun h => ?_⟩
  · exact ⟨[], retS fun ρ => by simp only [Stamp.max, h]; rfl⟩
  · exact ⟨[], retS fun ρ => by simp only [Stamp.max, h]; rfl⟩
end Vc
end

section
open Go Go.Proofs Vc
namespace Vc

theorem callXS {E : Env} {f : FuncId} {args : List AV} {d : Option Nat} {F : Fr} {B : Ents} {m : Mem} {K : Cont} {Q : SPost} (l : List (Nat × Nat)) (base : Nat) {B1 : Ents} {argsC : List AV} {u : AV} {B' : Ents}
    (hf : FnX E.P f m argsC B1 (Res u B') noPanic) (ha : renAVs (renOf l base) argsC = args) (hc : callOk l base [] [] F B B1 E.pins = true) (hB : sameB (renOf l base) B1 B) (hr : noRdAV u = true) (hr' : noRdB B' = true)
    (hK : putK E d (renAV (renOf l base) u) F (renB (renOf l base) B' ++ restB l B) m K) : CallNode E f args d F B m K Q :=
  KeptNode.call (callXK l base [] hc hB ⟨argsC, ha, hf⟩ (fun u0 B0 mn _ h => by obtain ⟨rfl, rfl, rfl⟩ := h; rw [Mem.join_none]; exact ⟨hr, hr', hK⟩) (fun _ _ _ _ h => h.elim))
theorem retXS {P : Program} {Γ : Types} {N : Nat} {W : World} {m : Mem} {ρ0 : Val} {B0 : Ents} {u : AV} {B : Ents} {u0 : AV} {B' : Ents} (ks : List Nat) (hu : u = u0) (hB : keepB ks B = B') :
    RetNode (envX P Γ N W m ρ0 B0) u B m (RX (envX P [] 0 W m ρ0 B0) (Res u0 B') noPanic) :=
  retX ks Mem.none (Mem.join_none m).symm (Mem.disj_none m) ⟨hu, hB, rfl⟩

theorem f36 (m : Mem) (o : Outc) (y : Tri) : FnX Try.prog 36 m [.agg (vmap o.c), .one (.ptr 1 0)] [(1, .box (vmap y.c) 33)] (Res (boolLeaf (decide (o.who = y))) [(1, .box (vmap y.c) 33)]) noPanic := by
  refine fnX (args := [.agg (vmap o.c), .one (.ptr 1 0)]) Γok mix Try.func36 rfl (by kernel_rfl) Try.ntmps36 rfl (by simp) (okv_cons (okL_v rfl) (okv_cons trivial okv_nil)) ?_
  intro ρ W
  refine eq33 (a := o.who) (b := y) rfl ?_
  exact ⟨[], retXS [1] rfl rfl⟩

theorem f35 (m : Mem) (x : Sl) (l : List Outc) (y : Tri) (h : OutRow m x l) : FnX Try.prog 35 m [asl x, .one (.fn 36 [.ptr 1 0])] [(1, .box (vmap y.c) 33)] (Res (ai (idxI (fun o => decide (o.who = y)) l 0)) [(1, .box (vmap y.c) 33)]) noPanic := by
  refine fnX (args := [asl x, .one (.fn 36 [.ptr 1 0])]) Γok mix Try.func35 rfl (by kernel_rfl) Try.ntmps35 rfl (by simp) (okv_cons rfl (okv_cons (fun c hc => by simp at hc; subst hc; trivial) okv_nil)) ?_
  intro ρ W
  have hx := h.1.cap; have hx' := h.1.most; have hm := maxLen_le; have hn := h.2
  refine ⟨[], ⟨⟨Nat, fun i => i ≤ x.n ∧ idxI (fun o : Outc => decide (o.who = y)) l 0 = idxI (fun o => decide (o.who = y)) (l.drop i) i, fun i => x.n - i, fun i => [(8, ai i), (7, ai x.n), (1, .one (.fn 36 [.ptr 1 0])), (0, asl x)], fun _ => [(1, .box (vmap y.c) 33)], fun _ => m,
    ⟨0, ⟨by omega, rfl⟩, entails_ren [] ⟨rfl, rfl, rfl, rfl, trivial⟩ ⟨rfl, trivial⟩ rfl rfl⟩, fun i hi => ?_⟩⟩⟩
  obtain ⟨hin, hor⟩ := hi
  refine ⟨fun h1 => ?_, fun h1 => ?_⟩
  · have h1 : i < x.n := by simpa using h1
    have hlt : i < l.length := by omega
    obtain ⟨a, hA, hr⟩ := h.at (fun _ => rfl) (List.getElem?_eq_getElem hlt)
    have hd := idxI_drop (p := fun o : Outc => decide (o.who = y)) (List.getElem?_eq_getElem hlt)
    refine ⟨i, a, _, rfl, h1, hA, hr, ?_⟩
    refine ⟨[], callXS [(1, 1)] 1000 (f36 m l[i] y) rfl rfl ⟨rfl, trivial⟩ rfl rfl ?_⟩
    refine ⟨fun h2 => ?_, fun h2 => ?_⟩
    · have h2 : l[i].who = y := by simpa using h2
      exact ⟨[], retXS [1] (by rw [hor, hd]; simp [h2]) rfl⟩
    · have h2 : ¬ l[i].who = y := by simpa using h2
      refine ⟨((i + 1 : Nat) : Int), i64_in _ (by omega), ?_⟩
      exact ⟨[], i + 1, ⟨by omega, by rw [hor, hd]; simp [h2]⟩, by show x.n - (i + 1) < x.n - i; omega, entails_ren [] ⟨rfl, rfl, rfl, rfl, trivial⟩ ⟨rfl, trivial⟩ rfl rfl⟩
  · have h1 : ¬ i < x.n := by simpa using h1
    exact ⟨[], retXS [1] (by rw [hor, List.drop_eq_nil_of_le (by omega)]; rfl) rfl⟩
end Vc
end

section
open Go Go.Proofs Vc
namespace Vc

def Outc.zero : Outc := ⟨Tri.zero, Stamp.zero, false⟩
def findR (y : Tri) : List Outc → Outc × Bool
  | [] => (Outc.zero, false)
  | o :: r => if o.who = y then (o, true) else findR y r
theorem idxI_spec {α : Type} (p : α → Bool) (l : List α) : ∀ k, (idxI p l k = -1 ∧ ∀ x ∈ l, p x = false) ∨ ∃ j x, idxI p l k = ((k + j : Nat) : Int) ∧ l[j]? = some x ∧ p x = true ∧ ∀ i y, i < j → l[i]? = some y → p y = false := by
  induction l with
  | nil => intro k; exact .inl ⟨rfl, by simp⟩
  | cons x r ih =>
    intro k
    by_cases hp : p x = true
    · exact .inr ⟨0, x, by simp [idxI, hp], rfl, hp, by omega⟩
    · have hp : p x = false := by simpa using hp
      rcases ih (k + 1) with ⟨h1, h2⟩ | ⟨j, y, h1, h2, h3, h4⟩
      · exact .inl ⟨by simp [idxI, hp, h1], by simpa [hp] using h2⟩
      · refine .inr ⟨j + 1, y, by simp [idxI, hp, h1]; omega, by simpa using h2, h3, fun i z hi hz => ?_⟩
        cases i with
        | zero => simp at hz; subst hz; exact hp
        | succ i => exact h4 i z (by omega) (by simpa using hz)
theorem findR_none {y : Tri} {l : List Outc} (h : ∀ o ∈ l, decide (o.who = y) = false) : findR y l = (Outc.zero, false) := by
  induction l with
  | nil => rfl
  | cons o r ih =>
    have h1 := h o List.mem_cons_self
    simp at h1
    simp [findR, h1, ih (fun o ho => h o (List.mem_cons_of_mem _ ho))]
theorem findR_some {y : Tri} {l : List Outc} {j : Nat} {o : Outc} (h : l[j]? = some o) (ho : decide (o.who = y) = true) (hb : ∀ i z, i < j → l[i]? = some z → decide (z.who = y) = false) : findR y l = (o, true) := by
  induction l generalizing j with
  | nil => simp at h
  | cons x r ih =>
    cases j with
    | zero => simp at h; subst h; simp at ho; simp [findR, ho]
    | succ j =>
      have h0 := hb 0 x (by omega) rfl
      simp at h0
      simp only [findR, h0, if_false]
      exact ih (by simpa using h) (fun i z hi hz => hb (i + 1) z (by omega) (by simpa using hz))
def voutb (p : Outc × Bool) : Value := .tuple #[av p.1.c, .bool p.2]

theorem f16 (m : Mem) (x : Sl) (l : List Outc) (y : Tri) (h : OutRow m x l) : FnS Try.prog 16 m [vsl x, av y.c] (voutb (findR y l)) := by
  refine fnS (args := [asl x, .agg (vmap y.c)]) Γok mix Try.func16 rfl (by kernel_rfl) Try.ntmps16 rfl rfl (by simp) (okv_cons rfl (okv_cons (okL_v rfl) okv_nil)) ?_
  intro W
  have hx := h.1.cap; have hx' := h.1.most; have hm := maxLen_le; have hn := h.2
  refine ⟨[], callXS [(1, 3)] 1000 (f35 m x l y h) rfl rfl ⟨rfl, trivial⟩ rfl rfl ?_⟩
  rcases idxI_spec (fun o : Outc => decide (o.who = y)) l 0 with ⟨h1, h2⟩ | ⟨j, o, h1, h2, h3, h4⟩
  · refine ⟨fun hb => ?_, fun hb => ?_⟩
    · exact ⟨[], retS fun ρ => by rw [findR_none h2]; rfl⟩
    · rw [h1] at hb; simp at hb
  · refine ⟨fun hb => ?_, fun hb => ?_⟩
    · rw [h1] at hb; simp at hb; omega
    · have hlt : j < l.length := (List.getElem?_eq_some_iff.1 h2).1
      obtain ⟨a, hA, hr⟩ := h.at (fun _ => rfl) h2
      refine ⟨j, a, _, by rw [h1]; omega, by omega, hA, hr, ?_⟩
      exact ⟨[], retS fun ρ => by rw [findR_some h2 h3 h4]; rfl⟩

theorem findR_drop {y : Tri} {l : List Outc} {i : Nat} {o : Outc} (h : l[i]? = some o) : findR y (l.drop i) = if o.who = y then (o, true) else findR y (l.drop (i + 1)) := by
  obtain ⟨hlt, rfl⟩ := List.getElem?_eq_some_iff.1 h
  rw [List.drop_eq_getElem_cons hlt]; rfl
theorem f17 (m : Mem) (x : Sl) (l : List Outc) (y : Tri) (h : OutRow m x l) : FnS Try.prog 17 m [vsl x, av y.c] (voutb (findR y l)) := by
  refine fnS (args := [asl x, .agg (vmap y.c)]) Γok mix Try.func17 rfl (by kernel_rfl) Try.ntmps17 rfl rfl (by simp) (okv_cons rfl (okv_cons (okL_v rfl) okv_nil)) ?_
  intro W
  have hx := h.1.cap; have hx' := h.1.most; have hm := maxLen_le; have hn := h.2
  refine ⟨[], ⟨⟨Nat, fun i => i ≤ x.n ∧ findR y l = findR y (l.drop i), fun i => x.n - i, fun i => [(6, ai i), (4, .one (.ptr 4 0)), (3, .one (.ptr 3 0)), (0, asl x)], fun _ => [(3, .box (vmap y.c) 33), (4, .box (vmap Outc.zero.c) 58)], fun _ => m,
    ⟨0, ⟨by omega, rfl⟩, entails_ren [] ⟨rfl, rfl, rfl, rfl, trivial⟩ ⟨rfl, rfl, trivial⟩ rfl rfl⟩, fun i hi => ?_⟩⟩⟩
  obtain ⟨hin, hor⟩ := hi
  refine ⟨fun h1 => ?_, fun h1 => ?_⟩
  · have h1 : i < x.n := by simpa using h1
    have hlt : i < l.length := by omega
    obtain ⟨a, hA, hr⟩ := h.at (fun _ => rfl) (List.getElem?_eq_getElem hlt)
    have hd := findR_drop (y := y) (List.getElem?_eq_getElem hlt)
    refine draw Γok [(5, 3)] [] (.take 0 (.take 1 (.take 2 (.take 3 (.take 4 (.take 5 (.take 6 .done))))))) (by kernel_rfl) ?_
    refine ⟨i, a, _, rfl, h1, hA, hr, ?_⟩
    refine eq33 (a := l[i].who) (b := y) rfl ?_
    refine ⟨fun h2 => ?_, fun h2 => ?_⟩
    · have h2 : l[i].who = y := by simpa using h2
      refine ⟨i, a, _, rfl, h1, hA, hr, ?_⟩
      exact ⟨[], retS fun ρ => by rw [hor, hd, if_pos h2]; rfl⟩
    · have h2 : ¬ l[i].who = y := by simpa using h2
      refine ⟨((i + 1 : Nat) : Int), i64_in _ (by omega), ?_⟩
      exact ⟨[], i + 1, ⟨by omega, by rw [hor, hd, if_neg h2]⟩, by show x.n - (i + 1) < x.n - i; omega, entails_ren [] ⟨rfl, rfl, rfl, rfl, trivial⟩ ⟨rfl, rfl, trivial⟩ rfl rfl⟩
  · have h1 : ¬ i < x.n := by simpa using h1
    exact ⟨[], retS fun ρ => by rw [hor, List.drop_eq_nil_of_le (by omega)]; rfl⟩
end Vc
end

section
open Go Go.Proofs Vc
namespace Vc

theorem CellRow.bounds {m : Mem} {x : Sl} {l : List Cell} (h : CellRow m x l) : x.n ≤ x.c ∧ x.c ≤ maxLen := by obtain ⟨g, _, h2, _⟩ := h; exact ⟨h2.1.cap, h2.1.most⟩
theorem any_drop {α : Type} {p : α → Bool} {l : List α} {i : Nat} {x : α} (h : l[i]? = some x) : (l.drop i).any p = (p x || (l.drop (i + 1)).any p) := by
  obtain ⟨hlt, rfl⟩ := List.getElem?_eq_some_iff.1 h
  rw [List.drop_eq_getElem_cons hlt]; rfl
def mineR (y : Tri) (l : List Cell) : Bool := l.any fun c => c.locked && decide (c.lock.who = y)

theorem f49 (m : Mem) (x : Sl) (l : List Cell) (y : Tri) (h : CellRow m x l) : FnS Try.prog 49 m [vsl x, av y.c] (.bool (mineR y l)) := by
  refine fnS (args := [asl x, .agg (vmap y.c)]) Γok mix Try.func49 rfl (by kernel_rfl) Try.ntmps49 rfl rfl (by simp) (okv_cons rfl (okv_cons (okL_v rfl) okv_nil)) ?_
  intro W
  have hx := h.bounds; have hm := maxLen_le; have hn := h.n
  refine ⟨[], ⟨⟨Nat, fun i => i ≤ x.n ∧ mineR y l = mineR y (l.drop i), fun i => x.n - i, fun i => [(5, ai i), (3, .one (.ptr 3 0)), (0, asl x)], fun _ => [(3, .box (vmap y.c) 33)], fun _ => m,
    ⟨0, ⟨by omega, rfl⟩, entails_ren [] ⟨rfl, rfl, rfl, trivial⟩ ⟨rfl, trivial⟩ rfl rfl⟩, fun i hi => ?_⟩⟩⟩
  obtain ⟨hin, hor⟩ := hi
  refine ⟨fun h1 => ?_, fun h1 => ?_⟩
  · have h1 : i < x.n := by simpa using h1
    have hlt : i < l.length := by omega
    obtain ⟨a, s, hA, hr, hv⟩ := h.at (List.getElem?_eq_getElem hlt)
    have hd : mineR y (l.drop i) = ((l[i].locked && decide (l[i].lock.who = y)) || mineR y (l.drop (i + 1))) := any_drop (p := fun c : Cell => c.locked && decide (c.lock.who = y)) (List.getElem?_eq_getElem hlt)
    have hnext : ∀ K : Prop, (l[i].locked && decide (l[i].lock.who = y)) = false → (i + 1 ≤ x.n ∧ mineR y l = mineR y (l.drop (i + 1))) := fun _ hk => ⟨by omega, by rw [hor, hd, hk]; rfl⟩
    refine draw Γok [(12, 3)] [] (.take 0 (.take 1 (.take 2 (.take 3 (.take 4 (.take 5 (.take 6 (.take 7 (.take 8 (.take 9 (.take 10 (.take 11 (.take 12 (.take 13 (.take 14 .done))))))))))))))) (by kernel_rfl) ?_
    refine ⟨i, a, _, rfl, h1, hA, hr, ?_⟩
    refine ⟨fun h2 => ?_, fun h2 => ?_⟩
    · refine ⟨i, a, _, rfl, h1, hA, hr, ?_⟩
      refine eq33 (a := l[i].lock.who) (b := y) rfl ?_
      refine ⟨fun h3 => ?_, fun h3 => ?_⟩
      · exact ⟨[], retS fun ρ => by rw [hor, hd, h2, h3]; rfl⟩
      · refine ⟨((i + 1 : Nat) : Int), i64_in _ (by omega), ?_⟩
        exact ⟨[], i + 1, hnext True (by rw [h2, h3]; rfl), by show x.n - (i + 1) < x.n - i; omega, entails_ren [] ⟨rfl, rfl, rfl, trivial⟩ ⟨rfl, trivial⟩ rfl rfl⟩
    · refine ⟨((i + 1 : Nat) : Int), i64_in _ (by omega), ?_⟩
      exact ⟨[], i + 1, hnext True (by rw [h2]; rfl), by show x.n - (i + 1) < x.n - i; omega, entails_ren [] ⟨rfl, rfl, rfl, trivial⟩ ⟨rfl, trivial⟩ rfl rfl⟩
  · have h1 : ¬ i < x.n := by simpa using h1
    exact ⟨[], retS fun ρ => by rw [hor, List.drop_eq_nil_of_le (by omega)]; rfl⟩

def Lk.zero : Lk := ⟨Tri.zero, 0, Stamp.zero, false, ByteArray.empty⟩
/-- the first cell with a key: its lock -/
def heldR (key : ByteArray) (l : List Cell) : Lk × Bool := match l.find? (fun c => decide (c.key = key)) with
  | some c => if c.locked then (c.lock, true) else (Lk.zero, false)
  | none => (Lk.zero, false)
def vlkb (p : Lk × Bool) : Value := .tuple #[av p.1.c, .bool p.2]
theorem find_none {α : Type} {p : α → Bool} {l : List α} (h : ∀ x ∈ l, p x = false) : l.find? p = none := by
  rw [List.find?_eq_none]; intro x hx; simp [h x hx]
theorem find_some {α : Type} {p : α → Bool} {l : List α} {j : Nat} {x : α} (h : l[j]? = some x) (hp : p x = true) (hb : ∀ i z, i < j → l[i]? = some z → p z = false) : l.find? p = some x := by
  induction l generalizing j with
  | nil => simp at h
  | cons y r ih =>
    cases j with
    | zero => simp at h; subst h; simp [hp]
    | succ j =>
      have h0 := hb 0 y (by omega) rfl
      simp only [List.find?_cons, h0]
      exact ih (by simpa using h) (fun i z hi hz => hb (i + 1) z (by omega) (by simpa using hz))

theorem f50 (m : Mem) (x : Sl) (l : List Cell) (key : ByteArray) (h : CellRow m x l) : FnS Try.prog 50 m [vsl x, .string key] (vlkb (heldR key l)) := by
  refine fnS (args := [asl x, .one (.v (.string key))]) Γok mix Try.func50 rfl (by kernel_rfl) Try.ntmps50 rfl rfl (by simp) (okv_cons rfl (okv_cons rfl okv_nil)) ?_
  intro W
  have hx := h.bounds; have hm := maxLen_le; have hn := h.n
  refine ⟨[], callS (f66 m x l key h) rfl rfl ?_⟩
  rcases idxI_spec (fun c : Cell => decide (c.key = key)) l 0 with ⟨h1, h2⟩ | ⟨j, c, h1, h2, h3, h4⟩
  · refine ⟨fun hb => ?_, fun hb => ?_⟩
    · exact ⟨[], retS fun ρ => by rw [heldR, find_none h2]; rfl⟩
    · rw [h1] at hb; simp at hb
  · refine ⟨fun hb => ?_, fun hb => ?_⟩
    · rw [h1] at hb; simp at hb; omega
    · have hlt : j < l.length := (List.getElem?_eq_some_iff.1 h2).1
      obtain ⟨a, s, hA, hr, hv⟩ := h.at h2
      refine ⟨j, a, _, by rw [h1]; omega, by omega, hA, hr, ?_⟩
      refine ⟨fun h5 => ?_, fun h5 => ?_⟩
      · have h5 : c.locked = false := by simpa using h5
        exact ⟨[], retS fun ρ => by rw [heldR, find_some h2 h3 h4]; simp only [h5]; rfl⟩
      · have h5 : c.locked = true := by simpa using h5
        refine ⟨j, a, _, by rw [h1]; omega, by omega, hA, hr, ?_⟩
        exact ⟨[], retS fun ρ => by rw [heldR, find_some h2 h3 h4]; simp only [h5]; rfl⟩
end Vc
end

section
open Go Go.Proofs Vc
namespace Vc

theorem flat_slice {α : Type} {f : α → List Value} {sz : Nat} (hf : ∀ x, (f x).length = sz) (l : List α) (lo hi : Nat) : (((l.take hi).drop lo).flatMap f) = ((l.flatMap f).take (hi * sz)).drop (lo * sz) := by
  have ht : ∀ (l : List α) (hi : Nat), (l.take hi).flatMap f = (l.flatMap f).take (hi * sz) := by
    intro l
    induction l with
    | nil => intro hi; simp
    | cons x r ih =>
      intro hi
      cases hi with
      | zero => simp
      | succ hi =>
        have e : (hi + 1) * sz = (f x).length + hi * sz := by rw [hf, Nat.succ_mul, Nat.add_comm]
        rw [List.take_succ_cons, List.flatMap_cons, List.flatMap_cons, ih, e, List.take_append, List.take_of_length_le (Nat.le_add_right _ _)]
        simp
  have hd : ∀ (l : List α) (lo : Nat), (l.drop lo).flatMap f = (l.flatMap f).drop (lo * sz) := by
    intro l
    induction l with
    | nil => intro lo; simp
    | cons x r ih =>
      intro lo
      cases lo with
      | zero => simp
      | succ lo =>
        have e : (lo + 1) * sz = (f x).length + lo * sz := by rw [hf, Nat.succ_mul, Nat.add_comm]
        rw [List.drop_succ_cons, List.flatMap_cons, ih, e, List.drop_append]
        simp
  rw [hd, ht]
/-- a part of a slice -/
def Sl.cut (x : Sl) (sz lo hi : Nat) : Sl := ⟨if x.c = lo then x.A else x.A.map (·.add (lo * sz)), hi - lo, x.c - lo⟩
theorem Flat.cut {α : Type} {f : α → List Value} {sz : Nat} {m : Mem} {x : Sl} {l : List α} (h : Flat f sz m x l) (hf : ∀ x, (f x).length = sz) {lo hi : Nat} (h1 : lo ≤ hi) (h2 : hi ≤ l.length) : Flat f sz m (x.cut sz lo hi) ((l.take hi).drop lo) := by
  obtain ⟨⟨hl, hc, hm, hr⟩, hn⟩ := h
  have hlen : ((l.take hi).drop lo).length = hi - lo := by simp [Nat.min_eq_left h2]
  refine ⟨⟨?_, ?_, ?_, fun hpos => ?_⟩, hlen.symm⟩
  · rw [flat_length hf, hlen]; rfl
  · show hi - lo ≤ x.c - lo; omega
  · show x.c - lo ≤ maxLen; omega
  · have hpos : lo < hi := by have : 0 < hi - lo := hpos; omega
    obtain ⟨a, ha, hrr⟩ := hr (by omega)
    refine ⟨a.add (lo * sz), ?_, hrr.part _ (fun j u hu => ?_)⟩
    · show (if x.c = lo then x.A else x.A.map (·.add (lo * sz))) = _
      rw [if_neg (by omega), ha]; rfl
    · rw [flat_slice hf, List.getElem?_drop, List.getElem?_take] at hu
      split at hu
      · exact hu
      · cases hu
theorem CellRow.cut {m : Mem} {x : Sl} {l : List Cell} (h : CellRow m x l) {lo hi : Nat} (h1 : lo ≤ hi) (h2 : hi ≤ l.length) : CellRow m (x.cut 12 lo hi) ((l.take hi).drop lo) := by
  obtain ⟨g, rfl, hg, hv⟩ := h
  refine ⟨(g.take hi).drop lo, by simp [List.map_take, List.map_drop], hg.cut (fun _ => rfl) h1 (by simpa using h2), fun p hp => hv p (List.mem_of_mem_take (List.mem_of_mem_drop hp))⟩

def blkP (s : Span) (t : Stamp) (c : Cell) : Bool := inSpan c.key s && c.locked && !t.less c.lock.at_
def blocksR (s : Span) (t : Stamp) : List Cell → Lk × Bool
  | [] => (Lk.zero, false)
  | c :: r => if blkP s t c then (c.lock, true) else blocksR s t r
theorem blocksR_drop {s : Span} {t : Stamp} {l : List Cell} {i : Nat} {c : Cell} (h : l[i]? = some c) : blocksR s t (l.drop i) = if blkP s t c then (c.lock, true) else blocksR s t (l.drop (i + 1)) := by
  obtain ⟨hlt, rfl⟩ := List.getElem?_eq_some_iff.1 h
  rw [List.drop_eq_getElem_cons hlt]; rfl

theorem f45 (m : Mem) (x : Sl) (l : List Cell) (s : Span) (t : Stamp) (h : CellRow m x l) : FnS Try.prog 45 m [vsl x, av s.c, av t.c] (vlkb (blocksR s t l)) := by
  refine fnS (args := [asl x, .agg (vmap s.c), .agg (vmap t.c)]) Γok mix Try.func45 rfl (by kernel_rfl) Try.ntmps45 rfl rfl (by simp) (okv_cons rfl (okv_cons (okL_v rfl) (okv_cons (okL_v rfl) okv_nil))) ?_
  intro W
  have hx := h.bounds; have hm := maxLen_le; have hn := h.n
  refine ⟨[], ⟨⟨Nat, fun i => i ≤ x.n ∧ blocksR s t l = blocksR s t (l.drop i), fun i => x.n - i, fun i => [(8, ai i), (6, .one (.ptr 6 0)), (5, .one (.ptr 5 0)), (4, .one (.ptr 4 0)), (0, asl x)], fun _ => [(4, .box (vmap s.c) 65), (5, .box (vmap t.c) 27), (6, .box (vmap Lk.zero.c) 53)], fun _ => m,
    ⟨0, ⟨by omega, rfl⟩, entails_ren [] ⟨rfl, rfl, rfl, rfl, rfl, trivial⟩ ⟨rfl, rfl, rfl, trivial⟩ rfl rfl⟩, fun i hi => ?_⟩⟩⟩
  obtain ⟨hin, hor⟩ := hi
  refine ⟨fun h1 => ?_, fun h1 => ?_⟩
  · have h1 : i < x.n := by simpa using h1
    have hlt : i < l.length := by omega
    obtain ⟨a, s', hA, hr, hv⟩ := h.at (List.getElem?_eq_getElem hlt)
    have hd := blocksR_drop (s := s) (t := t) (List.getElem?_eq_getElem hlt)
    have hnext : blkP s t l[i] = false → (i + 1 ≤ x.n ∧ blocksR s t l = blocksR s t (l.drop (i + 1))) := fun hk => ⟨by omega, by rw [hor, hd, hk]; rfl⟩
    refine draw Γok [(5, 4), (15, 5)] [6, 22] (.take 0 (.take 1 (.take 2 (.take 3 (.take 4 (.take 5 (.pcall 6 (.take 7 (.take 8 (.take 9 (.take 10 (.take 11 (.take 12 (.take 13 (.take 14 (.take 15 (.take 16 (.take 17 (.take 18 (.take 19 (.take 20 (.take 21 (.pcall 22 (.take 23 (.take 24 .done))))))))))))))))))))))))) (by kernel_rfl) ?_
    refine ⟨i, a, _, rfl, h1, hA, hr, ?_⟩
    refine pureS (f64 m l[i].key s) rfl rfl ?_
    have hskip : blkP s t l[i] = false → ∃ r, IntKind.i64.wrap ((i : Int) + 1) = r ∧ r = ((i + 1 : Nat) : Int) := fun _ => ⟨_, i64_in _ (by omega), rfl⟩
    refine ⟨fun h2 => ⟨i, a, _, rfl, h1, hA, hr, fun h3 => ⟨i, a, _, rfl, h1, hA, hr, ?_⟩, fun h3 => ?_⟩, fun h2 => ?_⟩
    · refine pureS (f48 m t l[i].lock.at_) rfl rfl ?_
      refine ⟨fun h4 => ?_, fun h4 => ?_⟩
      · refine ⟨i, a, _, rfl, h1, hA, hr, ?_⟩
        exact ⟨[], retS fun ρ => by rw [hor, hd, if_pos (by simp only [blkP, h2, h3]; simpa using h4)]; rfl⟩
      · refine ⟨((i + 1 : Nat) : Int), i64_in _ (by omega), ?_⟩
        exact ⟨[], i + 1, hnext (by simp only [blkP, h2, h3]; simpa using h4), by show x.n - (i + 1) < x.n - i; omega, entails_ren [] ⟨rfl, rfl, rfl, rfl, rfl, trivial⟩ ⟨rfl, rfl, rfl, trivial⟩ rfl rfl⟩
    · refine ⟨((i + 1 : Nat) : Int), i64_in _ (by omega), ?_⟩
      exact ⟨[], i + 1, hnext (by simp [blkP, h3]), by show x.n - (i + 1) < x.n - i; omega, entails_ren [] ⟨rfl, rfl, rfl, rfl, rfl, trivial⟩ ⟨rfl, rfl, rfl, trivial⟩ rfl rfl⟩
    · refine ⟨((i + 1 : Nat) : Int), i64_in _ (by omega), ?_⟩
      exact ⟨[], i + 1, hnext (by simp [blkP, h2]), by show x.n - (i + 1) < x.n - i; omega, entails_ren [] ⟨rfl, rfl, rfl, rfl, rfl, trivial⟩ ⟨rfl, rfl, rfl, trivial⟩ rfl rfl⟩
  · have h1 : ¬ i < x.n := by simpa using h1
    exact ⟨[], retS fun ρ => by rw [hor, List.drop_eq_nil_of_le (by omega)]; rfl⟩
end Vc
end

section
open Go Go.Proofs Vc
namespace Vc

/-- no attempt stands twice -/
def onceR (l : List Outc) : Bool := (List.range l.length).all fun i => match l[i]? with
  | some o => !(findR o.who (l.take i)).2
  | none => true
def onceN (l : List Outc) (n : Nat) : Bool := (List.range n).all fun i => match l[i]? with
  | some o => !(findR o.who (l.take i)).2
  | none => true

theorem f33 (m : Mem) (x : Sl) (l : List Outc) (h : OutRow m x l) : FnS Try.prog 33 m [vsl x] (.bool (onceR l)) := by
  refine fnS (args := [asl x]) Γok mix Try.func33 rfl (by kernel_rfl) Try.ntmps33 rfl rfl (by simp) (okv_cons rfl okv_nil) ?_
  intro W
  have hx := h.1.cap; have hx' := h.1.most; have hm := maxLen_le; have hn := h.2
  refine ⟨[], ⟨⟨Nat, fun i => i ≤ x.n ∧ onceN l i = true, fun i => x.n - i, fun i => [(3, ai i), (0, asl x)], fun _ => [], fun _ => m,
    ⟨0, ⟨by omega, rfl⟩, entails_ren [] ⟨rfl, rfl, trivial⟩ trivial rfl rfl⟩, fun i hi => ?_⟩⟩⟩
  obtain ⟨hin, hor⟩ := hi
  refine ⟨fun h1 => ?_, fun h1 => ?_⟩
  · have h1 : i < x.n := by simpa using h1
    have hlt : i < l.length := by omega
    obtain ⟨a, hA, hr⟩ := h.at (fun _ => rfl) (List.getElem?_eq_getElem hlt)
    have hcut : OutRow m (x.cut 7 0 i) (l.take i) := h.cut (fun _ => rfl) (Nat.zero_le i) (Nat.le_of_lt hlt)
    have hf := f17 m (x.cut 7 0 i) (l.take i) l[i].who hcut
    have hno : (findR l[i].who (l.take i)).2 = true → onceR l = false := fun hb => by
      unfold onceR
      rw [List.all_eq_false]
      exact ⟨i, List.mem_range.2 hlt, by rw [List.getElem?_eq_getElem hlt]; simp [hb]⟩
    have hyes : (findR l[i].who (l.take i)).2 = false → (i + 1 ≤ x.n ∧ onceN l (i + 1) = true) := fun hb => by
      refine ⟨by omega, ?_⟩
      unfold onceN at hor ⊢
      rw [List.range_succ, List.all_append, hor]
      simp [List.getElem?_eq_getElem hlt, hb]
    refine draw Γok [] [8, 12, 13] (.take 0 (.take 1 (.take 2 (.take 3 (.take 4 (.take 5 (.take 6 (.take 7 (.two 8 [] (.take 9 (.take 10 (.take 11 (.one 12 [] (.one 13 [] (.take 14 .done)))))) 12 [] (.one 8 [] (.take 9 (.take 10 (.take 11 (.one 13 [] (.take 14 .done))))))))))))))) (by kernel_rfl) ?_
    refine ⟨0, i, by omega, by omega, rfl, rfl, ?_⟩
    refine ⟨i, a, _, rfl, h1, hA, hr, ?_⟩
    have fin : ∀ (F : Fr) (B : Ents), True := fun _ _ => trivial
    refine ⟨PureNode.kept (pureS hf rfl rfl ?_), PureNode.kept (pureS hf rfl rfl ?_)⟩
    · refine ⟨fun h2 => ?_, fun h2 => ?_⟩
      · exact ⟨[], retS fun ρ => by rw [hno h2]; rfl⟩
      · refine ⟨((i + 1 : Nat) : Int), i64_in _ (by omega), ?_⟩
        exact ⟨[], i + 1, hyes h2, by show x.n - (i + 1) < x.n - i; omega, entails_ren [] ⟨rfl, rfl, trivial⟩ trivial rfl rfl⟩
    · refine ⟨fun h2 => ?_, fun h2 => ?_⟩
      · exact ⟨[], retS fun ρ => by rw [hno h2]; rfl⟩
      · refine ⟨((i + 1 : Nat) : Int), i64_in _ (by omega), ?_⟩
        exact ⟨[], i + 1, hyes h2, by show x.n - (i + 1) < x.n - i; omega, entails_ren [] ⟨rfl, rfl, trivial⟩ trivial rfl rfl⟩
  · have h1 : ¬ i < x.n := by simpa using h1
    have : i = l.length := by omega
    subst this
    exact ⟨[], retS fun ρ => by rw [show onceR l = onceN l l.length from rfl, hor]; rfl⟩

/-! ### sameOutcomes -/
def sameN {α : Type} [DecidableEq α] (l l' : List α) (n : Nat) : Prop := ∀ i, i < n → l[i]? = l'[i]?
theorem sameN_all {α : Type} [DecidableEq α] {l l' : List α} (h : l.length = l'.length) (hs : sameN l l' l.length) : l = l' := by
  apply List.ext_getElem?
  intro i
  rcases Nat.lt_or_ge i l.length with h1 | h1
  · exact hs i h1
  · rw [List.getElem?_eq_none h1, List.getElem?_eq_none (by omega)]
theorem f29 (m : Mem) (x x' : Sl) (l l' : List Outc) (h : OutRow m x l) (h' : OutRow m x' l') : FnS Try.prog 29 m [vsl x, vsl x'] (.bool (decide (l = l'))) := by
  refine fnS (args := [asl x, asl x']) Γok mix Try.func29 rfl (by kernel_rfl) Try.ntmps29 rfl rfl (by simp) (okv_cons rfl (okv_cons rfl okv_nil)) ?_
  intro W
  have hx := h.1.cap; have hx' := h.1.most; have hm := maxLen_le; have hn := h.2; have hn' := h'.2
  refine ⟨fun h0 => ?_, fun h0 => ?_⟩
  · have h0 : x.n ≠ x'.n := by simp at h0; omega
    exact ⟨[], retS fun ρ => by rw [decide_eq_false (fun he => h0 (by rw [hn, hn', he]))]; rfl⟩
  have h0 : x.n = x'.n := by simp at h0; omega
  refine ⟨[], ⟨⟨Nat, fun i => i ≤ x.n ∧ sameN l l' i, fun i => x.n - i, fun i => [(5, ai i), (1, asl x'), (0, asl x)], fun _ => [], fun _ => m,
    ⟨0, ⟨by omega, fun i hi => by omega⟩, entails_ren [] ⟨rfl, rfl, rfl, trivial⟩ trivial rfl rfl⟩, fun i hi => ?_⟩⟩⟩
  obtain ⟨hin, hor⟩ := hi
  refine ⟨fun h1 => ?_, fun h1 => ?_⟩
  · have h1 : i < x.n := by simpa using h1
    have hlt : i < l.length := by omega
    have hlt' : i < l'.length := by omega
    obtain ⟨a, hA, hr⟩ := h.at (fun _ => rfl) (List.getElem?_eq_getElem hlt)
    obtain ⟨a', hA', hr'⟩ := h'.at (fun _ => rfl) (List.getElem?_eq_getElem hlt')
    refine draw Γok [] [] (.take 0 (.take 1 (.take 2 (.take 3 (.take 4 (.take 5 (.take 6 (.take 7 (.take 8 .done))))))))) (by kernel_rfl) ?_
    refine ⟨i, a, _, rfl, h1, hA, hr, ⟨i, a', _, rfl, by omega, hA', hr', ?_⟩⟩
    refine neq58 (a := l[i]) (b := l'[i]) rfl ?_
    refine ⟨fun h2 => ?_, fun h2 => ?_⟩
    · have h2 : l[i] ≠ l'[i] := by simpa using h2
      exact ⟨[], retS fun ρ => by rw [decide_eq_false (fun he => h2 (by simp only [he]))]; rfl⟩
    · have h2 : l[i] = l'[i] := by simpa using h2
      refine ⟨((i + 1 : Nat) : Int), i64_in _ (by omega), ?_⟩
      refine ⟨[], i + 1, ⟨by omega, fun k hk => ?_⟩, by show x.n - (i + 1) < x.n - i; omega, entails_ren [] ⟨rfl, rfl, rfl, trivial⟩ trivial rfl rfl⟩
      rcases Nat.lt_or_ge k i with h3 | h3
      · exact hor k h3
      · have : k = i := by omega
        subst this
        rw [List.getElem?_eq_getElem hlt, List.getElem?_eq_getElem hlt', h2]
  · have h1 : i = l.length := by have : ¬ i < x.n := by simpa using h1
                                 omega
    subst h1
    exact ⟨[], retS fun ρ => by rw [decide_eq_true (sameN_all (by omega) hor)]; rfl⟩
end Vc
end

section
open Go Go.Proofs Vc
namespace Vc

/-- Behind a drawn region one goes on from ONE state, whichever order it was. -/
theorem draw_cut {E : Env} {ops : Array Oper} {K : Cont} {Q : SPost} {F : Fr} {B : Ents} {m : Mem} (F' : Fr) (B' : Ents) (m' : Mem) (h : DrawNode E ops (fun F B m => Entails E F B m F' B' m') Q F B m) (hk : K F' B' m') : DrawNode E ops K Q F B m := by
  refine ⟨fun ρ a W hW hF => wpAny_Q (fun e a w q => ?_) _ _ _ _ (h.out ρ a W hW hF)⟩
  cases e with
  | normal =>
    obtain ⟨ρ', F2, B2, m2, hent, hW2, hF2⟩ := q
    obtain ⟨ρ3, h1, h2⟩ := hent ρ' a w hW2 hF2
    exact ⟨ρ3, F', B', m', hk, h1, h2⟩
  | _ => exact q

theorem cell_eq (a b : Cell) : a = b ↔ a.key = b.key ∧ a.locked = b.locked ∧ a.lock = b.lock ∧ a.vers = b.vers := by
  cases a; cases b; simp only [Cell.mk.injEq]
  constructor
  · rintro ⟨h1, h2, h3, h4⟩; exact ⟨h1, h3, h4, h2⟩
  · rintro ⟨h1, h3, h4, h2⟩; exact ⟨h1, h2, h3, h4⟩

theorem f28 (m : Mem) (x x' : Sl) (l l' : List Cell) (h : CellRow m x l) (h' : CellRow m x' l') : FnS Try.prog 28 m [vsl x, vsl x'] (.bool (decide (l = l'))) := by
  refine fnS (args := [asl x, asl x']) Γok mix Try.func28 rfl (by kernel_rfl) Try.ntmps28 rfl rfl (by simp) (okv_cons rfl (okv_cons rfl okv_nil)) ?_
  intro W
  have hx := h.bounds; have hx' := h'.bounds; have hm := maxLen_le; have hn := h.n; have hn' := h'.n
  refine ⟨fun h0 => ?_, fun h0 => ?_⟩
  · have h0 : x.n ≠ x'.n := by simp at h0; omega
    exact ⟨[], retS fun ρ => by rw [decide_eq_false (fun he => h0 (by rw [hn, hn', he]))]; rfl⟩
  have h0 : x.n = x'.n := by simp at h0; omega
  refine ⟨[], ⟨⟨Nat, fun i => i ≤ x.n ∧ sameN l l' i, fun i => x.n - i, fun i => [(5, ai i), (1, asl x'), (0, asl x)], fun _ => [], fun _ => m,
    ⟨0, ⟨by omega, fun i hi => by omega⟩, entails_ren [] ⟨rfl, rfl, rfl, trivial⟩ trivial rfl rfl⟩, fun i hi => ?_⟩⟩⟩
  obtain ⟨hin, hor⟩ := hi
  refine ⟨fun h1 => ?_, fun h1 => ?_⟩
  · have h1 : i < x.n := by simpa using h1
    have hlt : i < l.length := by omega
    have hlt' : i < l'.length := by omega
    obtain ⟨a, s, hA, hr, hv⟩ := h.at (List.getElem?_eq_getElem hlt)
    obtain ⟨a', s', hA', hr', hv'⟩ := h'.at (List.getElem?_eq_getElem hlt')
    have hne : l[i] ≠ l'[i] → decide (l = l') = false := fun h2 => decide_eq_false (fun he => h2 (by simp only [he]))
    refine draw_cut [(5, ai i), (6, .one (.ptr 6 0)), (7, .one (.ptr 7 0)), (1, asl x'), (0, asl x)] [(6, .box (vmap (l[i].c s)) 55), (7, .box (vmap (l'[i].c s')) 55)] m ?_ ?_
    · refine draw Γok [] [8, 9, 10, 11] (.take 0 (.take 1 (.take 2 (.take 3 (.take 4 (.take 5 (.take 6 (.take 7 (.two 8 [] (.one 9 [] (.one 10 [] (.one 11 [] .done))) 9 [] (.one 8 [] (.one 10 [] (.one 11 [] .done)))))))))))) (by kernel_rfl) ?_
      refine ⟨i, a, _, rfl, h1, hA, hr, ⟨i, a', _, rfl, by omega, hA', hr', ?_⟩⟩
      exact ⟨entails_ren [] ⟨rfl, rfl, rfl, rfl, rfl, trivial⟩ ⟨rfl, rfl, trivial⟩ rfl rfl, entails_ren [] ⟨rfl, rfl, rfl, rfl, rfl, trivial⟩ ⟨rfl, rfl, trivial⟩ rfl rfl⟩
    have hdiff : l[i] ≠ l'[i] → decide (l = l') = false := hne
    have hret : ∀ {N : Nat} {B : Ents} (hd : l[i] ≠ l'[i]), RetNode (env Try.prog Γ N W m) (.one (.kb false)) B m (RS W (.bool (decide (l = l')))) := fun hd => retS fun ρ => by rw [hdiff hd]; rfl
    refine ⟨fun h2 => ?_, fun h2 => ⟨fun h3 => ?_, fun h3 => ?_⟩⟩
    · have h2 : l[i].key ≠ l'[i].key := by simpa using h2
      exact ⟨[], hret (fun he => h2 (by rw [he]))⟩
    · have h3 : l[i].locked ≠ l'[i].locked := by simpa using h3
      exact ⟨[], hret (fun he => h3 (by rw [he]))⟩
    refine neq53 (a := l[i].lock) (b := l'[i].lock) rfl ?_
    refine ⟨fun h4 => ?_, fun h4 => ⟨fun h5 => ?_, fun h5 => ?_⟩⟩
    · have h4 : l[i].lock ≠ l'[i].lock := by simpa using h4
      exact ⟨[], hret (fun he => h4 (by rw [he]))⟩
    · have h5 : s.n ≠ s'.n := by simp at h5; omega
      exact ⟨[], hret (fun he => h5 (by rw [hv.2, hv'.2, he]))⟩
    have h2 : l[i].key = l'[i].key := by simpa using h2
    have h3 : l[i].locked = l'[i].locked := by simpa using h3
    have h4 : l[i].lock = l'[i].lock := by simpa using h4
    have h5 : s.n = s'.n := by simp at h5; omega
    have hs := hv.1.cap; have hs2 := hv.1.most; have hsn := hv.2; have hsn' := hv'.2
    refine ⟨[], ⟨⟨Nat, fun k => k ≤ s.n ∧ sameN l[i].vers l'[i].vers k, fun k => s.n - k, fun k => [(8, ai k), (5, ai i), (6, .one (.ptr 6 0)), (7, .one (.ptr 7 0)), (1, asl x'), (0, asl x)], fun _ => [(6, .box (vmap (l[i].c s)) 55), (7, .box (vmap (l'[i].c s')) 55)], fun _ => m,
      ⟨0, ⟨by omega, fun i hi => by omega⟩, entails_ren [] ⟨rfl, rfl, rfl, rfl, rfl, rfl, trivial⟩ ⟨rfl, rfl, trivial⟩ rfl rfl⟩, fun k hk => ?_⟩⟩⟩
    obtain ⟨hkn, hsame⟩ := hk
    refine ⟨fun h6 => ?_, fun h6 => ?_⟩
    · have h6 : k < s.n := by simpa using h6
      have hkl : k < l[i].vers.length := by omega
      have hkl' : k < l'[i].vers.length := by omega
      obtain ⟨b, hB, hrb⟩ := hv.at (fun _ => rfl) (List.getElem?_eq_getElem hkl)
      obtain ⟨b', hB', hrb'⟩ := hv'.at (fun _ => rfl) (List.getElem?_eq_getElem hkl')
      refine draw Γok [(1, 6), (6, 7)] [] (.take 0 (.take 1 (.take 2 (.take 3 (.take 4 (.take 5 (.take 6 (.take 7 (.take 8 (.take 9 (.take 10 .done))))))))))) (by kernel_rfl) ?_
      refine ⟨k, b, _, rfl, h6, hB, hrb, ⟨k, b', _, rfl, by omega, hB', hrb', ?_⟩⟩
      refine neq84 (a := l[i].vers[k]) (b := l'[i].vers[k]) rfl ?_
      refine ⟨fun h7 => ?_, fun h7 => ?_⟩
      · have h7 : l[i].vers[k] ≠ l'[i].vers[k] := by simpa using h7
        exact ⟨[], hret (fun he => h7 (by simp only [he]))⟩
      · have h7 : l[i].vers[k] = l'[i].vers[k] := by simpa using h7
        refine ⟨((k + 1 : Nat) : Int), i64_in _ (by omega), ?_⟩
        refine ⟨[], k + 1, ⟨by omega, fun j hj => ?_⟩, by show s.n - (k + 1) < s.n - k; omega, entails_ren [] ⟨rfl, rfl, rfl, rfl, rfl, rfl, trivial⟩ ⟨rfl, rfl, trivial⟩ rfl rfl⟩
        rcases Nat.lt_or_ge j k with h8 | h8
        · exact hsame j h8
        · have : j = k := by omega
          subst this
          rw [List.getElem?_eq_getElem hkl, List.getElem?_eq_getElem hkl', h7]
    · have h6 : k = l[i].vers.length := by have : ¬ k < s.n := by simpa using h6
                                           omega
      subst h6
      have heq : l[i] = l'[i] := (cell_eq _ _).2 ⟨h2, h3, h4, sameN_all (by omega) hsame⟩
      refine ⟨((i + 1 : Nat) : Int), i64_in _ (by omega), ?_⟩
      refine ⟨[], i + 1, ⟨by omega, fun j hj => ?_⟩, by show x.n - (i + 1) < x.n - i; omega, entails_ren [] ⟨rfl, rfl, rfl, trivial⟩ trivial rfl rfl⟩
      rcases Nat.lt_or_ge j i with h8 | h8
      · exact hor j h8
      · have : j = i := by omega
        subst this
        rw [List.getElem?_eq_getElem hlt, List.getElem?_eq_getElem hlt', heq]
  · have h1 : i = l.length := by have : ¬ i < x.n := by simpa using h1
                                 omega
    subst h1
    exact ⟨[], retS fun ρ => by rw [decide_eq_true (sameN_all (by omega) hor)]; rfl⟩
end Vc
end

section
open Go Go.Proofs Vc
namespace Vc

structure Part where
  epoch : Int
  holder : Int
  floor : Stamp
  closed : Int
  low : Int
  cells : List Cell
  records : List Outc
  done : List Outc
  deriving DecidableEq
def Part.c (p : Part) (xc xr xd : Sl) : List Value := [.int .i64 p.epoch, .int .i64 p.holder, .int .i64 p.floor.wall, .int .i64 p.floor.tie, .int .i64 p.closed, .int .i64 p.low, .slice xc.A xc.n xc.c, .slice xr.A xr.n xr.c, .slice xd.A xd.n xd.c]
structure PartRow (m : Mem) (p : Part) (xc xr xd : Sl) : Prop where
  cells : CellRow m xc p.cells
  records : OutRow m xr p.records
  done : OutRow m xd p.done
theorem PartRow.mono {m m' : Mem} {p : Part} {xc xr xd : Sl} (h : PartRow m p xc xr xd) (hm : m.le m') : PartRow m' p xc xr xd := ⟨h.cells.mono hm, h.records.mono hm, h.done.mono hm⟩
theorem part_eq (p q : Part) : p = q ↔ p.epoch = q.epoch ∧ p.holder = q.holder ∧ p.floor = q.floor ∧ p.closed = q.closed ∧ p.low = q.low ∧ p.cells = q.cells ∧ p.records = q.records ∧ p.done = q.done := by
  cases p; cases q; simp only [Part.mk.injEq]

theorem f11 (m : Mem) (p q : Part) (xc xr xd yc yr yd : Sl) (h : PartRow m p xc xr xd) (h' : PartRow m q yc yr yd) : FnS Try.prog 11 m [av (p.c xc xr xd), av (q.c yc yr yd)] (.bool (decide (p = q))) := by
  refine fnS (args := [.agg (vmap (p.c xc xr xd)), .agg (vmap (q.c yc yr yd))]) Γok mix Try.func11 rfl (by kernel_rfl) Try.ntmps11 rfl rfl (by simp) (okv_cons (okL_v rfl) (okv_cons (okL_v rfl) okv_nil)) ?_
  intro W
  have hret : ∀ {N : Nat} {B : Ents} (hd : p ≠ q), RetNode (env Try.prog Γ N W m) (.one (.kb false)) B m (RS W (.bool (decide (p = q)))) := fun hd => retS fun ρ => by rw [decide_eq_false hd]; rfl
  refine ⟨fun h1 => ?_, fun h1 => ⟨fun h2 => ?_, fun h2 => ?_⟩⟩
  · have h1 : p.epoch ≠ q.epoch := by simpa using h1
    exact ⟨[], hret (fun he => h1 (by rw [he]))⟩
  · have h2 : p.holder ≠ q.holder := by simpa using h2
    exact ⟨[], hret (fun he => h2 (by rw [he]))⟩
  refine neq27 (a := p.floor) (b := q.floor) rfl ?_
  refine ⟨fun h3 => ?_, fun h3 => ⟨fun h4 => ?_, fun h4 => ⟨fun h5 => ?_, fun h5 => ?_⟩⟩⟩
  · have h3 : p.floor ≠ q.floor := by simpa using h3
    exact ⟨[], hret (fun he => h3 (by rw [he]))⟩
  · have h4 : p.closed ≠ q.closed := by simpa using h4
    exact ⟨[], hret (fun he => h4 (by rw [he]))⟩
  · have h5 : p.low ≠ q.low := by simpa using h5
    exact ⟨[], hret (fun he => h5 (by rw [he]))⟩
  refine ⟨[], callS (f28 m xc yc p.cells q.cells h.cells h'.cells) rfl rfl ?_⟩
  refine ⟨fun h6 => ?_, fun h6 => ?_⟩
  · have h6 : p.cells ≠ q.cells := by simpa using h6
    exact ⟨[], hret (fun he => h6 (by rw [he]))⟩
  refine ⟨[], callS (f29 m xr yr p.records q.records h.records h'.records) rfl rfl ?_⟩
  have h1 : p.epoch = q.epoch := by simpa using h1
  have h2 : p.holder = q.holder := by simpa using h2
  have h3 : p.floor = q.floor := by simpa using h3
  have h4 : p.closed = q.closed := by simpa using h4
  have h5 : p.low = q.low := by simpa using h5
  have h6 : p.cells = q.cells := by simpa using h6
  refine ⟨fun h7 => ?_, fun h7 => ?_⟩
  · refine ⟨[], callS (f29 m xd yd p.done q.done h.done h'.done) rfl rfl ?_⟩
    have h7 : p.records = q.records := by simpa using h7
    exact ⟨[], retS fun ρ => by
      show Value.bool (decide (p.done = q.done)) = .bool (decide (p = q))
      congr 1
      rw [decide_eq_decide, part_eq]
      exact ⟨fun h => ⟨h1, h2, h3, h4, h5, h6, h7, h⟩, fun h => h.2.2.2.2.2.2.2⟩⟩
  · have h7 : p.records ≠ q.records := by simpa using h7
    exact ⟨[], hret (fun he => h7 (by rw [he]))⟩

/-! ### SameReply -/
theorem rep_eq (r s : Rep) : r = s ↔ r.err = s.err ∧ r.who = s.who ∧ r.home = s.home ∧ r.at_ = s.at_ ∧ r.wall = s.wall ∧ r.yes = s.yes ∧ r.pairs = s.pairs := by
  cases r; cases s; simp only [Rep.mk.injEq]
  constructor
  · rintro ⟨h1, h2, h3, h4, h5, h6, h7⟩; exact ⟨h1, h3, h4, h5, h6, h7, h2⟩
  · rintro ⟨h1, h3, h4, h5, h6, h7, h2⟩; exact ⟨h1, h2, h3, h4, h5, h6, h7⟩
instance : DecidableEq Rep := fun r s => decidable_of_iff _ (rep_eq r s).symm

theorem f12 (m : Mem) (r s : Rep) (x y : Sl) (h : PairRow m x r.pairs) (h' : PairRow m y s.pairs) : FnS Try.prog 12 m [av (r.c x), av (s.c y)] (.bool (decide (r = s))) := by
  refine fnS (args := [.agg (vmap (r.c x)), .agg (vmap (s.c y))]) Γok mix Try.func12 rfl (by kernel_rfl) Try.ntmps12 rfl rfl (by simp) (okv_cons (okL_v rfl) (okv_cons (okL_v rfl) okv_nil)) ?_
  intro W
  have hx := h.1.cap; have hx' := h.1.most; have hm := maxLen_le; have hn := h.2; have hn' := h'.2
  have hret : ∀ {N : Nat} {B : Ents} (hd : r ≠ s), RetNode (env Try.prog Γ N W m) (.one (.kb false)) B m (RS W (.bool (decide (r = s)))) := fun hd => retS fun ρ => by rw [decide_eq_false hd]; rfl
  refine ⟨fun h1 => ?_, fun h1 => ?_⟩
  · have h1 : r.err ≠ s.err := by simpa using h1
    exact ⟨[], hret (fun he => h1 (by rw [he]))⟩
  refine neq33 (a := r.who) (b := s.who) rfl ?_
  refine ⟨fun h2 => ?_, fun h2 => ⟨fun h3 => ?_, fun h3 => ?_⟩⟩
  · have h2 : r.who ≠ s.who := by simpa using h2
    exact ⟨[], hret (fun he => h2 (by rw [he]))⟩
  · have h3 : r.home ≠ s.home := by simpa using h3
    exact ⟨[], hret (fun he => h3 (by rw [he]))⟩
  refine neq27 (a := r.at_) (b := s.at_) rfl ?_
  refine ⟨fun h4 => ?_, fun h4 => ⟨fun h5 => ?_, fun h5 => ⟨fun h6 => ?_, fun h6 => ⟨fun h7 => ?_, fun h7 => ?_⟩⟩⟩⟩
  · have h4 : r.at_ ≠ s.at_ := by simpa using h4
    exact ⟨[], hret (fun he => h4 (by rw [he]))⟩
  · have h5 : r.wall ≠ s.wall := by simpa using h5
    exact ⟨[], hret (fun he => h5 (by rw [he]))⟩
  · have h6 : r.yes ≠ s.yes := by simpa using h6
    exact ⟨[], hret (fun he => h6 (by rw [he]))⟩
  · have h7 : x.n ≠ y.n := by simp at h7; omega
    exact ⟨[], hret (fun he => h7 (by rw [hn, hn', he]))⟩
  have h1 : r.err = s.err := by simpa using h1
  have h2 : r.who = s.who := by simpa using h2
  have h3 : r.home = s.home := by simpa using h3
  have h4 : r.at_ = s.at_ := by simpa using h4
  have h5 : r.wall = s.wall := by simpa using h5
  have h6 : r.yes = s.yes := by simpa using h6
  have h7 : x.n = y.n := by simp at h7; omega
  refine ⟨[], ⟨⟨Nat, fun i => i ≤ x.n ∧ sameN r.pairs s.pairs i, fun i => x.n - i, fun i => [(5, ai i), (2, .one (.ptr 2 0)), (3, .one (.ptr 3 0))], fun _ => [(2, .box (vmap (r.c x)) 43), (3, .box (vmap (s.c y)) 43)], fun _ => m,
    ⟨0, ⟨by omega, fun i hi => by omega⟩, entails_ren [] ⟨rfl, rfl, rfl, trivial⟩ ⟨rfl, rfl, trivial⟩ rfl rfl⟩, fun i hi => ?_⟩⟩⟩
  obtain ⟨hin, hor⟩ := hi
  refine ⟨fun hb => ?_, fun hb => ?_⟩
  · have hb : i < x.n := by simpa using hb
    have hlt : i < r.pairs.length := by omega
    have hlt' : i < s.pairs.length := by omega
    obtain ⟨a, hA, hr⟩ := h.at (fun _ => rfl) (List.getElem?_eq_getElem hlt)
    obtain ⟨a', hA', hr'⟩ := h'.at (fun _ => rfl) (List.getElem?_eq_getElem hlt')
    refine draw Γok [(1, 2), (6, 3)] [] (.take 0 (.take 1 (.take 2 (.take 3 (.take 4 (.take 5 (.take 6 (.take 7 (.take 8 (.take 9 (.take 10 .done))))))))))) (by kernel_rfl) ?_
    refine ⟨i, a, _, rfl, hb, hA, hr, ⟨i, a', _, rfl, by omega, hA', hr', ?_⟩⟩
    refine neq50 (a := r.pairs[i]) (b := s.pairs[i]) rfl ?_
    refine ⟨fun h8 => ?_, fun h8 => ?_⟩
    · have h8 : r.pairs[i] ≠ s.pairs[i] := by simpa using h8
      exact ⟨[], hret (fun he => h8 (by simp only [he]))⟩
    · have h8 : r.pairs[i] = s.pairs[i] := by simpa using h8
      refine ⟨((i + 1 : Nat) : Int), i64_in _ (by omega), ?_⟩
      refine ⟨[], i + 1, ⟨by omega, fun k hk => ?_⟩, by show x.n - (i + 1) < x.n - i; omega, entails_ren [] ⟨rfl, rfl, rfl, trivial⟩ ⟨rfl, rfl, trivial⟩ rfl rfl⟩
      rcases Nat.lt_or_ge k i with h9 | h9
      · exact hor k h9
      · have : k = i := by omega
        subst this
        rw [List.getElem?_eq_getElem hlt, List.getElem?_eq_getElem hlt', h8]
  · have hb : i = r.pairs.length := by have : ¬ i < x.n := by simpa using hb
                                       omega
    subst hb
    exact ⟨[], retS fun ρ => by rw [decide_eq_true ((rep_eq r s).2 ⟨h1, h2, h3, h4, h5, h6, sameN_all (by omega) hor⟩)]; rfl⟩
end Vc
end

section
open Go Go.Proofs Vc
namespace Vc

structure Cmd where
  kind : Int
  epoch : Int
  node : Int
  home : Int
  who : Tri
  at_ : Stamp
  wall : Int
  yes : Bool
  spans : List Span
  writes : List Wr
def Cmd.c (k : Cmd) (xs xw : Sl) : List Value := [.int .i64 k.kind, .int .i64 k.epoch, .int .i64 k.node, .int .i64 k.home, .int .i64 k.who.node, .int .i64 k.who.life, .int .i64 k.who.seq, .int .i64 k.who.att, .int .i64 k.at_.wall, .int .i64 k.at_.tie, .int .i64 k.wall, .bool k.yes, .slice xs.A xs.n xs.c, .slice xw.A xw.n xw.c]
structure CmdRow (m : Mem) (k : Cmd) (xs xw : Sl) : Prop where
  spans : SpanRow m xs k.spans
  writes : WrRow m xw k.writes
theorem CmdRow.mono {m m' : Mem} {k : Cmd} {xs xw : Sl} (h : CmdRow m k xs xw) (hm : m.le m') : CmdRow m' k xs xw := ⟨h.spans.mono hm, h.writes.mono hm⟩

/-- the command as it is carried out -/
def ownR (p : Part) (k : Cmd) (other : Bool) : Cmd := if other then k else { k with epoch := if k.kind = 1 then IntKind.i64.wrap (p.epoch + 1) else p.epoch }
theorem f7 (m : Mem) (p : Part) (xc xr xd : Sl) (k : Cmd) (xs xw : Sl) (o : Bool) : FnS Try.prog 7 m [av (p.c xc xr xd), av (k.c xs xw), .bool o] (av ((ownR p k o).c xs xw)) := by
  refine fnS (args := [.agg (vmap (p.c xc xr xd)), .agg (vmap (k.c xs xw)), .one (.v (.bool o))]) Γok mix Try.func7 rfl (by kernel_rfl) Try.ntmps7 rfl rfl (by simp) (okv_cons (okL_v rfl) (okv_cons (okL_v rfl) (okv_cons rfl okv_nil))) ?_
  intro W
  refine ⟨fun h1 => ⟨fun h2 => ?_, fun h2 => ?_⟩, fun h1 => ?_⟩
  · have h1 : o = false := by simpa using h1
    have h2 : k.kind = 1 := by simpa using h2
    exact ⟨_, rfl, ⟨[], retS fun ρ => by simp only [ownR, h1, h2]; rfl⟩⟩
  · have h1 : o = false := by simpa using h1
    have h2 : ¬ k.kind = 1 := by simpa using h2
    exact ⟨[], retS fun ρ => by simp only [ownR, h1, h2]; rfl⟩
  · have h1 : o = true := by simpa using h1
    exact ⟨[], retS fun ρ => by simp only [ownR, h1]; rfl⟩

def spansL : List Span → Int → Option Int
  | [], n => some n
  | s :: r, n => if n < 16384 then (if (s.lo.size : Int) > 8192 ∨ (s.hi.size : Int) > 8192 then none else spansL r (n + s.lo.size + s.hi.size)) else some n
def writesL : List Wr → Int → Option Int
  | [], n => some n
  | s :: r, n => if n < 16384 then (if (s.key.size : Int) > 8192 ∨ (s.data.size : Int) > 8192 then none else writesL r (n + s.key.size + s.data.size)) else some n
def lightR (k : Cmd) : Bool := match spansL k.spans 0 with
  | none => false
  | some n => match writesL k.writes n with
    | none => false
    | some n => decide (n < 8192) && decide (k.spans.length < 100) && decide (k.writes.length < 100)
theorem spansL_drop {l : List Span} {i : Nat} {s : Span} {n : Int} (h : l[i]? = some s) : spansL (l.drop i) n = if n < 16384 then (if (s.lo.size : Int) > 8192 ∨ (s.hi.size : Int) > 8192 then none else spansL (l.drop (i + 1)) (n + s.lo.size + s.hi.size)) else some n := by
  obtain ⟨hlt, rfl⟩ := List.getElem?_eq_some_iff.1 h
  rw [List.drop_eq_getElem_cons hlt]; rfl
theorem writesL_drop {l : List Wr} {i : Nat} {s : Wr} {n : Int} (h : l[i]? = some s) : writesL (l.drop i) n = if n < 16384 then (if (s.key.size : Int) > 8192 ∨ (s.data.size : Int) > 8192 then none else writesL (l.drop (i + 1)) (n + s.key.size + s.data.size)) else some n := by
  obtain ⟨hlt, rfl⟩ := List.getElem?_eq_some_iff.1 h
  rw [List.drop_eq_getElem_cons hlt]; rfl

theorem f18 (m : Mem) (k : Cmd) (xs xw : Sl) (h : CmdRow m k xs xw) : FnS Try.prog 18 m [av (k.c xs xw)] (.bool (lightR k)) := by
  refine fnS (args := [.agg (vmap (k.c xs xw))]) Γok mix Try.func18 rfl (by kernel_rfl) Try.ntmps18 rfl rfl (by simp) (okv_cons (okL_v rfl) okv_nil) ?_
  intro W
  have hs := h.spans; have hw := h.writes
  have hx := hs.1.cap; have hx' := hs.1.most; have hm := maxLen_le; have hn := hs.2
  have hy := hw.1.cap; have hy' := hw.1.most; have hn' := hw.2
  refine ⟨[], ⟨⟨Nat × Int, fun p => p.1 ≤ xs.n ∧ 0 ≤ p.2 ∧ p.2 ≤ 32768 ∧ spansL k.spans 0 = spansL (k.spans.drop p.1) p.2, fun p => xs.n - p.1, fun p => [(4, ai p.1), (3, ai p.2), (1, .one (.ptr 1 0))], fun _ => [(1, .box (vmap (k.c xs xw)) 37)], fun _ => m,
    ⟨(0, 0), ⟨by show 0 ≤ xs.n; omega, by show (0:Int) ≤ 0; omega, by show (0:Int) ≤ 32768; omega, rfl⟩, entails_ren [] ⟨rfl, rfl, rfl, trivial⟩ ⟨rfl, trivial⟩ rfl rfl⟩, fun p hi => ?_⟩⟩⟩
  obtain ⟨i, n⟩ := p
  obtain ⟨hin, h0, hbig, hor⟩ := hi
  simp only at hin h0 hbig hor
  refine ⟨fun h1 => ⟨fun h2 => ?body, fun h2 => ?exit1⟩, fun h1 => ?exit2⟩
  case body =>
    have h1 : i < xs.n := by simpa using h1
    have h2 : n < 16384 := by simpa using h2
    have hlt : i < k.spans.length := by omega
    obtain ⟨a, hA, hr⟩ := hs.at (fun _ => rfl) (List.getElem?_eq_getElem hlt)
    have hd := spansL_drop (n := n) (List.getElem?_eq_getElem hlt)
    rw [if_pos h2] at hd
    refine ⟨i, a, _, rfl, h1, hA, hr, ⟨fun h3 => ?_, fun h3 => ⟨i, a, _, rfl, h1, hA, hr, ⟨fun h4 => ?_, fun h4 => ?_⟩⟩⟩⟩
    · have h3 : (k.spans[i].lo.size : Int) > 8192 := by simpa using h3
      exact ⟨[], retS fun ρ => by rw [lightR, hor, hd, if_pos (.inl h3)]; rfl⟩
    · have h4 : (k.spans[i].hi.size : Int) > 8192 := by simpa using h4
      exact ⟨[], retS fun ρ => by rw [lightR, hor, hd, if_pos (.inr h4)]; rfl⟩
    · have h3 : ¬ (k.spans[i].lo.size : Int) > 8192 := by simpa using h3
      have h4 : ¬ (k.spans[i].hi.size : Int) > 8192 := by simpa using h4
      rw [if_neg (fun h => h.elim h3 h4)] at hd
      refine draw Γok [(2, 1), (10, 1)] [] (.take 0 (.take 1 (.take 2 (.take 3 (.take 4 (.take 5 (.take 6 (.take 7 (.take 8 (.take 9 (.take 10 (.take 11 (.take 12 (.take 13 (.take 14 (.take 15 (.take 16 (.take 17 .done)))))))))))))))))) (by kernel_rfl) ?_
      refine ⟨i, a, _, rfl, h1, hA, hr, ⟨_, i64_in _ (by omega), ⟨i, a, _, rfl, h1, hA, hr, ⟨_, i64_in _ (by omega), ?_⟩⟩⟩⟩
      refine ⟨((i + 1 : Nat) : Int), i64_in _ (by omega), ?_⟩
      exact ⟨[], (i + 1, n + k.spans[i].lo.size + k.spans[i].hi.size), ⟨by show i + 1 ≤ xs.n; omega, by show 0 ≤ n + (k.spans[i].lo.size : Int) + k.spans[i].hi.size; omega, by show n + (k.spans[i].lo.size : Int) + k.spans[i].hi.size ≤ 32768; omega, by rw [hor, hd]⟩, by show xs.n - (i + 1) < xs.n - i; omega, entails_ren [] ⟨rfl, rfl, rfl, trivial⟩ ⟨rfl, trivial⟩ rfl rfl⟩
  case' exit1 =>
    have hfin : spansL k.spans 0 = some n := by
      have h1 : i < xs.n := by simpa using h1
      have h2 : ¬ n < 16384 := by simpa using h2
      rw [hor, spansL_drop (List.getElem?_eq_getElem (by omega : i < k.spans.length)), if_neg h2]
  case' exit2 =>
    have hfin : spansL k.spans 0 = some n := by
      have h1 : ¬ i < xs.n := by simpa using h1
      rw [hor, List.drop_eq_nil_of_le (by omega)]; rfl
  case exit1 | exit2 =>
    clear h1
    refine ⟨[], ⟨⟨Nat × Int, fun p => p.1 ≤ xw.n ∧ 0 ≤ p.2 ∧ p.2 ≤ 32768 ∧ writesL k.writes n = writesL (k.writes.drop p.1) p.2, fun p => xw.n - p.1, fun p => [(5, ai p.1), (3, ai p.2), (1, .one (.ptr 1 0))], fun _ => [(1, .box (vmap (k.c xs xw)) 37)], fun _ => m,
      ⟨(0, n), ⟨by show 0 ≤ xw.n; omega, h0, hbig, rfl⟩, entails_ren [] ⟨rfl, rfl, rfl, trivial⟩ ⟨rfl, trivial⟩ rfl rfl⟩, fun p hi => ?_⟩⟩⟩
    obtain ⟨j, n2⟩ := p
    obtain ⟨hjn, h02, hbig2, hor2⟩ := hi
    simp only at hjn h02 hbig2 hor2
    refine ⟨fun h1 => ⟨fun h2 => ?_, fun h2 => ?_⟩, fun h1 => ?_⟩
    · have h1 : j < xw.n := by simpa using h1
      have h2 : n2 < 16384 := by simpa using h2
      have hlt : j < k.writes.length := by omega
      obtain ⟨a, hA, hr⟩ := hw.at (fun _ => rfl) (List.getElem?_eq_getElem hlt)
      have hd := writesL_drop (n := n2) (List.getElem?_eq_getElem hlt)
      rw [if_pos h2] at hd
      refine ⟨j, a, _, rfl, h1, hA, hr, ⟨fun h3 => ?_, fun h3 => ⟨j, a, _, rfl, h1, hA, hr, ⟨fun h4 => ?_, fun h4 => ?_⟩⟩⟩⟩
      · have h3 : (k.writes[j].key.size : Int) > 8192 := by simpa using h3
        exact ⟨[], retS fun ρ => by rw [lightR, hfin]; simp only; rw [hor2, hd, if_pos (.inl h3)]; rfl⟩
      · have h4 : (k.writes[j].data.size : Int) > 8192 := by simpa using h4
        exact ⟨[], retS fun ρ => by rw [lightR, hfin]; simp only; rw [hor2, hd, if_pos (.inr h4)]; rfl⟩
      · have h3 : ¬ (k.writes[j].key.size : Int) > 8192 := by simpa using h3
        have h4 : ¬ (k.writes[j].data.size : Int) > 8192 := by simpa using h4
        rw [if_neg (fun h => h.elim h3 h4)] at hd
        refine draw Γok [(2, 1), (10, 1)] [] (.take 0 (.take 1 (.take 2 (.take 3 (.take 4 (.take 5 (.take 6 (.take 7 (.take 8 (.take 9 (.take 10 (.take 11 (.take 12 (.take 13 (.take 14 (.take 15 (.take 16 (.take 17 .done)))))))))))))))))) (by kernel_rfl) ?_
        refine ⟨j, a, _, rfl, h1, hA, hr, ⟨_, i64_in _ (by omega), ⟨j, a, _, rfl, h1, hA, hr, ⟨_, i64_in _ (by omega), ?_⟩⟩⟩⟩
        refine ⟨((j + 1 : Nat) : Int), i64_in _ (by omega), ?_⟩
        exact ⟨[], (j + 1, n2 + k.writes[j].key.size + k.writes[j].data.size), ⟨by show j + 1 ≤ xw.n; omega, by show 0 ≤ n2 + (k.writes[j].key.size : Int) + k.writes[j].data.size; omega, by show n2 + (k.writes[j].key.size : Int) + k.writes[j].data.size ≤ 32768; omega, by rw [hor2, hd]⟩, by show xw.n - (j + 1) < xw.n - j; omega, entails_ren [] ⟨rfl, rfl, rfl, trivial⟩ ⟨rfl, trivial⟩ rfl rfl⟩
    · have hfin2 : writesL k.writes n = some n2 := by
        have h1 : j < xw.n := by simpa using h1
        have h2 : ¬ n2 < 16384 := by simpa using h2
        rw [hor2, writesL_drop (List.getElem?_eq_getElem (by omega : j < k.writes.length)), if_neg h2]
      have hl : lightR k = (decide (n2 < 8192) && decide (k.spans.length < 100) && decide (k.writes.length < 100)) := by rw [lightR, hfin]; simp only; rw [hfin2]
      refine ⟨fun h5 => ⟨fun h6 => ?_, fun h6 => ?_⟩, fun h5 => ?_⟩
      · exact ⟨[], retS fun ρ => by
          have h5 : n2 < 8192 := by simpa using h5
          have h6 : k.spans.length < 100 := by simp at h6; omega
          rw [hl]; simp [AV.con, Leaf.con, h5, h6]; omega⟩
      · exact ⟨[], retS fun ρ => by
          have h6 : ¬ k.spans.length < 100 := by simp at h6; omega
          rw [hl]; simp [AV.con, Leaf.con, h6]⟩
      · exact ⟨[], retS fun ρ => by
          have h5 : ¬ n2 < 8192 := by simpa using h5
          rw [hl]; simp [AV.con, Leaf.con, h5]⟩
    · have hfin2 : writesL k.writes n = some n2 := by
        have h1 : ¬ j < xw.n := by simpa using h1
        rw [hor2, List.drop_eq_nil_of_le (by omega)]; rfl
      have hl : lightR k = (decide (n2 < 8192) && decide (k.spans.length < 100) && decide (k.writes.length < 100)) := by rw [lightR, hfin]; simp only; rw [hfin2]
      refine ⟨fun h5 => ⟨fun h6 => ?_, fun h6 => ?_⟩, fun h5 => ?_⟩
      · exact ⟨[], retS fun ρ => by
          have h5 : n2 < 8192 := by simpa using h5
          have h6 : k.spans.length < 100 := by simp at h6; omega
          rw [hl]; simp [AV.con, Leaf.con, h5, h6]; omega⟩
      · exact ⟨[], retS fun ρ => by
          have h6 : ¬ k.spans.length < 100 := by simp at h6; omega
          rw [hl]; simp [AV.con, Leaf.con, h6]⟩
      · exact ⟨[], retS fun ρ => by
          have h5 : ¬ n2 < 8192 := by simpa using h5
          rw [hl]; simp [AV.con, Leaf.con, h5]⟩
end Vc
end

section
open Go Go.Proofs Vc
namespace Vc

def CmdsRow (m : Mem) (x : Sl) (l : List Cmd) : Prop := ∃ g : List (Cmd × Sl × Sl), g.map (·.1) = l ∧ Flat (fun p => p.1.c p.2.1 p.2.2) 14 m x g ∧ ∀ p ∈ g, CmdRow m p.1 p.2.1 p.2.2
theorem CmdsRow.mono {m m' : Mem} {x : Sl} {l : List Cmd} (h : CmdsRow m x l) (hm : m.le m') : CmdsRow m' x l := by
  obtain ⟨g, h1, h2, h3⟩ := h
  exact ⟨g, h1, h2.mono hm, fun p hp => (h3 p hp).mono hm⟩
theorem CmdsRow.n {m : Mem} {x : Sl} {l : List Cmd} (h : CmdsRow m x l) : x.n = l.length := by
  obtain ⟨g, h1, h2, h3⟩ := h
  rw [h2.2, ← h1, List.length_map]
theorem CmdsRow.bounds {m : Mem} {x : Sl} {l : List Cmd} (h : CmdsRow m x l) : x.n ≤ x.c ∧ x.c ≤ maxLen := by obtain ⟨g, _, h2, _⟩ := h; exact ⟨h2.1.cap, h2.1.most⟩
theorem CmdsRow.at {m : Mem} {x : Sl} {l : List Cmd} (h : CmdsRow m x l) {k : Nat} {y : Cmd} (hk : l[k]? = some y) :
    ∃ a s t, x.A = some a ∧ MemReads m (a.add (k * 14)) (y.c s t) ∧ CmdRow m y s t := by
  obtain ⟨g, h1, h2, h3⟩ := h
  rw [← h1, List.getElem?_map] at hk
  cases hg : g[k]? with
  | none => rw [hg] at hk; cases hk
  | some p =>
    rw [hg] at hk
    simp only [Option.map_some, Option.some.injEq] at hk
    subst hk
    obtain ⟨a, ha, hr⟩ := h2.at (fun _ => rfl) hg
    exact ⟨a, p.2.1, p.2.2, ha, hr, h3 p (List.mem_of_getElem? hg)⟩
theorem all_drop {α : Type} {p : α → Bool} {l : List α} {i : Nat} {x : α} (h : l[i]? = some x) : (l.drop i).all p = (p x && (l.drop (i + 1)).all p) := by
  obtain ⟨hlt, rfl⟩ := List.getElem?_eq_some_iff.1 h
  rw [List.drop_eq_getElem_cons hlt]; rfl
def lightsR (l : List Cmd) (most : Int) : Bool := !decide ((l.length : Int) > most) && l.all lightR
theorem f6 (m : Mem) (x : Sl) (l : List Cmd) (most : Int) (h : CmdsRow m x l) : FnS Try.prog 6 m [vsl x, vi most] (.bool (lightsR l most)) := by
  refine fnS (args := [asl x, ai most]) Γok mix Try.func6 rfl (by kernel_rfl) Try.ntmps6 rfl rfl (by simp) (okv_cons rfl (okv_cons rfl okv_nil)) ?_
  intro W
  have hx := h.bounds; have hm := maxLen_le; have hn := h.n
  refine ⟨fun h0 => ?_, fun h0 => ?_⟩
  · exact ⟨[], retS fun ρ => by
      have h0 : (l.length : Int) > most := by simp at h0; omega
      simp [lightsR, h0, AV.con, Leaf.con]⟩
  have h0 : ¬ (l.length : Int) > most := by simp at h0; omega
  refine ⟨[], ⟨⟨Nat, fun i => i ≤ x.n ∧ l.all lightR = (l.drop i).all lightR, fun i => x.n - i, fun i => [(5, ai i), (0, asl x)], fun _ => [], fun _ => m,
    ⟨0, ⟨by omega, rfl⟩, entails_ren [] ⟨rfl, rfl, trivial⟩ trivial rfl rfl⟩, fun i hi => ?_⟩⟩⟩
  obtain ⟨hin, hor⟩ := hi
  refine ⟨fun h1 => ?_, fun h1 => ?_⟩
  · have h1 : i < x.n := by simpa using h1
    have hlt : i < l.length := by omega
    obtain ⟨a, s, t, hA, hr, hv⟩ := h.at (List.getElem?_eq_getElem hlt)
    have hd := all_drop (p := lightR) (List.getElem?_eq_getElem hlt)
    refine ⟨i, a, _, rfl, h1, hA, hr, ?_⟩
    refine ⟨[], callS (f18 m l[i] s t hv) rfl rfl ?_⟩
    refine ⟨fun h2 => ?_, fun h2 => ?_⟩
    · have h2 : lightR l[i] = false := by simpa using h2
      exact ⟨[], retS fun ρ => by rw [lightsR, hor, hd, h2]; simp [AV.con, Leaf.con]⟩
    · have h2 : lightR l[i] = true := by simpa using h2
      refine ⟨((i + 1 : Nat) : Int), i64_in _ (by omega), ?_⟩
      exact ⟨[], i + 1, ⟨by omega, by rw [hor, hd, h2]; rfl⟩, by show x.n - (i + 1) < x.n - i; omega, entails_ren [] ⟨rfl, rfl, trivial⟩ trivial rfl rfl⟩
  · have h1 : ¬ i < x.n := by simpa using h1
    exact ⟨[], retS fun ρ => by rw [lightsR, hor, List.drop_eq_nil_of_le (by omega)]; simp [AV.con, Leaf.con, h0]⟩
end Vc
end

section
open Go Go.Proofs Vc
namespace Vc

def lightCell (c : Cell) : Bool := decide (c.vers.length ≤ 30) && decide (c.key.size ≤ 100) && decide (c.lock.data.size ≤ 300) && c.vers.all fun v => decide (v.data.size ≤ 300)
def lightCells (l : List Cell) : Bool := decide (l.length ≤ 60) && l.all lightCell

theorem f34 (m : Mem) (x : Sl) (l : List Cell) (h : CellRow m x l) : FnS Try.prog 34 m [vsl x] (.bool (lightCells l)) := by
  refine fnS (args := [asl x]) Γok mix Try.func34 rfl (by kernel_rfl) Try.ntmps34 rfl rfl (by simp) (okv_cons rfl okv_nil) ?_
  intro W
  have hx := h.bounds; have hm := maxLen_le; have hn := h.n
  refine ⟨fun h0 => ?_, fun h0 => ?_⟩
  · exact ⟨[], retS fun ρ => by
      have h0 : ¬ l.length ≤ 60 := by simp at h0; omega
      simp [lightCells, h0, AV.con, Leaf.con]⟩
  have h0 : l.length ≤ 60 := by simp at h0; omega
  refine ⟨[], ⟨⟨Nat, fun i => i ≤ x.n ∧ l.all lightCell = (l.drop i).all lightCell, fun i => x.n - i, fun i => [(3, ai i), (0, asl x)], fun _ => [], fun _ => m,
    ⟨0, ⟨by omega, rfl⟩, entails_ren [] ⟨rfl, rfl, trivial⟩ trivial rfl rfl⟩, fun i hi => ?_⟩⟩⟩
  obtain ⟨hin, hor⟩ := hi
  refine ⟨fun h1 => ?_, fun h1 => ?_⟩
  · have h1 : i < x.n := by simpa using h1
    have hlt : i < l.length := by omega
    obtain ⟨a, s, hA, hr, hv⟩ := h.at (List.getElem?_eq_getElem hlt)
    have hd := all_drop (p := lightCell) (List.getElem?_eq_getElem hlt)
    have hno : lightCell l[i] = false → lightCells l = false := fun hb => by rw [lightCells, hor, hd, hb]; simp
    have hs := hv.1.cap; have hs2 := hv.1.most; have hsn := hv.2
    refine ⟨i, a, _, rfl, h1, hA, hr, ⟨fun h2 => ?_, fun h2 => ⟨i, a, _, rfl, h1, hA, hr, ⟨fun h3 => ?_, fun h3 => ⟨i, a, _, rfl, h1, hA, hr, ⟨fun h4 => ?_, fun h4 => ?_⟩⟩⟩⟩⟩⟩
    · exact ⟨[], retS fun ρ => by
        have h2 : ¬ l[i].vers.length ≤ 30 := by simp at h2; omega
        rw [hno (by simp [lightCell, h2])]; rfl⟩
    · exact ⟨[], retS fun ρ => by
        have h3 : ¬ l[i].key.size ≤ 100 := by simp at h3; omega
        rw [hno (by simp [lightCell, h3])]; rfl⟩
    · exact ⟨[], retS fun ρ => by
        have h4 : ¬ l[i].lock.data.size ≤ 300 := by simp at h4; omega
        rw [hno (by simp [lightCell, h4])]; rfl⟩
    have h2 : l[i].vers.length ≤ 30 := by simp at h2; omega
    have h3 : l[i].key.size ≤ 100 := by simp at h3; omega
    have h4 : l[i].lock.data.size ≤ 300 := by simp at h4; omega
    refine ⟨[], ⟨⟨Nat, fun k => k ≤ s.n ∧ (l[i].vers.all fun v => decide (v.data.size ≤ 300)) = ((l[i].vers.drop k).all fun v => decide (v.data.size ≤ 300)), fun k => s.n - k, fun k => [(4, ai k), (3, ai i), (0, asl x)], fun _ => [], fun _ => m,
      ⟨0, ⟨by omega, rfl⟩, entails_ren [] ⟨rfl, rfl, rfl, trivial⟩ trivial rfl rfl⟩, fun k hk => ?_⟩⟩⟩
    obtain ⟨hkn, hkor⟩ := hk
    refine ⟨i, a, _, rfl, h1, hA, hr, ?_⟩
    refine ⟨fun h5 => ?_, fun h5 => ?_⟩
    · have h5 : k < s.n := by simpa using h5
      have hkl : k < l[i].vers.length := by omega
      obtain ⟨b, hB, hrb⟩ := hv.at (fun _ => rfl) (List.getElem?_eq_getElem hkl)
      have hkd := all_drop (p := fun v : Ver => decide (v.data.size ≤ 300)) (List.getElem?_eq_getElem hkl)
      refine ⟨i, a, _, rfl, h1, hA, hr, ⟨k, b, _, rfl, h5, hB, hrb, ⟨fun h6 => ?_, fun h6 => ?_⟩⟩⟩
      · exact ⟨[], retS fun ρ => by
          have h6 : ¬ l[i].vers[k].data.size ≤ 300 := by simp at h6; omega
          rw [hno (by rw [lightCell, hkor, hkd, decide_eq_false h6]; simp)]; rfl⟩
      · have h6 : l[i].vers[k].data.size ≤ 300 := by simp at h6; omega
        refine ⟨((k + 1 : Nat) : Int), i64_in _ (by omega), ?_⟩
        exact ⟨[], k + 1, ⟨by omega, by rw [hkor, hkd, decide_eq_true h6]; rfl⟩, by show s.n - (k + 1) < s.n - k; omega, entails_ren [] ⟨rfl, rfl, rfl, trivial⟩ trivial rfl rfl⟩
    · have h5 : ¬ k < s.n := by simpa using h5
      have hyes : lightCell l[i] = true := by
        rw [lightCell, hkor, List.drop_eq_nil_of_le (by omega)]; simp [h2, h3, h4]
      refine ⟨((i + 1 : Nat) : Int), i64_in _ (by omega), ?_⟩
      exact ⟨[], i + 1, ⟨by omega, by rw [hor, hd, hyes]; rfl⟩, by show x.n - (i + 1) < x.n - i; omega, entails_ren [] ⟨rfl, rfl, trivial⟩ trivial rfl rfl⟩
  · have h1 : ¬ i < x.n := by simpa using h1
    exact ⟨[], retS fun ρ => by rw [lightCells, hor, List.drop_eq_nil_of_le (by omega)]; simp [AV.con, Leaf.con, h0]⟩

def lightPart (p : Part) : Bool := lightCells p.cells && decide (p.records.length < 100) && decide (p.done.length < 100)
theorem f15 (m : Mem) (p : Part) (xc xr xd : Sl) (h : PartRow m p xc xr xd) : FnS Try.prog 15 m [av (p.c xc xr xd)] (.bool (lightPart p)) := by
  refine fnS (args := [.agg (vmap (p.c xc xr xd))]) Γok mix Try.func15 rfl (by kernel_rfl) Try.ntmps15 rfl rfl (by simp) (okv_cons (okL_v rfl) okv_nil) ?_
  intro W
  have hr := h.records.2; have hd := h.done.2
  refine ⟨[], callS (f34 m xc p.cells h.cells) rfl rfl ?_⟩
  refine ⟨fun h1 => ⟨fun h2 => ?_, fun h2 => ?_⟩, fun h1 => ?_⟩
  · exact ⟨[], retS fun ρ => by
      have h2 : p.records.length < 100 := by simp at h2; omega
      simp [lightPart, h1, h2, AV.con, Leaf.con]; omega⟩
  · exact ⟨[], retS fun ρ => by
      have h2 : ¬ p.records.length < 100 := by simp at h2; omega
      simp [lightPart, h2, AV.con, Leaf.con]⟩
  · exact ⟨[], retS fun ρ => by simp [lightPart, h1, AV.con, Leaf.con]⟩
end Vc
end

section
open Go Go.Proofs Vc
namespace Vc

/-- what a cell may not be, beside its neighbour -/
def cellBad (prev : Option Cell) (c : Cell) : Bool :=
  (match prev with | some p => !sLt p.key c.key | none => false) || (!c.locked && !decide (c.lock = Lk.zero)) || (decide (c.vers.length = 0) && !c.locked) || (c.lock.drop && !decide (c.lock.data = ByteArray.empty))
def verBad (prev : Option Ver) (v : Ver) : Bool :=
  (v.drop && !decide (v.data = ByteArray.empty)) || (match prev with | some p => !p.at_.less v.at_ | none => false)
def prevO {α : Type} (l : List α) : Nat → Option α
  | 0 => none
  | k + 1 => l[k]?
def versOk (l : List Ver) (n : Nat) : Bool := (List.range n).all fun k => match l[k]? with
  | some v => !verBad (prevO l k) v
  | none => true
def cellsOk (l : List Cell) (n : Nat) : Bool := (List.range n).all fun k => match l[k]? with
  | some c => !cellBad (prevO l k) c && versOk c.vers c.vers.length
  | none => true
theorem range_all_succ {p : Nat → Bool} {n : Nat} : (List.range (n + 1)).all p = ((List.range n).all p && p n) := by
  rw [List.range_succ, List.all_append]; simp
theorem range_all_false {p : Nat → Bool} {n k : Nat} (hk : k < n) (h : p k = false) : (List.range n).all p = false := by
  rw [List.all_eq_false]; exact ⟨k, List.mem_range.2 hk, by simp [h]⟩

theorem f32 (m : Mem) (x : Sl) (l : List Cell) (h : CellRow m x l) : FnS Try.prog 32 m [vsl x] (.bool (cellsOk l l.length)) := by
  refine fnS (args := [asl x]) Γok mix Try.func32 rfl (by kernel_rfl) Try.ntmps32 rfl rfl (by simp) (okv_cons rfl okv_nil) ?_
  intro W
  have hx := h.bounds; have hm := maxLen_le; have hn := h.n
  refine ⟨[], ⟨⟨Nat, fun i => i ≤ x.n ∧ cellsOk l i = true, fun i => x.n - i, fun i => [(3, ai i), (0, asl x)], fun _ => [], fun _ => m,
    ⟨0, ⟨by omega, rfl⟩, entails_ren [] ⟨rfl, rfl, trivial⟩ trivial rfl rfl⟩, fun i hi => ?_⟩⟩⟩
  obtain ⟨hin, hor⟩ := hi
  refine ⟨fun h1 => ?_, fun h1 => ?_⟩
  · have h1 : i < x.n := by simpa using h1
    have hlt : i < l.length := by omega
    obtain ⟨a, s, hA, hr, hv⟩ := h.at (List.getElem?_eq_getElem hlt)
    have hs := hv.1.cap; have hs2 := hv.1.most; have hsn := hv.2
    refine ⟨i, a, _, rfl, h1, hA, hr, ?_⟩
    refine draw_cut [(62, .one (.v (.bool (cellBad (prevO l i) l[i])))), (3, ai i), (4, .one (.ptr 4 0)), (0, asl x)] [(4, .box (vmap (l[i].c s)) 55)] m ?_ ?_
    · refine draw Γok [(10, 4), (15, 4), (19, 4), (26, 4), (31, 4), (38, 4), (42, 4)] [] (.take 0 (.take 1 (.take 2 (.take 3 (.take 4 (.take 5 (.take 6 (.take 7 (.take 8 (.take 9 (.take 10 (.take 11 (.take 12 (.take 13 (.take 14 (.take 15 (.take 16 (.take 17 (.take 18 (.take 19 (.take 20 (.take 21 (.take 22 (.take 23 (.take 24 (.take 25 (.take 26 (.take 27 (.take 28 (.take 29 (.take 30 (.take 31 (.take 32 (.take 33 (.take 34 (.take 35 (.take 36 (.take 37 (.take 38 (.take 39 (.take 40 (.take 41 (.take 42 (.take 43 (.take 44 (.take 45 .done)))))))))))))))))))))))))))))))))))))))))))))) (by kernel_rfl) ?_
      have key : ∀ {E : Env} {F : Fr} {B : Ents} (b : Bool), cellBad (prevO l i) l[i] = b → Entails E F B m [(62, .one (.v (.bool b))), (3, ai i), (4, .one (.ptr 4 0)), (0, asl x)] [(4, .box (vmap (l[i].c s)) 55)] m → Entails E F B m [(62, .one (.v (.bool (cellBad (prevO l i) l[i])))), (3, ai i), (4, .one (.ptr 4 0)), (0, asl x)] [(4, .box (vmap (l[i].c s)) 55)] m := fun b hb he => by rw [hb]; exact he
      have habs : ∀ {e : Bool} {p : Prop}, e = true → e = false → p := fun h h' => by rw [h] at h'; cases h'
      have hlen : decide ((s.n : Int) = 0) = decide (l[i].vers.length = 0) := by rw [← hsn]; simp
      rcases i with _ | j
      · refine ⟨fun h2 => absurd h2 (by simp), fun _ => ?_⟩
        refine ⟨fun h4 => neq53 (a := l[0].lock) (b := Lk.zero) rfl ⟨fun h5 => ?_, fun h5 => ?_⟩, fun h4 => ?_⟩
        · refine key true ?_ ?_
          · unfold cellBad; simp only [prevO, h4, h5]; simp
          · exact entails_ren [] ⟨rfl, rfl, rfl, rfl, trivial⟩ ⟨rfl, trivial⟩ rfl rfl
        · refine ⟨fun h6 => ⟨fun h7 => ?_, fun h7 => ?_⟩, fun h6 => ?_⟩ <;> rw [hlen] at h6
          · refine key true ?_ ?_
            · first | exact habs h4 h7 | exact habs h7 h4 | (unfold cellBad; simp only [prevO, h4, h5, h6, h7]; simp)
            · exact entails_ren [] ⟨rfl, rfl, rfl, rfl, trivial⟩ ⟨rfl, trivial⟩ rfl rfl
          · refine ⟨fun h8 => ?_, fun h8 => ?_⟩
            · refine key (decide (l[0].lock.data ≠ ByteArray.empty)) ?_ ?_
              · first | exact habs h4 h7 | exact habs h7 h4 | (unfold cellBad; simp only [prevO, h4, h5, h6, h7, h8]; simp)
              · exact entails_ren [] ⟨rfl, rfl, rfl, rfl, trivial⟩ ⟨rfl, trivial⟩ rfl rfl
            · refine key false ?_ ?_
              · first | exact habs h4 h7 | exact habs h7 h4 | (unfold cellBad; simp only [prevO, h4, h5, h6, h7, h8]; simp)
              · exact entails_ren [] ⟨rfl, rfl, rfl, rfl, trivial⟩ ⟨rfl, trivial⟩ rfl rfl
          · refine ⟨fun h8 => ?_, fun h8 => ?_⟩
            · refine key (decide (l[0].lock.data ≠ ByteArray.empty)) ?_ ?_
              · unfold cellBad; simp only [prevO, h4, h5, h6, h8]; simp
              · exact entails_ren [] ⟨rfl, rfl, rfl, rfl, trivial⟩ ⟨rfl, trivial⟩ rfl rfl
            · refine key false ?_ ?_
              · unfold cellBad; simp only [prevO, h4, h5, h6, h8]; simp
              · exact entails_ren [] ⟨rfl, rfl, rfl, rfl, trivial⟩ ⟨rfl, trivial⟩ rfl rfl
        · refine ⟨fun h6 => ⟨fun h7 => ?_, fun h7 => ?_⟩, fun h6 => ?_⟩ <;> rw [hlen] at h6
          · refine key true ?_ ?_
            · first | exact habs h4 h7 | exact habs h7 h4 | (unfold cellBad; simp only [prevO, h4, h6, h7]; simp)
            · exact entails_ren [] ⟨rfl, rfl, rfl, rfl, trivial⟩ ⟨rfl, trivial⟩ rfl rfl
          · refine ⟨fun h8 => ?_, fun h8 => ?_⟩
            · refine key (decide (l[0].lock.data ≠ ByteArray.empty)) ?_ ?_
              · first | exact habs h4 h7 | exact habs h7 h4 | (unfold cellBad; simp only [prevO, h4, h6, h7, h8]; simp)
              · exact entails_ren [] ⟨rfl, rfl, rfl, rfl, trivial⟩ ⟨rfl, trivial⟩ rfl rfl
            · refine key false ?_ ?_
              · first | exact habs h4 h7 | exact habs h7 h4 | (unfold cellBad; simp only [prevO, h4, h6, h7, h8]; simp)
              · exact entails_ren [] ⟨rfl, rfl, rfl, rfl, trivial⟩ ⟨rfl, trivial⟩ rfl rfl
          · refine ⟨fun h8 => ?_, fun h8 => ?_⟩
            · refine key (decide (l[0].lock.data ≠ ByteArray.empty)) ?_ ?_
              · unfold cellBad; simp only [prevO, h4, h6, h8]; simp
              · exact entails_ren [] ⟨rfl, rfl, rfl, rfl, trivial⟩ ⟨rfl, trivial⟩ rfl rfl
            · refine key false ?_ ?_
              · unfold cellBad; simp only [prevO, h4, h6, h8]; simp
              · exact entails_ren [] ⟨rfl, rfl, rfl, rfl, trivial⟩ ⟨rfl, trivial⟩ rfl rfl
      · have hjl : j < l.length := by omega
        obtain ⟨b, s2, hB, hrb, _⟩ := h.at (List.getElem?_eq_getElem hjl)
        have hpv : prevO l (j + 1) = some l[j] := List.getElem?_eq_getElem hjl
        refine ⟨fun _ => ⟨(j : Int), by rw [i64_in _ (by omega)]; omega, ⟨j, b, _, rfl, by omega, hB, hrb, ⟨fun h3 => ?_, fun h3 => ?_⟩⟩⟩, fun h2 => absurd h2 (by simp)⟩
        · refine key true ?_ ?_
          · unfold cellBad; simp only [hpv, h3]; simp
          · exact entails_ren [] ⟨rfl, rfl, rfl, rfl, trivial⟩ ⟨rfl, trivial⟩ rfl rfl
        · -- not below
          refine ⟨fun h4 => neq53 (a := l[j + 1].lock) (b := Lk.zero) rfl ⟨fun h5 => ?_, fun h5 => ?_⟩, fun h4 => ?_⟩
          · refine key true ?_ ?_
            · unfold cellBad; simp only [hpv, h3, h4, h5]; simp
            · exact entails_ren [] ⟨rfl, rfl, rfl, rfl, trivial⟩ ⟨rfl, trivial⟩ rfl rfl
          · refine ⟨fun h6 => ⟨fun h7 => ?_, fun h7 => ?_⟩, fun h6 => ?_⟩ <;> rw [hlen] at h6
            · refine key true ?_ ?_
              · first | exact habs h4 h7 | exact habs h7 h4 | (unfold cellBad; simp only [hpv, h3, h4, h5, h6, h7]; simp)
              · exact entails_ren [] ⟨rfl, rfl, rfl, rfl, trivial⟩ ⟨rfl, trivial⟩ rfl rfl
            · refine ⟨fun h8 => ?_, fun h8 => ?_⟩
              · refine key (decide (l[j + 1].lock.data ≠ ByteArray.empty)) ?_ ?_
                · first | exact habs h4 h7 | exact habs h7 h4 | (unfold cellBad; simp only [hpv, h3, h4, h5, h6, h7, h8]; simp)
                · exact entails_ren [] ⟨rfl, rfl, rfl, rfl, trivial⟩ ⟨rfl, trivial⟩ rfl rfl
              · refine key false ?_ ?_
                · first | exact habs h4 h7 | exact habs h7 h4 | (unfold cellBad; simp only [hpv, h3, h4, h5, h6, h7, h8]; simp)
                · exact entails_ren [] ⟨rfl, rfl, rfl, rfl, trivial⟩ ⟨rfl, trivial⟩ rfl rfl
            · refine ⟨fun h8 => ?_, fun h8 => ?_⟩
              · refine key (decide (l[j + 1].lock.data ≠ ByteArray.empty)) ?_ ?_
                · unfold cellBad; simp only [hpv, h3, h4, h5, h6, h8]; simp
                · exact entails_ren [] ⟨rfl, rfl, rfl, rfl, trivial⟩ ⟨rfl, trivial⟩ rfl rfl
              · refine key false ?_ ?_
                · unfold cellBad; simp only [hpv, h3, h4, h5, h6, h8]; simp
                · exact entails_ren [] ⟨rfl, rfl, rfl, rfl, trivial⟩ ⟨rfl, trivial⟩ rfl rfl
          · refine ⟨fun h6 => ⟨fun h7 => ?_, fun h7 => ?_⟩, fun h6 => ?_⟩ <;> rw [hlen] at h6
            · refine key true ?_ ?_
              · first | exact habs h4 h7 | exact habs h7 h4 | (unfold cellBad; simp only [hpv, h3, h4, h6, h7]; simp)
              · exact entails_ren [] ⟨rfl, rfl, rfl, rfl, trivial⟩ ⟨rfl, trivial⟩ rfl rfl
            · refine ⟨fun h8 => ?_, fun h8 => ?_⟩
              · refine key (decide (l[j + 1].lock.data ≠ ByteArray.empty)) ?_ ?_
                · first | exact habs h4 h7 | exact habs h7 h4 | (unfold cellBad; simp only [hpv, h3, h4, h6, h7, h8]; simp)
                · exact entails_ren [] ⟨rfl, rfl, rfl, rfl, trivial⟩ ⟨rfl, trivial⟩ rfl rfl
              · refine key false ?_ ?_
                · first | exact habs h4 h7 | exact habs h7 h4 | (unfold cellBad; simp only [hpv, h3, h4, h6, h7, h8]; simp)
                · exact entails_ren [] ⟨rfl, rfl, rfl, rfl, trivial⟩ ⟨rfl, trivial⟩ rfl rfl
            · refine ⟨fun h8 => ?_, fun h8 => ?_⟩
              · refine key (decide (l[j + 1].lock.data ≠ ByteArray.empty)) ?_ ?_
                · unfold cellBad; simp only [hpv, h3, h4, h6, h8]; simp
                · exact entails_ren [] ⟨rfl, rfl, rfl, rfl, trivial⟩ ⟨rfl, trivial⟩ rfl rfl
              · refine key false ?_ ?_
                · unfold cellBad; simp only [hpv, h3, h4, h6, h8]; simp
                · exact entails_ren [] ⟨rfl, rfl, rfl, rfl, trivial⟩ ⟨rfl, trivial⟩ rfl rfl
    refine ⟨fun h2 => ?_, fun h2 => ?_⟩
    · exact ⟨[], retS fun ρ => by
        rw [show cellsOk l l.length = false from range_all_false hlt (by simp only [List.getElem?_eq_getElem hlt, h2]; rfl)]; rfl⟩
    refine ⟨[], ⟨⟨Nat, fun k => k ≤ s.n ∧ versOk l[i].vers k = true, fun k => s.n - k, fun k => [(5, ai k), (3, ai i), (4, .one (.ptr 4 0)), (0, asl x)], fun _ => [(4, .box (vmap (l[i].c s)) 55)], fun _ => m,
      ⟨0, ⟨by omega, rfl⟩, entails_ren [] ⟨rfl, rfl, rfl, rfl, trivial⟩ ⟨rfl, trivial⟩ rfl rfl⟩, fun k hk => ?_⟩⟩⟩
    obtain ⟨hkn, hkor⟩ := hk
    refine ⟨fun h5 => ?_, fun h5 => ?_⟩
    · have h5 : k < s.n := by simpa using h5
      have hkl : k < l[i].vers.length := by omega
      obtain ⟨b, hB, hrb⟩ := hv.at (fun _ => rfl) (List.getElem?_eq_getElem hkl)
      refine ⟨k, b, _, rfl, h5, hB, hrb, ?_⟩
      refine draw_cut [(98, .one (.v (.bool (verBad (prevO l[i].vers k) l[i].vers[k])))), (5, ai k), (3, ai i), (4, .one (.ptr 4 0)), (0, asl x)] [(4, .box (vmap (l[i].c s)) 55)] m ?_ ?_
      · have vkey : ∀ {E : Env} {F : Fr} {B : Ents} (b : Bool), verBad (prevO l[i].vers k) l[i].vers[k] = b → Entails E F B m [(98, .one (.v (.bool b))), (5, ai k), (3, ai i), (4, .one (.ptr 4 0)), (0, asl x)] [(4, .box (vmap (l[i].c s)) 55)] m → Entails E F B m [(98, .one (.v (.bool (verBad (prevO l[i].vers k) l[i].vers[k])))), (5, ai k), (3, ai i), (4, .one (.ptr 4 0)), (0, asl x)] [(4, .box (vmap (l[i].c s)) 55)] m := fun b hb he => by rw [hb]; exact he
        refine draw Γok [(1, 6), (4, 6), (12, 4), (19, 6)] [20] (.take 0 (.take 1 (.take 2 (.take 3 (.take 4 (.take 5 (.take 6 (.take 7 (.take 8 (.take 9 (.take 10 (.take 11 (.take 12 (.take 13 (.take 14 (.take 15 (.take 16 (.take 17 (.take 18 (.take 19 (.pcall 20 (.take 21 (.take 22 (.take 23 .done)))))))))))))))))))))))) (by kernel_rfl) ?_
        refine ⟨fun h6 => ⟨fun h7 => ?_, fun h7 => ?_⟩, fun h6 => ?_⟩
        · refine vkey true ?_ ?_
          · unfold verBad; have h7 : l[i].vers[k].data ≠ ByteArray.empty := of_decide_eq_true h7; simp only [h6, decide_eq_false h7]; simp
          · exact entails_ren [] ⟨rfl, rfl, rfl, rfl, rfl, trivial⟩ ⟨rfl, trivial⟩ rfl rfl
        · have h7 : l[i].vers[k].data = ByteArray.empty := Decidable.not_not.1 (of_decide_eq_false h7)
          rcases k with _ | q
          · refine ⟨fun h9 => absurd h9 (by simp), fun _ => ?_⟩
            refine vkey false ?_ ?_
            · unfold verBad; simp only [prevO, h6, h7]; simp
            · exact entails_ren [] ⟨rfl, rfl, rfl, rfl, rfl, trivial⟩ ⟨rfl, trivial⟩ rfl rfl
          · have hql : q < l[i].vers.length := by omega
            obtain ⟨b2, hB2, hrb2⟩ := hv.at (fun _ => rfl) (List.getElem?_eq_getElem hql)
            have hpv : prevO l[i].vers (q + 1) = some l[i].vers[q] := List.getElem?_eq_getElem hql
            refine ⟨fun _ => ⟨(q : Int), by rw [i64_in _ (by omega)]; omega, ⟨q, b2, _, rfl, by omega, hB2, hrb2, ?_⟩⟩, fun h9 => absurd h9 (by simp)⟩
            refine pureS (f48 m l[i].vers[q].at_ l[i].vers[q + 1].at_) rfl rfl ?_
            refine vkey (!l[i].vers[q].at_.less l[i].vers[q + 1].at_) ?_ ?_
            · unfold verBad; simp only [hpv, h6, h7]; simp
            · exact entails_ren [] ⟨rfl, rfl, rfl, rfl, rfl, trivial⟩ ⟨rfl, trivial⟩ rfl rfl
        · -- it is no drop
          rcases k with _ | q
          · refine ⟨fun h9 => absurd h9 (by simp), fun _ => ?_⟩
            refine vkey false ?_ ?_
            · unfold verBad; simp only [prevO, h6]; simp
            · exact entails_ren [] ⟨rfl, rfl, rfl, rfl, rfl, trivial⟩ ⟨rfl, trivial⟩ rfl rfl
          · have hql : q < l[i].vers.length := by omega
            obtain ⟨b2, hB2, hrb2⟩ := hv.at (fun _ => rfl) (List.getElem?_eq_getElem hql)
            have hpv : prevO l[i].vers (q + 1) = some l[i].vers[q] := List.getElem?_eq_getElem hql
            refine ⟨fun _ => ⟨(q : Int), by rw [i64_in _ (by omega)]; omega, ⟨q, b2, _, rfl, by omega, hB2, hrb2, ?_⟩⟩, fun h9 => absurd h9 (by simp)⟩
            refine pureS (f48 m l[i].vers[q].at_ l[i].vers[q + 1].at_) rfl rfl ?_
            refine vkey (!l[i].vers[q].at_.less l[i].vers[q + 1].at_) ?_ ?_
            · unfold verBad; simp only [hpv, h6]; simp
            · exact entails_ren [] ⟨rfl, rfl, rfl, rfl, rfl, trivial⟩ ⟨rfl, trivial⟩ rfl rfl
      refine ⟨fun h6 => ?_, fun h6 => ?_⟩
      · exact ⟨[], retS fun ρ => by
          rw [show cellsOk l l.length = false from range_all_false hlt (by
            simp only [List.getElem?_eq_getElem hlt]
            rw [show versOk l[i].vers l[i].vers.length = false from range_all_false hkl (by simp only [List.getElem?_eq_getElem hkl, h6]; rfl)]
            simp)]; rfl⟩
      · refine ⟨((k + 1 : Nat) : Int), i64_in _ (by omega), ?_⟩
        refine ⟨[], k + 1, ⟨by omega, ?_⟩, by show s.n - (k + 1) < s.n - k; omega, entails_ren [] ⟨rfl, rfl, rfl, rfl, trivial⟩ ⟨rfl, trivial⟩ rfl rfl⟩
        rw [versOk, range_all_succ, ← versOk, hkor]
        simp only [List.getElem?_eq_getElem hkl, h6]; rfl
    · have h5 : k = l[i].vers.length := by have : ¬ k < s.n := by simpa using h5
                                           omega
      subst h5
      refine ⟨((i + 1 : Nat) : Int), i64_in _ (by omega), ?_⟩
      refine ⟨[], i + 1, ⟨by omega, ?_⟩, by show x.n - (i + 1) < x.n - i; omega, entails_ren [] ⟨rfl, rfl, trivial⟩ trivial rfl rfl⟩
      rw [cellsOk, range_all_succ, ← cellsOk, hor]
      simp only [List.getElem?_eq_getElem hlt, h2, hkor]; rfl
  · have h1 : i = l.length := by have : ¬ i < x.n := by simpa using h1
                                 omega
    subst h1
    exact ⟨[], retS fun ρ => by rw [hor]; rfl⟩
end Vc
end

section
open Go Go.Proofs Vc
namespace Vc

def mayR (p : Part) : Bool := cellsOk p.cells p.cells.length && decide (0 ≤ p.epoch) && decide (p.epoch ≤ 1099511627776) && (decide (p.low ≤ p.closed) || decide (p.low = 0)) && onceR p.records && onceR p.done
theorem f14 (m : Mem) (p : Part) (xc xr xd : Sl) (h : PartRow m p xc xr xd) : FnS Try.prog 14 m [av (p.c xc xr xd)] (.bool (mayR p)) := by
  refine fnS (args := [.agg (vmap (p.c xc xr xd))]) Γok mix Try.func14 rfl (by kernel_rfl) Try.ntmps14 rfl rfl (by simp) (okv_cons (okL_v rfl) okv_nil) ?_
  intro W
  refine ⟨[], callS (f32 m xc p.cells h.cells) rfl rfl ?_⟩
  repeat' (first | (refine ⟨[], callS (f33 m _ _ h.records) rfl rfl ?_⟩) | (refine ⟨[], callS (f33 m _ _ h.done) rfl rfl ?_⟩) | (refine ⟨[], retS fun ρ => (?_ : Value.bool _ = Value.bool _)⟩; refine congrArg Value.bool ?_; show _ = mayR p; unfold mayR; simp_all; done) | (refine ⟨[], retS fun ρ => (?_ : Value.bool _ = Value.bool _)⟩; refine congrArg Value.bool ?_; show _ = mayR p; unfold mayR; simp_all; omega) | (refine ⟨fun _ => ?_, fun _ => ?_⟩))

/-! ### strings.Compare -/
theorem f89 (m : Mem) (a b : ByteArray) : FnS Try.prog 89 m [.string a, .string b] (vi (cmpS a b)) := by
  intro W _
  refine .inr ⟨vi (cmpS a b), W, ?_, rfl, Go.RowKit.Below.refl _ _⟩
  rw [run_callFunc_extern Try.func89 (by kernel_rfl) (by kernel_rfl) (by kernel_rfl) (e := Extern.BytealgCompare.compare) (by kernel_rfl), Lib.run_compareString]
  rfl
theorem f86 (m : Mem) (a b : ByteArray) : FnS Try.prog 86 m [.string a, .string b] (vi (cmpS a b)) := by
  refine fnS (args := [.one (.v (.string a)), .one (.v (.string b))]) Γok mix Try.func86 rfl (by kernel_rfl) Try.ntmps86 rfl rfl (by simp) (okv_cons rfl (okv_cons rfl okv_nil)) ?_
  intro W
  exact ⟨[], callS (f89 m a b) rfl rfl ⟨[], retS fun ρ => rfl⟩⟩
theorem f81 (m : Mem) (a b : ByteArray) : FnS Try.prog 81 m [.string a, .string b] (vi (cmpS a b)) := by
  refine fnS (args := [.one (.v (.string a)), .one (.v (.string b))]) Γok mix Try.func81 rfl (by kernel_rfl) Try.ntmps81 rfl rfl (by simp) (okv_cons rfl (okv_cons rfl okv_nil)) ?_
  intro W
  exact ⟨[], callS (f86 m a b) rfl rfl ⟨[], retS fun ρ => rfl⟩⟩
theorem f80 (m : Mem) (c : Cell) (x : Sl) (key : ByteArray) : FnS Try.prog 80 m [av (c.c x), .string key] (vi (cmpS c.key key)) := by
  refine fnS (args := [.agg (vmap (c.c x)), .one (.v (.string key))]) Γok mix Try.func80 rfl (by kernel_rfl) Try.ntmps80 rfl rfl (by simp) (okv_cons (okL_v rfl) (okv_cons rfl okv_nil)) ?_
  intro W
  exact ⟨[], callS (f81 m c.key key) rfl rfl ⟨[], retS fun ρ => rfl⟩⟩

def Γ2 : Types := (121, ⟨.int .u64, 1, 8, [.int .u64 0]⟩) :: Γ
theorem Γok2 : TypesOk Try.prog Γ2 := typesOk_cons ⟨by kernel_rfl, by kernel_rfl, rfl, rfl, by kernel_rfl⟩ Γok

/-! ### the place of a key -/
def KeysUp (l : List Cell) : Prop := ∀ (i j : Nat) (a b : Cell), i < j → l[i]? = some a → l[j]? = some b → sLt a.key b.key = true
def lb (l : List Cell) (key : ByteArray) : Nat := (l.takeWhile fun c => sLt c.key key).length
theorem lb_le (l : List Cell) (key : ByteArray) : lb l key ≤ l.length := (List.takeWhile_sublist _).length_le
theorem KeysUp.tail {c : Cell} {r : List Cell} (h : KeysUp (c :: r)) : KeysUp r := fun i j a b hij ha hb => h (i + 1) (j + 1) a b (by omega) ha hb
theorem lb_spec {l : List Cell} (h : KeysUp l) (key : ByteArray) : ∀ k c, l[k]? = some c → (sLt c.key key = true ↔ k < lb l key) := by
  induction l with
  | nil => intro k c hk; cases hk
  | cons x r ih =>
    intro k c hk
    by_cases hx : sLt x.key key = true
    · have e : lb (x :: r) key = lb r key + 1 := by unfold lb; rw [List.takeWhile_cons, if_pos hx]; rfl
      rw [e]
      cases k with
      | zero => simp at hk; subst hk; simp [hx]
      | succ k => rw [ih h.tail k c hk]; omega
    · have e : lb (x :: r) key = 0 := by unfold lb; rw [List.takeWhile_cons, if_neg hx]; rfl
      rw [e]
      refine ⟨fun hc => absurd ?_ hx, fun hc => by omega⟩
      cases k with
      | zero => simp at hk; subst hk; exact hc
      | succ k => exact sLt_trans (h 0 (k + 1) x c (by omega) rfl hk) hc
def findL (l : List Cell) (key : ByteArray) : Bool := match l[lb l key]? with
  | some c => decide (c.key = key)
  | none => false
def vib (i : Int) (b : Bool) : Value := .tuple #[vi i, .bool b]

theorem f79 (m : Mem) (x : Sl) (l : List Cell) (key : ByteArray) (h : CellRow m x l) (hup : KeysUp l) : FnS Try.prog 79 m [vsl x, .string key, .func (.func 80) #[] #[]] (vib (lb l key) (findL l key)) := by
  refine fnS (args := [asl x, .one (.v (.string key)), .one (.fn 80 [])]) Γok2 mix Try.func79 rfl (by kernel_rfl) Try.ntmps79 rfl rfl (by simp) (okv_cons rfl (okv_cons rfl (okv_cons (fun c hc => by cases hc) okv_nil))) ?_
  intro W
  have hx := h.bounds; have hm := maxLen_le; have hn := h.n
  have hlb := lb_le l key
  have hsp := lb_spec hup key
  refine ⟨[], ⟨⟨Nat × Nat, fun p => p.1 ≤ lb l key ∧ lb l key ≤ p.2 ∧ p.2 ≤ x.n, fun p => p.2 - p.1, fun p => [(9, ai p.1), (10, ai p.2), (8, ai x.n), (2, .one (.fn 80 [])), (1, .one (.v (.string key))), (0, asl x)], fun _ => [], fun _ => m,
    ⟨(0, x.n), ⟨by show 0 ≤ _; omega, by show _ ≤ x.n; omega, Nat.le_refl _⟩, entails_ren [] ⟨rfl, rfl, rfl, rfl, rfl, rfl, trivial⟩ trivial rfl rfl⟩, fun p hp => ?_⟩⟩⟩
  obtain ⟨i, j⟩ := p
  obtain ⟨h1, h2, h3⟩ := hp
  simp only at h1 h2 h3
  refine ⟨fun hij => ?_, fun hij => ?_⟩
  · have hij : i < j := by simpa using hij
    refine ⟨_, rfl, ?_⟩
    refine ⟨((i + j : Nat) : Int), by rw [IntKind.wrap_u64, IntKind.wrap_i64]; omega, ?_⟩
    refine ⟨by decide, (((i + j) / 2 : Nat) : Int), by show Int.fdiv _ 2 = _; rw [Int.fdiv_eq_ediv_of_nonneg _ (by decide)]; omega, ?_⟩
    refine ⟨(((i + j) / 2 : Nat) : Int), i64_in _ (by omega), ?_⟩
    have hlt : (i + j) / 2 < l.length := by omega
    obtain ⟨a, s, hA, hr, hv⟩ := h.at (List.getElem?_eq_getElem hlt)
    have hk := hsp _ _ (List.getElem?_eq_getElem hlt)
    refine ⟨(i + j) / 2, a, _, rfl, by omega, hA, hr, ?_⟩
    refine ⟨[], callS (f80 m l[(i + j) / 2] s key) rfl rfl ?_⟩
    refine ⟨fun hc => ?_, fun hc => ?_⟩
    · rw [cmpS_neg] at hc
      refine ⟨(((i + j) / 2 + 1 : Nat) : Int), i64_in _ (by omega), ?_⟩
      have := hk.1 hc
      exact ⟨[], ((i + j) / 2 + 1, j), ⟨by show _ + 1 ≤ _; omega, h2, h3⟩, by show j - ((i + j) / 2 + 1) < j - i; omega, entails_ren [] ⟨rfl, rfl, rfl, rfl, rfl, rfl, trivial⟩ trivial rfl rfl⟩
    · rw [cmpS_neg] at hc
      have : ¬ (i + j) / 2 < lb l key := fun hh => by rw [hk.2 hh] at hc; cases hc
      exact ⟨[], (i, (i + j) / 2), ⟨h1, by show _ ≤ (i + j) / 2; omega, by show (i + j) / 2 ≤ x.n; omega⟩, by show (i + j) / 2 - i < j - i; omega, entails_ren [] ⟨rfl, rfl, rfl, rfl, rfl, rfl, trivial⟩ trivial rfl rfl⟩
  · have hij : ¬ i < j := by simpa using hij
    have hi : i = lb l key := by omega
    subst hi
    refine ⟨fun hb => ?_, fun hb => ?_⟩
    · have hb : lb l key < x.n := by simpa using hb
      have hlt : lb l key < l.length := by omega
      obtain ⟨a, s, hA, hr, hv⟩ := h.at (List.getElem?_eq_getElem hlt)
      refine ⟨lb l key, a, _, rfl, by omega, hA, hr, ?_⟩
      refine ⟨[], callS (f80 m l[lb l key] s key) rfl rfl ?_⟩
      exact ⟨[], retS fun ρ => by rw [cmpS_zero]; unfold findL; rw [List.getElem?_eq_getElem hlt]; rfl⟩
    · have hb : ¬ lb l key < x.n := by simpa using hb
      exact ⟨[], retS fun ρ => by unfold findL; rw [List.getElem?_eq_none (by omega)]; rfl⟩
end Vc
end

section
open Go Go.Proofs Vc
namespace Vc

theorem f73 (m : Mem) (x : Sl) (l : List Cell) (key : ByteArray) (h : CellRow m x l) (hup : KeysUp l) : FnS Try.prog 73 m [vsl x, .string key] (vib (lb l key) (findL l key)) := by
  refine fnS (args := [asl x, .one (.v (.string key))]) Γok mix Try.func73 rfl (by kernel_rfl) Try.ntmps73 rfl rfl (by simp) (okv_cons rfl (okv_cons rfl okv_nil)) ?_
  intro W
  exact ⟨[], callS (f79 m x l key h hup) rfl rfl ⟨[], retS fun ρ => rfl⟩⟩

theorem filter_range {α : Type} {p : α → Bool} : ∀ (l : List α) (lo hi : Nat), hi ≤ l.length → (∀ k c, l[k]? = some c → (p c = true ↔ lo ≤ k ∧ k < hi)) → l.filter p = (l.take hi).drop lo
  | [], lo, hi => fun _ _ => by simp
  | x :: r, lo, 0 => fun _ h => by
    rw [List.filter_eq_nil_iff.2 (fun c hc => by
      obtain ⟨k, hk⟩ := List.getElem?_of_mem hc
      intro hp
      have := (h k c hk).1 hp
      omega)]
    simp
  | x :: r, 0, hi + 1 => fun hl h => by
    have hx : p x = true := (h 0 x rfl).2 ⟨by omega, by omega⟩
    rw [List.filter_cons, if_pos hx, filter_range r 0 hi (by simpa using hl) (fun k c hk => by rw [h (k + 1) c (by simpa using hk)]; omega)]
    simp
  | x :: r, lo + 1, hi + 1 => fun hl h => by
    have hx : ¬ p x = true := fun hp => by have := (h 0 x rfl).1 hp; omega
    rw [List.filter_cons, if_neg hx, filter_range r lo hi (by simpa using hl) (fun k c hk => by rw [h (k + 1) c (by simpa using hk)]; omega)]
    simp

def inS (s : Span) (c : Cell) : Bool := inSpan c.key s
def withinS (x : Sl) (l : List Cell) (s : Span) : Sl := if sLt s.lo s.hi = true then x.cut 12 (lb l s.lo) (max (lb l s.hi) (lb l s.lo)) else Sl.nil
theorem within_filter {l : List Cell} (hup : KeysUp l) (s : Span) : l.filter (inS s) = if sLt s.lo s.hi = true then (l.take (max (lb l s.hi) (lb l s.lo))).drop (lb l s.lo) else [] := by
  split
  · have h1 := lb_le l s.lo; have h2 := lb_le l s.hi
    refine filter_range l _ _ (by omega) (fun k c hk => ?_)
    have hlo := lb_spec hup s.lo k c hk
    have hhi := lb_spec hup s.hi k c hk
    simp only [inS, inSpan, Bool.and_eq_true, Bool.not_eq_true', ← Bool.not_eq_true]
    rw [hlo, hhi]
    omega
  · rename_i hs
    rw [List.filter_eq_nil_iff]
    intro c _ hc
    simp only [inS, inSpan, Bool.and_eq_true, Bool.not_eq_true'] at hc
    refine hs ?_
    cases hh : sLt s.lo s.hi with
    | true => rfl
    | false =>
      cases hh2 : sLt s.lo c.key with
      | true => rw [sLt_trans hh2 hc.2] at hh; cases hh
      | false => have := sLt_tri hc.1 hh2; rw [← this, hc.2] at hh; cases hh
theorem within_row {m : Mem} {x : Sl} {l : List Cell} (h : CellRow m x l) (hup : KeysUp l) (s : Span) : CellRow m (withinS x l s) (l.filter (inS s)) := by
  rw [within_filter hup, withinS]
  have h1 := lb_le l s.lo; have h2 := lb_le l s.hi
  split
  · exact h.cut (by omega) (by omega)
  · exact ⟨[], rfl, ⟨⟨rfl, Nat.le_refl _, Nat.zero_le _, fun h => absurd h (by decide)⟩, rfl⟩, fun p hp => by cases hp⟩

theorem f69 (m : Mem) (x : Sl) (l : List Cell) (s : Span) (h : CellRow m x l) (hup : KeysUp l) : FnS Try.prog 69 m [vsl x, av s.c] (vsl (withinS x l s)) := by
  refine fnS (args := [asl x, .agg (vmap s.c)]) Γok mix Try.func69 rfl (by kernel_rfl) Try.ntmps69 rfl rfl (by simp) (okv_cons rfl (okv_cons (okL_v rfl) okv_nil)) ?_
  intro W
  have hx := h.bounds; have hm := maxLen_le; have hn := h.n
  have h1 := lb_le l s.lo; have h2 := lb_le l s.hi
  refine ⟨fun hb => ?_, fun hb => ?_⟩
  · refine ⟨[], retS fun ρ => ?_⟩
    have : sLt s.lo s.hi = false := by
      rcases Bool.or_eq_true _ _ ▸ hb with hb | hb
      · exact sLt_asym hb
      · rw [of_decide_eq_true hb]; exact sLt_irr _
    rw [withinS, this]; rfl
  · have hlt : sLt s.lo s.hi = true := by
      rw [Bool.or_eq_false_iff] at hb
      cases hh : sLt s.lo s.hi with
      | true => rfl
      | false => have := sLt_tri hb.1 hh; simp [this] at hb
    refine ⟨[], callS (f73 m x l s.lo h hup) rfl rfl ?_⟩
    refine ⟨[], callS (f73 m x l s.hi h hup) rfl rfl ?_⟩
    refine ⟨lb l s.lo, max (lb l s.hi) (lb l s.lo), by omega, by omega, rfl, ?_, ?_⟩
    · show (if _ then _ else _) = _
      split <;> omega
    · exact ⟨[], retS fun ρ => by rw [withinS, if_pos hlt]; rfl⟩

/-! ### what a cell tells -/
def VersUp (l : List Ver) : Prop := ∀ (i j : Nat) (a b : Ver), i < j → l[i]? = some a → l[j]? = some b → a.at_.less b.at_ = true
theorem less_irr (a : Stamp) : a.less a = false := by simp [Stamp.less]
theorem less_trans {a b c : Stamp} (h1 : a.less b = true) (h2 : b.less c = true) : a.less c = true := by
  simp [Stamp.less] at *; omega
theorem less_tri {a b : Stamp} (h1 : a.less b = false) (h2 : b.less a = false) : a = b := by
  obtain ⟨w, t⟩ := a; obtain ⟨w', t'⟩ := b
  simp [Stamp.less] at *
  omega
theorem less_asym {a b : Stamp} (h : a.less b = true) : b.less a = false := by
  simp [Stamp.less] at *; omega
/-- how many versions are not above s -/
def upto (l : List Ver) (s : Stamp) : Nat := (l.takeWhile fun v => !s.less v.at_).length
theorem upto_le (l : List Ver) (s : Stamp) : upto l s ≤ l.length := (List.takeWhile_sublist _).length_le
theorem VersUp.tail {c : Ver} {r : List Ver} (h : VersUp (c :: r)) : VersUp r := fun i j a b hij ha hb => h (i + 1) (j + 1) a b (by omega) ha hb
theorem upto_spec {l : List Ver} (h : VersUp l) (s : Stamp) : ∀ k v, l[k]? = some v → (s.less v.at_ = false ↔ k < upto l s) := by
  induction l with
  | nil => intro k c hk; cases hk
  | cons x r ih =>
    intro k c hk
    by_cases hx : s.less x.at_ = false
    · have e : upto (x :: r) s = upto r s + 1 := by unfold upto; rw [List.takeWhile_cons, if_pos (by simp [hx])]; rfl
      rw [e]
      cases k with
      | zero => simp at hk; subst hk; simp [hx]
      | succ k => rw [ih h.tail k c hk]; omega
    · have e : upto (x :: r) s = 0 := by unfold upto; rw [List.takeWhile_cons, if_neg (by simpa using hx)]; rfl
      rw [e]
      refine ⟨fun hc => absurd ?_ hx, fun hc => by omega⟩
      cases k with
      | zero => simp at hk; subst hk; exact hc
      | succ k =>
        have hxc := h 0 (k + 1) x c (by omega) rfl hk
        cases hs : s.less x.at_ with
        | false => rfl
        | true => rw [less_trans hs hxc] at hc; cases hc
theorem lastN_upto {l : List Ver} (h : VersUp l) (s : Stamp) : ∀ n, upto l s ≤ n → n ≤ l.length → lastN l s n = (upto l s : Int) - 1 := by
  intro n
  induction n with
  | zero => intro h0 _; simp [lastN]; omega
  | succ n ih =>
    intro hle hl
    have hg := List.getElem?_eq_getElem (by omega : n < l.length)
    have hsp := upto_spec h s n _ hg
    simp only [lastN, hg]
    cases hs : s.less l[n].at_ with
    | false => have := hsp.1 hs; simp; omega
    | true =>
      have : ¬ n < upto l s := fun hh => by rw [hsp.2 hh] at hs; cases hs
      simp; exact ih (by omega) (by omega)
theorem lastV_upto {l : List Ver} (h : VersUp l) (s : Stamp) : lastV l s = (upto l s : Int) - 1 := lastN_upto h s _ (upto_le l s) (Nat.le_refl _)
theorem ofR_upto {l : List Ver} (h : VersUp l) (s : Stamp) : ofR l s = match l[upto l s - 1]? with
    | some v => if 0 < upto l s ∧ v.drop = false then (v.data, true) else (ByteArray.empty, false)
    | none => (ByteArray.empty, false) := by
  have key : ∀ n, n ≤ l.length → (l.take n).foldl (ofStep s) (ByteArray.empty, false) = match (if min n (upto l s) = 0 then none else l[min n (upto l s) - 1]?) with
      | some v => (v.data, !v.drop)
      | none => (ByteArray.empty, false) := by
    intro n
    induction n with
    | zero => intro _; simp
    | succ n ih =>
      intro hn
      have hg := List.getElem?_eq_getElem (by omega : n < l.length)
      have hsp := upto_spec h s n _ hg
      rw [List.take_succ_eq_append_getElem (by omega), List.foldl_append, ih (by omega)]
      simp only [List.foldl_cons, List.foldl_nil, ofStep]
      cases hs : s.less l[n].at_ with
      | true =>
        have : ¬ n < upto l s := fun hh => by rw [hsp.2 hh] at hs; cases hs
        rw [if_pos rfl, show min (n + 1) (upto l s) = min n (upto l s) by omega]
      | false =>
        have := hsp.1 hs
        rw [if_neg (by simp), show min (n + 1) (upto l s) = n + 1 by omega]
        simp [hg]
  have hk := key l.length (Nat.le_refl _)
  rw [List.take_length] at hk
  have hu := upto_le l s
  rw [show min l.length (upto l s) = upto l s by omega] at hk
  unfold ofR
  rw [hk]
  rcases Nat.eq_zero_or_pos (upto l s) with h0 | h0
  · simp [h0]; split <;> rfl
  · have hlt : upto l s - 1 < l.length := by omega
    have hne : upto l s ≠ 0 := by omega
    simp only [hne, if_false, List.getElem?_eq_getElem hlt]
    cases hd : l[upto l s - 1].drop <;> simp [h0]

theorem f70 (m : Mem) (x : Sl) (c : Cell) (s : Stamp) (h : VerRow m x c.vers) (hup : VersUp c.vers) : FnS Try.prog 70 m [av (c.c x), av s.c] (vsb (ofR c.vers s)) := by
  refine fnS (args := [.agg (vmap (c.c x)), .agg (vmap s.c)]) Γok mix Try.func70 rfl (by kernel_rfl) Try.ntmps70 rfl rfl (by simp) (okv_cons (okL_v rfl) (okv_cons (okL_v rfl) okv_nil)) ?_
  intro W
  have hu := upto_le c.vers s; have hn := h.2
  refine ⟨[], callS (f63 m x c.vers s h) rfl rfl ?_⟩
  have hl := lastV_upto hup s
  refine ⟨fun hb => ?_, fun hb => ?_⟩
  · have hb : upto c.vers s = 0 := by rw [hl] at hb; simp at hb; omega
    have e : ofR c.vers s = (ByteArray.empty, false) := by rw [ofR_upto hup, hb]; split <;> simp
    exact ⟨[], retS fun ρ => by rw [e]; rfl⟩
  · have hb : 0 < upto c.vers s := by rw [hl] at hb; simp at hb; omega
    have hlt : upto c.vers s - 1 < c.vers.length := by omega
    obtain ⟨a, hA, hr⟩ := h.at (fun _ => rfl) (List.getElem?_eq_getElem hlt)
    have ho := ofR_upto hup s
    rw [List.getElem?_eq_getElem hlt] at ho
    refine ⟨upto c.vers s - 1, a, _, by rw [hl]; omega, by omega, hA, hr, ⟨fun hd => ?_, fun hd => ?_⟩⟩
    · have e : ofR c.vers s = (ByteArray.empty, false) := by rw [ho]; simp [hd]
      exact ⟨[], retS fun ρ => by rw [e]; rfl⟩
    · have e : ofR c.vers s = (c.vers[upto c.vers s - 1].data, true) := by rw [ho]; simp [hd, hb]
      refine ⟨upto c.vers s - 1, a, _, by rw [hl]; omega, by omega, hA, hr, ?_⟩
      exact ⟨[], retS fun ρ => by rw [e]; rfl⟩
end Vc
end

section
open Go Go.Proofs Vc
namespace Vc

/-- What comes back, but for what is known of its Bools. -/
theorem retXU {P : Program} {Γ : Types} {N : Nat} {W : World} {m0 m : Mem} {ρ0 : Val} {B0 : Ents} {u : AV} {B : Ents} {Φ : AV → Ents → Mem → Prop} {Ψ : List PanicEntry → Ents → Mem → Prop} (u0 : AV) (ks : List Nat) (mn : Mem) (hu : unkb u = unkb u0) (hm : m = m0.join mn) (hd : Mem.Disj m0 mn) (h : Φ u0 (keepB ks B) mn) :
    RetNode (envX P Γ N W m0 ρ0 B0) u B m (RX (envX P [] 0 W m0 ρ0 B0) Φ Ψ) := by
  subst hm
  refine ⟨fun ρ W' hW hok => ⟨ρ, u0, _, mn, ?_, hd, ?_, (WS.cast (E := envX P Γ N W m0 ρ0 B0) (E' := envX P [] 0 W m0 ρ0 B0) rfl rfl rfl rfl hW).sub (fun _ _ => keepB_look), h⟩⟩
  · rw [← unkb_con (ρ := ρ) u, hu, unkb_con]
  · exact (unkb_ok u0).1 (hu ▸ (unkb_ok u).2 hok)
theorem retXSU {P : Program} {Γ : Types} {N : Nat} {W : World} {m : Mem} {ρ0 : Val} {B0 : Ents} {u : AV} {B : Ents} {u0 : AV} {B' : Ents} (ks : List Nat) (hu : unkb u = unkb u0) (hB : keepB ks B = B') :
    RetNode (envX P Γ N W m ρ0 B0) u B m (RX (envX P [] 0 W m ρ0 B0) (Res u0 B') noPanic) :=
  retXU u0 ks Mem.none hu (Mem.join_none m).symm (Mem.disj_none m) ⟨rfl, hB, rfl⟩

/-! ### Mine -/
def mineP (y : Tri) (c : Cell) : Bool := c.locked && decide (c.lock.who = y)
theorem f72 (m : Mem) (c : Cell) (x : Sl) (y : Tri) : FnX Try.prog 72 m [.agg (vmap (c.c x)), .one (.ptr 1 0)] [(1, .box (vmap y.c) 33)] (Res (boolLeaf (mineP y c)) [(1, .box (vmap y.c) 33)]) noPanic := by
  refine fnX (args := [.agg (vmap (c.c x)), .one (.ptr 1 0)]) Γok mix Try.func72 rfl (by kernel_rfl) Try.ntmps72 rfl (by simp) (okv_cons (okL_v rfl) (okv_cons trivial okv_nil)) ?_
  intro ρ W
  refine ⟨fun h1 => eq33 (a := c.lock.who) (b := y) rfl ?_, fun h1 => ?_⟩
  · exact ⟨[], retXSU [1] (by rw [mineP, h1]; rfl) rfl⟩
  · exact ⟨[], retXSU [1] (by rw [mineP, h1]; rfl) rfl⟩

theorem f78 (m : Mem) (x : Sl) (l : List Cell) (y : Tri) (h : CellRow m x l) : FnX Try.prog 78 m [asl x, .one (.fn 72 [.ptr 1 0])] [(1, .box (vmap y.c) 33)] (Res (ai (idxI (mineP y) l 0)) [(1, .box (vmap y.c) 33)]) noPanic := by
  refine fnX (args := [asl x, .one (.fn 72 [.ptr 1 0])]) Γok mix Try.func78 rfl (by kernel_rfl) Try.ntmps78 rfl (by simp) (okv_cons rfl (okv_cons (fun c hc => by simp at hc; subst hc; trivial) okv_nil)) ?_
  intro ρ W
  have hx := h.bounds; have hm := maxLen_le; have hn := h.n
  refine ⟨[], ⟨⟨Nat, fun i => i ≤ x.n ∧ idxI (mineP y) l 0 = idxI (mineP y) (l.drop i) i, fun i => x.n - i, fun i => [(8, ai i), (7, ai x.n), (1, .one (.fn 72 [.ptr 1 0])), (0, asl x)], fun _ => [(1, .box (vmap y.c) 33)], fun _ => m,
    ⟨0, ⟨by omega, rfl⟩, entails_ren [] ⟨rfl, rfl, rfl, rfl, trivial⟩ ⟨rfl, trivial⟩ rfl rfl⟩, fun i hi => ?_⟩⟩⟩
  obtain ⟨hin, hor⟩ := hi
  refine ⟨fun h1 => ?_, fun h1 => ?_⟩
  · have h1 : i < x.n := by simpa using h1
    have hlt : i < l.length := by omega
    obtain ⟨a, s, hA, hr, _⟩ := h.at (List.getElem?_eq_getElem hlt)
    have hd := idxI_drop (p := mineP y) (List.getElem?_eq_getElem hlt)
    refine ⟨i, a, _, rfl, h1, hA, hr, ?_⟩
    refine ⟨[], callXS [(1, 1)] 1000 (f72 m l[i] s y) rfl rfl ⟨rfl, trivial⟩ rfl rfl ?_⟩
    refine ⟨fun h2 => ?_, fun h2 => ?_⟩
    · exact ⟨[], retXS [1] (by rw [hor, hd, if_pos h2]) rfl⟩
    · refine ⟨((i + 1 : Nat) : Int), i64_in _ (by omega), ?_⟩
      exact ⟨[], i + 1, ⟨by omega, by rw [hor, hd, if_neg (by rw [h2]; simp)]⟩, by show x.n - (i + 1) < x.n - i; omega, entails_ren [] ⟨rfl, rfl, rfl, rfl, trivial⟩ ⟨rfl, trivial⟩ rfl rfl⟩
  · have h1 : ¬ i < x.n := by simpa using h1
    exact ⟨[], retXS [1] (by rw [hor, List.drop_eq_nil_of_le (by omega)]; rfl) rfl⟩
theorem idx_any {α : Type} (p : α → Bool) (l : List α) : decide (idxI p l 0 ≥ 0) = l.any p := by
  rcases idxI_spec p l 0 with ⟨h1, h2⟩ | ⟨j, o, h1, h2, h3, h4⟩
  · rw [h1, List.any_eq_false.2 (fun x hx => by simp [h2 x hx])]; rfl
  · rw [h1, List.any_eq_true.2 ⟨o, List.mem_of_getElem? h2, h3⟩]; simp
theorem f71 (m : Mem) (x : Sl) (l : List Cell) (y : Tri) (h : CellRow m x l) : FnX Try.prog 71 m [asl x, .one (.fn 72 [.ptr 1 0])] [(1, .box (vmap y.c) 33)] (Res (boolLeaf (mineR y l)) [(1, .box (vmap y.c) 33)]) noPanic := by
  refine fnX (args := [asl x, .one (.fn 72 [.ptr 1 0])]) Γok mix Try.func71 rfl (by kernel_rfl) Try.ntmps71 rfl (by simp) (okv_cons rfl (okv_cons (fun c hc => by simp at hc; subst hc; trivial) okv_nil)) ?_
  intro ρ W
  refine ⟨[], callXS [(1, 1)] 1000 (f78 m x l y h) rfl rfl ⟨rfl, trivial⟩ rfl rfl ?_⟩
  exact ⟨[], retXS [1] (congrArg boolLeaf (by
    have := idx_any (mineP y) l
    simp only [ge_iff_le] at this ⊢
    exact this)) rfl⟩
theorem f58 (m : Mem) (x : Sl) (l : List Cell) (y : Tri) (h : CellRow m x l) : FnS Try.prog 58 m [vsl x, av y.c] (.bool (mineR y l)) := by
  refine fnS (args := [asl x, .agg (vmap y.c)]) Γok mix Try.func58 rfl (by kernel_rfl) Try.ntmps58 rfl rfl (by simp) (okv_cons rfl (okv_cons (okL_v rfl) okv_nil)) ?_
  intro W
  refine ⟨[], callXS [(1, 3)] 1000 (f71 m x l y h) rfl rfl ⟨rfl, trivial⟩ rfl rfl ?_⟩
  exact ⟨[], retS fun ρ => rfl⟩

/-! ### Held -/
theorem find_key {l : List Cell} (hup : KeysUp l) (key : ByteArray) : l.find? (fun c => decide (c.key = key)) = if findL l key then l[lb l key]? else none := by
  have hsp := lb_spec hup key
  cases hg : l[lb l key]? with
  | none =>
    have e : findL l key = false := by unfold findL; rw [hg]
    simp only [e]
    refine find_none (fun x hx => ?_)
    obtain ⟨k, hk⟩ := List.getElem?_of_mem hx
    have hlt : k < lb l key := by
      have h1 := (List.getElem?_eq_some_iff.1 hk).1
      have h2 := List.getElem?_eq_none_iff.1 hg
      omega
    have := (hsp k x hk).2 hlt
    exact decide_eq_false (fun he => by rw [he, sLt_irr] at this; cases this)
  | some c =>
    by_cases hc : c.key = key
    · have e : findL l key = true := by unfold findL; rw [hg]; exact decide_eq_true hc
      rw [if_pos e]
      refine (find_some hg (decide_eq_true hc) (fun i z hi hz => ?_)).trans rfl
      have := (hsp i z hz).2 hi
      exact decide_eq_false (fun he => by rw [he, sLt_irr] at this; cases this)
    · have e : findL l key = false := by unfold findL; rw [hg]; exact decide_eq_false hc
      rw [if_neg (by rw [e]; simp)]
      refine find_none (fun x hx => ?_)
      obtain ⟨k, hk⟩ := List.getElem?_of_mem hx
      refine decide_eq_false (fun he => ?_)
      have h1 : ¬ k < lb l key := fun hh => by have := (hsp k x hk).2 hh; rw [he, sLt_irr] at this; cases this
      rcases Nat.lt_or_eq_of_le (Nat.le_of_not_lt h1) with h2 | h2
      · have h3 := hup _ _ _ _ h2 hg hk
        rw [he] at h3
        have := (hsp _ _ hg).1 h3
        omega
      · rw [h2, hk] at hg
        cases hg
        exact hc he
theorem f59 (m : Mem) (x : Sl) (l : List Cell) (key : ByteArray) (h : CellRow m x l) (hup : KeysUp l) : FnS Try.prog 59 m [vsl x, .string key] (vlkb (heldR key l)) := by
  refine fnS (args := [asl x, .one (.v (.string key))]) Γok mix Try.func59 rfl (by kernel_rfl) Try.ntmps59 rfl rfl (by simp) (okv_cons rfl (okv_cons rfl okv_nil)) ?_
  intro W
  have hx := h.bounds; have hm := maxLen_le; have hn := h.n
  have hf := find_key hup key
  refine ⟨[], callS (f73 m x l key h hup) rfl rfl ?_⟩
  refine ⟨fun hb => ?_, fun hb => ?_⟩
  · have hb : findL l key = false := by simpa using hb
    have e : heldR key l = (Lk.zero, false) := by rw [heldR, hf, hb]; rfl
    exact ⟨[], retS fun ρ => by rw [e]; rfl⟩
  · have hb : findL l key = true := by simpa using hb
    rw [hb] at hf
    have hlt : lb l key < l.length := by
      unfold findL at hb
      cases hg : l[lb l key]? with
      | none => rw [hg] at hb; cases hb
      | some c => exact (List.getElem?_eq_some_iff.1 hg).1
    obtain ⟨a, s, hA, hr, _⟩ := h.at (List.getElem?_eq_getElem hlt)
    rw [if_pos rfl, List.getElem?_eq_getElem hlt] at hf
    refine ⟨lb l key, a, _, rfl, by omega, hA, hr, ⟨fun hd => ?_, fun hd => ?_⟩⟩
    · have hd : l[lb l key].locked = false := by simpa using hd
      have e : heldR key l = (Lk.zero, false) := by rw [heldR, hf]; simp [hd]
      exact ⟨[], retS fun ρ => by rw [e]; rfl⟩
    · have hd : l[lb l key].locked = true := by simpa using hd
      have e : heldR key l = (l[lb l key].lock, true) := by rw [heldR, hf]; simp [hd]
      exact ⟨lb l key, a, _, rfl, by omega, hA, hr, ⟨[], retS fun ρ => by rw [e]; rfl⟩⟩

/-! ### Blocks -/
def blkQ (t : Stamp) (c : Cell) : Bool := c.locked && !t.less c.lock.at_
def blocksW (t : Stamp) : List Cell → Lk × Bool
  | [] => (Lk.zero, false)
  | c :: r => if blkQ t c then (c.lock, true) else blocksW t r
theorem blocksW_drop {t : Stamp} {l : List Cell} {i : Nat} {c : Cell} (h : l[i]? = some c) : blocksW t (l.drop i) = if blkQ t c then (c.lock, true) else blocksW t (l.drop (i + 1)) := by
  obtain ⟨hlt, rfl⟩ := List.getElem?_eq_some_iff.1 h
  rw [List.drop_eq_getElem_cons hlt]; rfl
theorem blocksW_filter (s : Span) (t : Stamp) (l : List Cell) : blocksW t (l.filter (inS s)) = blocksR s t l := by
  induction l with
  | nil => rfl
  | cons c r ih =>
    rw [List.filter_cons]
    cases h : inS s c with
    | true =>
      simp only [if_true, blocksW, blocksR, blkP, blkQ]
      have h : inSpan c.key s = true := h
      simp [h, ih]
    | false =>
      have h : inSpan c.key s = false := h
      simp only [blocksR, blkP, h]; simpa using ih
theorem f54 (m : Mem) (x : Sl) (l : List Cell) (s : Span) (t : Stamp) (h : CellRow m x l) (hup : KeysUp l) : FnS Try.prog 54 m [vsl x, av s.c, av t.c] (vlkb (blocksR s t l)) := by
  rw [← blocksW_filter]
  refine fnS (args := [asl x, .agg (vmap s.c), .agg (vmap t.c)]) Γok mix Try.func54 rfl (by kernel_rfl) Try.ntmps54 rfl rfl (by simp) (okv_cons rfl (okv_cons (okL_v rfl) (okv_cons (okL_v rfl) okv_nil))) ?_
  intro W
  have hm := maxLen_le
  have hw := within_row h hup s
  refine ⟨[], callS (f69 m x l s h hup) rfl rfl ?_⟩
  generalize withinS x l s = y at hw
  generalize l.filter (inS s) = l' at hw
  have hx := hw.bounds; have hn := hw.n
  refine ⟨[], ⟨⟨Nat, fun i => i ≤ y.n ∧ blocksW t l' = blocksW t (l'.drop i), fun i => y.n - i, fun i => [(14, ai i), (13, ai y.n), (12, asl y), (6, .one (.ptr 6 0)), (5, .one (.ptr 5 0))], fun _ => [(5, .box (vmap t.c) 27), (6, .box (vmap Lk.zero.c) 53)], fun _ => m,
    ⟨0, ⟨by omega, rfl⟩, entails_ren [] ⟨rfl, rfl, rfl, rfl, rfl, trivial⟩ ⟨rfl, rfl, trivial⟩ rfl rfl⟩, fun i hi => ?_⟩⟩⟩
  obtain ⟨hin, hor⟩ := hi
  refine ⟨fun h1 => ?_, fun h1 => ?_⟩
  · have h1 : i < y.n := by simpa using h1
    have hlt : i < l'.length := by omega
    obtain ⟨a, s', hA, hr, hv⟩ := hw.at (List.getElem?_eq_getElem hlt)
    have hd := blocksW_drop (t := t) (List.getElem?_eq_getElem hlt)
    refine ⟨i, a, _, rfl, h1, hA, hr, ⟨fun h2 => ⟨[], callS (f53 m t l'[i].lock.at_) rfl rfl ⟨fun h3 => ?_, fun h3 => ?_⟩⟩, fun h2 => ?_⟩⟩
    · exact ⟨[], retS fun ρ => by rw [hor, hd, if_pos (by simp only [blkQ, h2]; simpa using h3)]; rfl⟩
    · refine ⟨((i + 1 : Nat) : Int), i64_in _ (by omega), ?_⟩
      exact ⟨[], i + 1, ⟨by omega, by rw [hor, hd, if_neg (by simp only [blkQ, h2]; simpa using h3)]⟩, by show y.n - (i + 1) < y.n - i; omega, entails_ren [] ⟨rfl, rfl, rfl, rfl, rfl, trivial⟩ ⟨rfl, rfl, trivial⟩ rfl rfl⟩
    · refine ⟨((i + 1 : Nat) : Int), i64_in _ (by omega), ?_⟩
      exact ⟨[], i + 1, ⟨by omega, by rw [hor, hd, if_neg (by simp [blkQ, h2])]⟩, by show y.n - (i + 1) < y.n - i; omega, entails_ren [] ⟨rfl, rfl, rfl, rfl, rfl, trivial⟩ ⟨rfl, rfl, trivial⟩ rfl rfl⟩
  · have h1 : ¬ i < y.n := by simpa using h1
    exact ⟨[], retS fun ρ => by rw [hor, List.drop_eq_nil_of_le (by omega)]; rfl⟩
end Vc
end

section
open Go Go.Proofs Vc
namespace Vc

theorem entails_renM {E : Env} {F F' : Fr} {B B' : Ents} {m m' : Mem} (hm : m = m') (l : List (Nat × Nat)) (hF : subF (renS l) F' F) (hB : subB (renS l) B' B) (hi : renSOk l B' = true) (hp : pinsFix l E.pins = true) : Entails E F B m F' B' m' := by
  subst hm; exact entails_ren l hF hB hi hp
/-- The state by other names. -/
theorem cutR {E : Env} {K : Cont} {F F' : Fr} {B B' : Ents} {m : Mem} (l : List (Nat × Nat)) (hF : subF (renS l) F' F) (hB : subB (renS l) B' B) (hi : renSOk l B' = true) (hp : pinsFix l E.pins = true) (hK : K F' B' m) : CutNode E K F B m :=
  ⟨fun ρ a W hW hF0 => by
    obtain ⟨ρ', h1, h2⟩ := entails_ren (E := E) l hF hB hi hp ρ a W hW hF0
    exact ⟨ρ', F', B', m, hK, h1, h2⟩⟩
/-- What is new of memory is mn. -/
theorem retXN {P : Program} {Γ : Types} {N : Nat} {W : World} {m0 : Mem} {ρ0 : Val} {B0 : Ents} {u : AV} {B : Ents} {Φ : AV → Ents → Mem → Prop} {Ψ : List PanicEntry → Ents → Mem → Prop} (ks : List Nat) {mn : Mem} (hd : Mem.Disj m0 mn) (h : Φ u (keepB ks B) mn) :
    RetNode (envX P Γ N W m0 ρ0 B0) u B (m0.join mn) (RX (envX P [] 0 W m0 ρ0 B0) Φ Ψ) := retX ks mn rfl hd h

/-! ### slices.Clone -/
theorem Row.nil {m : Mem} {sz : Nat} {x : Sl} {cells : List Value} (h : Row m sz x cells) (hA : x.A.isNone = true) : x.n = 0 := by
  rcases Nat.eq_zero_or_pos x.n with h0 | h0
  · exact h0
  · obtain ⟨a, ha, _⟩ := h.reads h0
    rw [ha] at hA; cases hA

def vrow (l : List Ver) : Ent := .own l.length (l.flatMap Ver.c) 84 4
def orow (l : List Outc) : Ent := .own l.length (l.flatMap Outc.c) 58 7
theorem f39 (m : Mem) (x : Sl) (l : List Ver) (h : VerRow m x l) (hs : l.length ≤ 1048576) : FnX Try.prog 39 m [asl x] [] (Res (.one (.own 5)) [(5, vrow l)]) noPanic := by
  refine fnX (args := [asl x]) Γok mix Try.func39 rfl (by kernel_rfl) Try.ntmps39 rfl (by simp) (okv_cons rfl okv_nil) ?_
  intro ρ W
  have hn := h.2
  have hmax : 1048576 ≤ maxLen := by decide
  refine ⟨fun hA => ?_, fun hA => ?_⟩
  · have h0 := h.1.nil hA
    have : l = [] := List.length_eq_zero_iff.1 (by omega)
    subst this
    exact ⟨[.nilOwn 2 5 84 4], retXS [5] rfl rfl⟩
  · refine ⟨[], [], l.flatMap Ver.c, ?_, ?_, ?_, ?_, fun old => ?_⟩
    · rw [flat_length (sz := 4) (fun _ => rfl), hn]
    · exact h.1.reads
    · show 0 + x.n ≤ maxLen; omega
    · show (0 + x.n) * 40 ≤ 140737488355328; omega
    · exact ⟨[], retXS [5] rfl (by
        show [(5, Ent.own (0 + x.n) ([] ++ l.flatMap Ver.c) 84 4)] = _
        rw [Nat.zero_add, hn]; rfl)⟩
theorem f40 (m : Mem) (x : Sl) (l : List Outc) (h : OutRow m x l) (hs : l.length ≤ 1048576) : FnX Try.prog 40 m [asl x] [] (Res (.one (.own 5)) [(5, orow l)]) noPanic := by
  refine fnX (args := [asl x]) Γok mix Try.func40 rfl (by kernel_rfl) Try.ntmps40 rfl (by simp) (okv_cons rfl okv_nil) ?_
  intro ρ W
  have hn := h.2
  have hmax : 1048576 ≤ maxLen := by decide
  refine ⟨fun hA => ?_, fun hA => ?_⟩
  · have h0 := h.1.nil hA
    have : l = [] := List.length_eq_zero_iff.1 (by omega)
    subst this
    exact ⟨[.nilOwn 2 5 58 7], retXS [5] rfl rfl⟩
  · refine ⟨[], [], l.flatMap Outc.c, ?_, ?_, ?_, ?_, fun old => ?_⟩
    · rw [flat_length (sz := 7) (fun _ => rfl), hn]
    · exact h.1.reads
    · show 0 + x.n ≤ maxLen; omega
    · show (0 + x.n) * 56 ≤ 140737488355328; omega
    · exact ⟨[], retXS [5] rfl (by
        show [(5, Ent.own (0 + x.n) ([] ++ l.flatMap Outc.c) 58 7)] = _
        rw [Nat.zero_add, hn]; rfl)⟩

/-- A cell's cells, its versions at whatever stands for a slice. -/
def Cell.lv (c : Cell) (v : Leaf) : List Leaf := [.v (.string c.key), v, .v (.bool c.locked), .v (.int .i64 c.lock.who.node), .v (.int .i64 c.lock.who.life), .v (.int .i64 c.lock.who.seq), .v (.int .i64 c.lock.who.att), .v (.int .i64 c.lock.home), .v (.int .i64 c.lock.at_.wall), .v (.int .i64 c.lock.at_.tie), .v (.bool c.lock.drop), .v (.string c.lock.data)]
theorem f61 (m : Mem) (c : Cell) (x : Sl) (h : VerRow m x c.vers) (hs : c.vers.length ≤ 1048576) : FnX Try.prog 61 m [.agg (vmap (c.c x))] [] (Res (.agg (c.lv (.own 1005))) [(1005, vrow c.vers)]) noPanic := by
  refine fnX (args := [.agg (vmap (c.c x))]) Γok mix Try.func61 rfl (by kernel_rfl) Try.ntmps61 rfl (by simp) (okv_cons (okL_v rfl) okv_nil) ?_
  intro ρ W
  refine ⟨[], callXS [] 1000 (f39 m x c.vers h hs) rfl rfl trivial rfl rfl ?_⟩
  exact ⟨[], retXS [1005] rfl rfl⟩
theorem f38 (m : Mem) (c : Cell) (x : Sl) (h : VerRow m x c.vers) (hs : c.vers.length ≤ 1048576) : FnX Try.prog 38 m [.agg (vmap (c.c x))] [] (Res (.agg (c.lv (.own 1005))) [(1005, vrow c.vers)]) noPanic := by
  refine fnX (args := [.agg (vmap (c.c x))]) Γok mix Try.func38 rfl (by kernel_rfl) Try.ntmps38 rfl (by simp) (okv_cons (okL_v rfl) okv_nil) ?_
  intro ρ W
  refine ⟨[], callXS [] 1000 (f39 m x c.vers h hs) rfl rfl trivial rfl rfl ?_⟩
  exact ⟨[], retXS [1005] rfl rfl⟩
end Vc
end

section
open Go Go.Proofs Vc
namespace Vc

/-! ### lists of cells of one's own -/
/-- Not too many cells, not too many versions. -/
def Small (l : List Cell) : Prop := l.length ≤ 1048576 ∧ ∀ c ∈ l, c.vers.length ≤ 1048576
abbrev Gs := List (Cell × Sl)
def Gs.cells (g : Gs) : List Value := g.flatMap fun p => p.1.c p.2
/-- The cells l, their versions in the memory mn. -/
def GOk (g : Gs) (l : List Cell) (mn : Mem) : Prop := g.map (·.1) = l ∧ ∀ p ∈ g, VerRow mn p.2 p.1.vers
theorem GOk.len {g : Gs} {l : List Cell} {mn : Mem} (h : GOk g l mn) : g.length = l.length := by rw [← h.1, List.length_map]
theorem GOk.mono {g : Gs} {l : List Cell} {mn mn' : Mem} (h : GOk g l mn) (hm : mn.le mn') : GOk g l mn' := ⟨h.1, fun p hp => (h.2 p hp).mono hm⟩
theorem GOk.snoc {g : Gs} {l : List Cell} {mn : Mem} {c : Cell} {s : Sl} (h : GOk g l mn) (hc : VerRow mn s c.vers) : GOk (g ++ [(c, s)]) (l ++ [c]) mn :=
  ⟨by rw [List.map_append, h.1]; rfl, fun p hp => by
    rcases List.mem_append.1 hp with hp | hp
    · exact h.2 p hp
    · have : p = (c, s) := by simpa using hp
      subst this; exact hc⟩
theorem Gs.cells_snoc (g : Gs) (c : Cell) (s : Sl) : Gs.cells (g ++ [(c, s)]) = Gs.cells g ++ c.c s := by simp [Gs.cells]
theorem Gs.cells_len (g : Gs) : g.cells.length = g.length * 12 := flat_length (f := fun p : Cell × Sl => p.1.c p.2) (fun _ => rfl) g
def crow (g : Gs) : Ent := .own g.length g.cells 55 12
def NewCells (k : Nat) (l : List Cell) : AV → Ents → Mem → Prop := fun u B mn => ∃ g, GOk g l mn ∧ u = .one (.own k) ∧ B = [(k, crow g)]

theorem take_snoc {α : Type} {l : List α} {i : Nat} (h : i < l.length) : l.take i ++ [l[i]] = l.take (i + 1) := List.take_append_getElem h
theorem row_of {α : Type} {f : α → List Value} {sz : Nat} {m : Mem} {l : List α} {A : Option Addr} {c n : Nat} (hn : n = l.length) (h1 : (l.flatMap f).length = n * sz) (h2 : n ≤ c) (h3 : c ≤ maxLen) (h4 : 0 < n → ∃ a, A = some a ∧ MemReads m a (l.flatMap f)) : Flat f sz m ⟨A, n, c⟩ l := ⟨⟨h1, h2, h3, h4⟩, hn⟩

theorem i64_succ {n : Nat} (h : n < 9223372036854775807) : IntKind.i64.wrap ((n : Int) + 1) = ((n + 1 : Nat) : Int) := i64_in _ (by omega)
structure LoopSt where
  g : Gs
  mn : Mem

theorem f74 (m : Mem) (x : Sl) (l : List Cell) (h : CellRow m x l) (hs : Small l) : FnX Try.prog 74 m [asl x] [] (NewCells 3 l) noPanic := by
  refine fnX (args := [asl x]) Γok mix Try.func74 rfl (by kernel_rfl) Try.ntmps74 rfl (by simp) (okv_cons rfl okv_nil) ?_
  intro ρ W
  have hx := h.bounds; have hm := maxLen_le; have hn := h.n; have hs1 := hs.1
  have hmax : 2097152 ≤ maxLen := by decide
  refine ⟨[.nilOwn 3 3 55 12], ⟨⟨LoopSt, fun s => s.g.length ≤ x.n ∧ Mem.Disj m s.mn ∧ GOk s.g (l.take s.g.length) s.mn, fun s => x.n - s.g.length,
    fun s => [(8, ai s.g.length), (7, ai x.n), (6, asl x), (3, .one (.own 3))], fun s => [(3, crow s.g)], fun s => m.join s.mn,
    ⟨⟨[], Mem.none⟩, ⟨Nat.zero_le _, Mem.disj_none m, rfl, fun p hp => by cases hp⟩, entails_renM (Mem.join_none m).symm [] ⟨rfl, rfl, rfl, rfl, trivial⟩ ⟨rfl, trivial⟩ rfl rfl⟩, fun s hi => ?_⟩⟩⟩
  obtain ⟨g, mn⟩ := s
  obtain ⟨hin, hdis, hg⟩ := hi
  simp only at hin hdis hg
  refine ⟨fun h1 => ?_, fun h1 => ?_⟩
  · have h1 : g.length < x.n := by simpa using h1
    have hlt : g.length < l.length := by omega
    obtain ⟨a, s, hA, hr, hv⟩ := h.at (List.getElem?_eq_getElem hlt)
    have hle : m.le (m.join mn) := Mem.le_join m mn
    refine ⟨g.length, a, _, rfl, h1, hA, hr.mono' hle, ?_⟩
    refine ⟨[], callXS [] 1000 (f61 (m.join mn) l[g.length] s (hv.mono hle) (hs.2 _ (List.getElem_mem hlt))) rfl rfl trivial rfl rfl ?_⟩
    refine ⟨[.freeze 2005], fun A c m1 hd h2 h3 h4 h5 => ⟨[], ?_, ?_, fun old => ?_⟩⟩
    · show g.length + 1 ≤ maxLen; omega
    · show (g.length + 1) * 128 ≤ 140737488355328; omega
    · refine ⟨_, i64_succ (n := g.length) (by omega), ?_⟩
      have hdis2 := hdis.join hd
      have hd1 : Mem.Disj mn m1 := fun b o hb => hd b o (Mem.join_right hdis b o hb)
      have hvn : VerRow (mn.join m1) ⟨A, _, c⟩ l[g.length].vers := row_of rfl h2 h3 h4 (fun hp => by
        obtain ⟨a', h6, h7⟩ := h5 hp
        exact ⟨a', h6, h7.mono' (Mem.join_right hd1)⟩)
      have hg2 := (hg.mono (Mem.le_join mn m1)).snoc hvn
      rw [take_snoc hlt] at hg2
      refine ⟨[], ⟨g ++ [(l[g.length], ⟨A, l[g.length].vers.length, c⟩)], mn.join m1⟩, ⟨by show (g ++ _).length ≤ x.n; simp; omega, hdis2, ?_⟩, ?_, ?_⟩
      · show GOk _ (l.take (g ++ _).length) _
        simpa using hg2
      · show x.n - (g ++ _).length < x.n - g.length; simp; omega
      · refine entails_renM (Mem.join_assoc m mn m1) [] ⟨?_, rfl, rfl, rfl, trivial⟩ ⟨?_, trivial⟩ rfl rfl
        · exact congrArg (fun n : Nat => some (AV.one (.v (.int .i64 (n : Int))))) (by simp : g.length + 1 = (g ++ [(l[g.length], (⟨A, l[g.length].vers.length, c⟩ : Sl))]).length)
        · exact congrArg some (by rw [crow, Gs.cells_snoc, List.length_append]; rfl : Ent.own (g.length + 1) (g.cells ++ l[g.length].c ⟨A, l[g.length].vers.length, c⟩) 55 12 = crow (g ++ [(l[g.length], (⟨A, l[g.length].vers.length, c⟩ : Sl))]))
  · have h1 : g.length = l.length := by have : ¬ g.length < x.n := by simpa using h1
                                        omega
    rw [h1, List.take_length] at hg
    exact ⟨[], retXN [3] hdis ⟨g, hg, rfl, rfl⟩⟩
end Vc
end

section
open Go Go.Proofs Vc
namespace Vc

theorem snoc_len {g : Gs} {p : Cell × Sl} : g.length + 1 = (g ++ [p]).length := by simp
theorem crow_snoc (g : Gs) (c : Cell) (s : Sl) : Ent.own (g.length + 1) (g.cells ++ c.c s) 55 12 = crow (g ++ [(c, s)]) := by rw [crow, Gs.cells_snoc, List.length_append]; rfl
theorem ai_snoc (g : Gs) (p : Cell × Sl) : some (ai ((g.length + 1 : Nat) : Int)) = some (ai ((g ++ [p]).length : Int)) := by rw [snoc_len (p := p)]

theorem f37 (m : Mem) (x : Sl) (l : List Cell) (h : CellRow m x l) (hs : Small l) : FnX Try.prog 37 m [asl x, .one (.fn 38 [])] [] (NewCells 5 l) noPanic := by
  refine fnX (args := [asl x, .one (.fn 38 [])]) Γok mix Try.func37 rfl (by kernel_rfl) Try.ntmps37 rfl (by simp) (okv_cons rfl (okv_cons (fun c hc => by cases hc) okv_nil)) ?_
  intro ρ W
  have hx := h.bounds; have hm := maxLen_le; have hn := h.n; have hs1 := hs.1
  have hmax : 2097152 ≤ maxLen := by decide
  refine ⟨[.nilOwn 5 5 55 12], ⟨⟨LoopSt, fun s => s.g.length ≤ x.n ∧ Mem.Disj m s.mn ∧ GOk s.g (l.take s.g.length) s.mn, fun s => x.n - s.g.length,
    fun s => [(10, ai s.g.length), (9, ai x.n), (8, asl x), (5, .one (.own 5)), (1, .one (.fn 38 []))], fun s => [(5, crow s.g)], fun s => m.join s.mn,
    ⟨⟨[], Mem.none⟩, ⟨Nat.zero_le _, Mem.disj_none m, rfl, fun p hp => by cases hp⟩, entails_renM (Mem.join_none m).symm [] ⟨rfl, rfl, rfl, rfl, rfl, trivial⟩ ⟨rfl, trivial⟩ rfl rfl⟩, fun s hi => ?_⟩⟩⟩
  obtain ⟨g, mn⟩ := s
  obtain ⟨hin, hdis, hg⟩ := hi
  simp only at hin hdis hg
  refine ⟨fun h1 => ?_, fun h1 => ?_⟩
  · have h1 : g.length < x.n := by simpa using h1
    have hlt : g.length < l.length := by omega
    obtain ⟨a, s, hA, hr, hv⟩ := h.at (List.getElem?_eq_getElem hlt)
    have hle : m.le (m.join mn) := Mem.le_join m mn
    refine ⟨g.length, a, _, rfl, h1, hA, hr.mono' hle, ?_⟩
    refine ⟨[], callXS [] 1000 (f38 (m.join mn) l[g.length] s (hv.mono hle) (hs.2 _ (List.getElem_mem hlt))) rfl rfl trivial rfl rfl ?_⟩
    refine ⟨[.freeze 2005], fun A c m1 hd h2 h3 h4 h5 => ⟨[], ?_, ?_, fun old => ?_⟩⟩
    · show g.length + 1 ≤ maxLen; omega
    · show (g.length + 1) * 128 ≤ 140737488355328; omega
    · refine ⟨_, i64_succ (n := g.length) (by omega), ?_⟩
      have hdis2 := hdis.join hd
      have hd1 : Mem.Disj mn m1 := fun b o hb => hd b o (Mem.join_right hdis b o hb)
      have hvn : VerRow (mn.join m1) ⟨A, _, c⟩ l[g.length].vers := row_of rfl h2 h3 h4 (fun hp => by
        obtain ⟨a', h6, h7⟩ := h5 hp
        exact ⟨a', h6, h7.mono' (Mem.join_right hd1)⟩)
      have hg2 := (hg.mono (Mem.le_join mn m1)).snoc hvn
      rw [take_snoc hlt] at hg2
      refine ⟨[], ⟨g ++ [(l[g.length], ⟨A, l[g.length].vers.length, c⟩)], mn.join m1⟩, ⟨by show (g ++ _).length ≤ x.n; simp; omega, hdis2, ?_⟩, ?_, ?_⟩
      · show GOk _ (l.take (g ++ _).length) _
        simpa using hg2
      · show x.n - (g ++ _).length < x.n - g.length; simp; omega
      · exact entails_renM (Mem.join_assoc m mn m1) [] ⟨ai_snoc g _, rfl, rfl, rfl, rfl, trivial⟩ ⟨congrArg some (crow_snoc g l[g.length] ⟨A, l[g.length].vers.length, c⟩), trivial⟩ rfl rfl
  · have h1 : g.length = l.length := by have : ¬ g.length < x.n := by simpa using h1
                                        omega
    rw [h1, List.take_length] at hg
    exact ⟨[], retXN [5] hdis ⟨g, hg, rfl, rfl⟩⟩

theorem f19 (m : Mem) (x : Sl) (l : List Cell) (h : CellRow m x l) (hs : Small l) : FnX Try.prog 19 m [asl x] [] (NewCells 3 l) noPanic := by
  refine fnX (args := [asl x]) Γok mix Try.func19 rfl (by kernel_rfl) Try.ntmps19 rfl (by simp) (okv_cons rfl okv_nil) ?_
  intro ρ W
  have hx := h.bounds; have hm := maxLen_le; have hn := h.n; have hs1 := hs.1
  have hmax : 2097152 ≤ maxLen := by decide
  refine ⟨[.nilOwn 3 3 55 12], ⟨⟨LoopSt, fun s => s.g.length ≤ x.n ∧ Mem.Disj m s.mn ∧ GOk s.g (l.take s.g.length) s.mn, fun s => x.n - s.g.length,
    fun s => [(4, ai s.g.length), (0, asl x), (3, .one (.own 3))], fun s => [(3, crow s.g)], fun s => m.join s.mn,
    ⟨⟨[], Mem.none⟩, ⟨Nat.zero_le _, Mem.disj_none m, rfl, fun p hp => by cases hp⟩, entails_renM (Mem.join_none m).symm [] ⟨rfl, rfl, rfl, trivial⟩ ⟨rfl, trivial⟩ rfl rfl⟩, fun s hi => ?_⟩⟩⟩
  obtain ⟨g, mn⟩ := s
  obtain ⟨hin, hdis, hg⟩ := hi
  simp only at hin hdis hg
  refine ⟨fun h1 => ?_, fun h1 => ?_⟩
  · have h1 : g.length < x.n := by simpa using h1
    have hlt : g.length < l.length := by omega
    obtain ⟨a, s, hA, hr, hv⟩ := h.at (List.getElem?_eq_getElem hlt)
    have hle : m.le (m.join mn) := Mem.le_join m mn
    have hvs := hs.2 _ (List.getElem_mem hlt)
    have hvn0 := hv.2
    refine ⟨g.length, a, _, rfl, h1, hA, hr.mono' hle, ?_⟩
    refine ⟨[], ⟨[], l[g.length].vers.flatMap Ver.c, ?_, ?_, ?_, ?_, fun old0 => ?_⟩⟩
    · rw [flat_length (sz := 4) (fun _ => rfl), hvn0]
    · exact fun hp => (hv.mono hle).1.reads hp
    · show 0 + s.n ≤ maxLen; omega
    · show (0 + s.n) * 40 ≤ 140737488355328; omega
    refine ⟨[.freeze 16], fun A c m1 hd h2 h3 h4 h5 => ⟨[], ?_, ?_, fun old => ?_⟩⟩
    · show g.length + 1 ≤ maxLen; omega
    · show (g.length + 1) * 128 ≤ 140737488355328; omega
    · refine ⟨_, i64_succ (n := g.length) (by omega), ?_⟩
      have hdis2 := hdis.join hd
      have hd1 : Mem.Disj mn m1 := fun b o hb => hd b o (Mem.join_right hdis b o hb)
      have hvn : VerRow (mn.join m1) ⟨A, 0 + s.n, c⟩ l[g.length].vers := row_of (by omega) h2 h3 h4 (fun hp => by
        obtain ⟨a', h6, h7⟩ := h5 hp
        exact ⟨a', h6, h7.mono' (Mem.join_right hd1)⟩)
      have hg2 := (hg.mono (Mem.le_join mn m1)).snoc hvn
      rw [take_snoc hlt] at hg2
      refine ⟨[], ⟨g ++ [(l[g.length], ⟨A, 0 + s.n, c⟩)], mn.join m1⟩, ⟨by show (g ++ _).length ≤ x.n; simp; omega, hdis2, ?_⟩, ?_, ?_⟩
      · show GOk _ (l.take (g ++ _).length) _
        simpa using hg2
      · show x.n - (g ++ _).length < x.n - g.length; simp; omega
      · exact entails_renM (Mem.join_assoc m mn m1) [] ⟨ai_snoc g _, rfl, rfl, trivial⟩ ⟨congrArg some (crow_snoc g l[g.length] ⟨A, 0 + s.n, c⟩), trivial⟩ rfl rfl
  · have h1 : g.length = l.length := by have : ¬ g.length < x.n := by simpa using h1
                                        omega
    rw [h1, List.take_length] at hg
    exact ⟨[], retXN [3] hdis ⟨g, hg, rfl, rfl⟩⟩
end Vc
end

section
open Go Go.Proofs Vc
namespace Vc

theorem keptXS {E : Env} {f : FuncId} {args : List AV} {ws : List Nat} {d : Option Nat} {F : Fr} {B : Ents} {m : Mem} {K : Cont} {Q : SPost} (l : List (Nat × Nat)) (base : Nat) {B1 : Ents} {argsC : List AV} {u : AV} {B' : Ents}
    (hf : FnX E.P f m argsC B1 (Res u B') noPanic) (ha : renAVs (renOf l base) argsC = args) (hc : callOk l base [] ws F B B1 E.pins = true) (hB : sameB (renOf l base) B1 B) (hr : noRdAV u = true) (hr' : noRdB B' = true)
    (hK : putK E d (renAV (renOf l base) u) F (renB (renOf l base) B' ++ restB l B) m K) : KeptNode E f args ws d F B m K Q :=
  callXK l base [] hc hB ⟨argsC, ha, hf⟩ (fun u0 B0 mn _ h => by obtain ⟨rfl, rfl, rfl⟩ := h; rw [Mem.join_none]; exact ⟨hr, hr', hK⟩) (fun _ _ _ _ h => h.elim)
/-- A call that hands back cells of one's own. -/
theorem callNC {E : Env} {f : FuncId} {args : List AV} {d : Option Nat} {F : Fr} {B : Ents} {m : Mem} {K : Cont} {Q : SPost} (base : Nat) {k : Nat} {l : List Cell}
    (hf : FnX E.P f m args [] (NewCells k l) noPanic) (ha : renAVs (renOf [] base) args = args) (hc : callOk [] base [] [] F B [] E.pins = true)
    (hK : ∀ g mn, Mem.Disj m mn → GOk g l mn → putK E d (.one (.own (base + k))) F ((base + k, crow g) :: restB [] B) (m.join mn) K) : CallNode E f args d F B m K Q :=
  KeptNode.call (callXK [] base [] hc trivial ⟨args, ha, hf⟩ (fun u0 B0 mn hd h => by
    obtain ⟨g, hg, rfl, rfl⟩ := h
    exact ⟨rfl, rfl, hK g mn hd hg⟩) (fun _ _ _ _ h => h.elim))

def Part.lv (p : Part) (c r d : Leaf) : List Leaf := [.v (.int .i64 p.epoch), .v (.int .i64 p.holder), .v (.int .i64 p.floor.wall), .v (.int .i64 p.floor.tie), .v (.int .i64 p.closed), .v (.int .i64 p.low), c, r, d]
def SmallP (p : Part) : Prop := Small p.cells ∧ p.records.length ≤ 1048576 ∧ p.done.length ≤ 1048576
def NewPart (c r d : Nat) (p : Part) : AV → Ents → Mem → Prop := fun u B mn => ∃ g, GOk g p.cells mn ∧ u = .agg (p.lv (.own c) (.own r) (.own d)) ∧ B = [(d, orow p.done), (r, orow p.records), (c, crow g)]

theorem f20 (m : Mem) (p : Part) (xc xr xd : Sl) (h : PartRow m p xc xr xd) (hs : SmallP p) : FnX Try.prog 20 m [.agg (vmap (p.c xc xr xd))] [] (NewPart 1005 2005 3005 p) noPanic := by
  refine fnX (args := [.agg (vmap (p.c xc xr xd))]) Γok mix Try.func20 rfl (by kernel_rfl) Try.ntmps20 rfl (by simp) (okv_cons (okL_v rfl) okv_nil) ?_
  intro ρ W
  refine ⟨[], callNC 1000 (f37 m xc p.cells h.cells hs.1) rfl rfl (fun g mn hd hg => ?_)⟩
  have hle : m.le (m.join mn) := Mem.le_join m mn
  refine draw Γok [(1, 1), (4, 1)] [2, 5, 7, 9] (.take 0 (.take 1 (.take 3 (.take 4 (.one 2 [1] (.take 6 (.one 5 [] (.one 7 [] (.take 8 (.one 9 [] .done)))))))))) (by kernel_rfl) ?_
  refine keptXS [] 2000 (f40 (m.join mn) xr p.records (h.records.mono hle) hs.2.1) rfl rfl trivial rfl rfl ?_
  refine keptXS [] 3000 (f40 (m.join mn) xd p.done (h.done.mono hle) hs.2.2) rfl rfl trivial rfl rfl ?_
  exact ⟨[], retXN [1005, 2005, 3005] hd ⟨g, hg, rfl, rfl⟩⟩

theorem f8 (m : Mem) (p : Part) (xc xr xd : Sl) (h : PartRow m p xc xr xd) (hs : SmallP p) : FnX Try.prog 8 m [.agg (vmap (p.c xc xr xd))] [] (NewPart 1003 7 11 p) noPanic := by
  refine fnX (args := [.agg (vmap (p.c xc xr xd))]) Γok mix Try.func8 rfl (by kernel_rfl) Try.ntmps8 rfl (by simp) (okv_cons (okL_v rfl) okv_nil) ?_
  intro ρ W
  have hr := h.records.2; have hdn := h.done.2; have hs1 := hs.2.1; have hs2 := hs.2.2
  have hmax : 2097152 ≤ maxLen := by decide
  refine ⟨[], callNC 1000 (f19 m xc p.cells h.cells hs.1) rfl rfl (fun g mn hd hg => ?_)⟩
  have hle : m.le (m.join mn) := Mem.le_join m mn
  have h1 := h.mono hle
  refine draw_cut [(1, .one (.ptr 1 0)), (2, .one (.ptr 2 0))] [(1, .box (p.lv (.own 1003) (.own 7) (.own 11)) 31), (2, .box (vmap ([.int .i64 0, .int .i64 0, .int .i64 0, .int .i64 0, .int .i64 0, .int .i64 0, .slice none 0 0, .slice none 0 0, .slice none 0 0])) 31), (11, orow p.done), (7, orow p.records), (1003, crow g)] (m.join mn) ?_ ?_
  · refine draw Γok [(2, 1), (6, 1)] [0, 3, 4, 7, 9, 11] (.take 1 (.take 2 (.take 5 (.take 6 (.two 0 [1] (.two 3 [1] (.take 8 (.one 4 [1] (.one 7 [] (.one 9 [] (.take 10 (.one 11 [] .done)))))) 4 [1] (.one 3 [1] (.take 8 (.one 7 [] (.one 9 [] (.take 10 (.one 11 [] .done))))))) 4 [1] (.one 0 [1] (.one 3 [1] (.take 8 (.one 7 [] (.one 9 [] (.take 10 (.one 11 [] .done)))))))))))) (by kernel_rfl) ?_
    have l1 : (p.records.flatMap Outc.c).length = xr.n * 7 := by rw [flat_length (sz := 7) (fun _ => rfl), hr]
    have l2 : (p.done.flatMap Outc.c).length = xd.n * 7 := by rw [flat_length (sz := 7) (fun _ => rfl), hdn]
    have r1 := h1.records.1.reads
    have r2 := h1.done.1.reads
    have b1 : 0 + xr.n ≤ maxLen := by omega
    have b2 : (0 + xr.n) * 56 ≤ 140737488355328 := by omega
    have b3 : 0 + xd.n ≤ maxLen := by omega
    have b4 : (0 + xd.n) * 56 ≤ 140737488355328 := by omega
    have e1 : some (Ent.own (0 + xr.n) ([] ++ p.records.flatMap Outc.c) 58 7) = some (orow p.records) := by rw [Nat.zero_add, hr]; rfl
    have e2 : some (Ent.own (0 + xd.n) ([] ++ p.done.flatMap Outc.c) 58 7) = some (orow p.done) := by rw [Nat.zero_add, hdn]; rfl
    refine ⟨⟨[], ⟨⟨_, l1, r1, b1, b2, fun o1 => ⟨[], ⟨_, l2, r2, b3, b4, fun o2 => ?_⟩⟩⟩, ⟨[], ⟨_, l1, r1, b1, b2, fun o1 => ⟨_, l2, r2, b3, b4, fun o2 => ?_⟩⟩⟩⟩⟩, ⟨[], ⟨[], ⟨_, l1, r1, b1, b2, fun o1 => ⟨_, l2, r2, b3, b4, fun o2 => ?_⟩⟩⟩⟩⟩ <;>
      exact entails_ren [] ⟨rfl, rfl, trivial⟩ ⟨rfl, rfl, e2, e1, rfl, trivial⟩ rfl rfl
  · exact ⟨[], retXN [1003, 7, 11] hd ⟨g, hg, rfl, rfl⟩⟩
end Vc
end

section
open Go Go.Proofs Vc
namespace Vc

/-! ### Scan -/
def tellsP (t : Stamp) (c : Cell) : Option Pair := if (ofR c.vers t).2 = true then some ⟨c.key, (ofR c.vers t).1⟩ else none
def pairsR (s : Span) (t : Stamp) (l : List Cell) : List Pair := (l.filter (inS s)).filterMap (tellsP t)
def scanR (s : Span) (t : Stamp) (most : Int) (l : List Cell) : List Pair × Int := if ((pairsR s t l).length : Int) > max most 0 then ([], 3) else (pairsR s t l, 0)
def prow (l : List Pair) : Ent := .own l.length (l.flatMap Pair.c) 50 2
def Up (l : List Cell) : Prop := KeysUp l ∧ ∀ c ∈ l, VersUp c.vers
def scanU (k : Nat) (r : List Pair × Int) : AV → Ents → Mem → Prop := Res (.tup [(false, [.own k]), (false, [.v (.int .i64 r.2)])]) [(k, prow r.1)]

structure ScSt where
  i : Nat
  acc : List Pair

theorem prow_snoc (g : List Pair) (p : Pair) : Ent.own (g.length + 1) (g.flatMap Pair.c ++ p.c) 50 2 = prow (g ++ [p]) := by simp [prow]

theorem f56 (m : Mem) (x : Sl) (l : List Cell) (s : Span) (t : Stamp) (most : Int) (h : CellRow m x l) (hup : Up l) (hs : Small l) : FnX Try.prog 56 m [asl x, .agg (vmap s.c), .agg (vmap t.c), ai most] [] (scanU 10 (scanR s t most l)) noPanic := by
  refine fnX (args := [asl x, .agg (vmap s.c), .agg (vmap t.c), ai most]) Γok mix Try.func56 rfl (by kernel_rfl) Try.ntmps56 rfl (by simp) (okv_cons rfl (okv_cons (okL_v rfl) (okv_cons (okL_v rfl) (okv_cons rfl okv_nil)))) ?_
  intro ρ W
  have hm := maxLen_le; have hmax : 2097152 ≤ maxLen := by decide
  have hw := within_row h hup.1 s
  have hvu : ∀ c ∈ l.filter (inS s), VersUp c.vers := fun c hc => hup.2 c ((List.mem_filter.1 hc).1)
  have hlen : (l.filter (inS s)).length ≤ 1048576 := Nat.le_trans (List.length_filter_le _ _) hs.1
  refine ⟨[], callS (f69 m x l s h hup.1) rfl rfl ?_⟩
  have hpr : pairsR s t l = (l.filter (inS s)).filterMap (tellsP t) := rfl
  unfold scanR
  rw [hpr]
  generalize withinS x l s = y at hw
  generalize l.filter (inS s) = l' at hw hvu hlen
  have hx := hw.bounds; have hn := hw.n
  refine ⟨[.nilOwn 10 10 50 2], ⟨⟨ScSt, fun p => p.i ≤ y.n ∧ p.acc = (l'.take p.i).filterMap (tellsP t) ∧ (p.acc.length : Int) ≤ max most 0 ∧ p.acc.length ≤ p.i, fun p => y.n - p.i,
    fun p => [(19, ai p.i), (18, ai y.n), (17, asl y), (10, .one (.own 10)), (6, .one (.ptr 6 0)), (3, ai most)], fun p => [(10, prow p.acc), (6, .box (vmap t.c) 27)], fun _ => m,
    ⟨⟨0, []⟩, ⟨Nat.zero_le _, rfl, by show (0 : Int) ≤ max most 0; omega, Nat.le_refl _⟩, entails_ren [] ⟨rfl, rfl, rfl, rfl, rfl, rfl, trivial⟩ ⟨rfl, rfl, trivial⟩ rfl rfl⟩, fun p hi => ?_⟩⟩⟩
  obtain ⟨i, acc⟩ := p
  obtain ⟨hin, hacc, hmost, hai⟩ := hi
  simp only at hin hacc hmost hai
  refine ⟨fun h1 => ?_, fun h1 => ?_⟩
  · have h1 : i < y.n := by simpa using h1
    have hlt : i < l'.length := by omega
    obtain ⟨a, s', hA, hr, hv⟩ := hw.at (List.getElem?_eq_getElem hlt)
    have hnext : (l'.take (i + 1)).filterMap (tellsP t) = acc ++ (tellsP t l'[i]).toList := by
      rw [← take_snoc hlt, List.filterMap_append, ← hacc]; simp [List.filterMap_cons]; cases tellsP t l'[i] <;> rfl
    refine ⟨i, a, _, rfl, h1, hA, hr, ?_⟩
    refine ⟨[], callS (f70 m s' l'[i] t hv (hvu _ (List.getElem_mem hlt))) rfl rfl ?_⟩
    refine ⟨fun h2 => ?_, fun h2 => ?_⟩
    · have h2 : (ofR l'[i].vers t).2 = false := by simpa using h2
      have hnone : tellsP t l'[i] = none := by unfold tellsP; rw [h2]; rfl
      refine ⟨_, i64_succ (n := i) (by omega), ?_⟩
      rw [hnone] at hnext
      exact ⟨[], ⟨i + 1, acc⟩, ⟨by show i + 1 ≤ y.n; omega, by rw [hnext]; simp, hmost, by show acc.length ≤ i + 1; omega⟩, by show y.n - (i + 1) < y.n - i; omega, entails_ren [] ⟨rfl, rfl, rfl, rfl, rfl, rfl, trivial⟩ ⟨rfl, rfl, trivial⟩ rfl rfl⟩
    · have h2 : (ofR l'[i].vers t).2 = true := by simpa using h2
      have hsome : tellsP t l'[i] = some ⟨l'[i].key, (ofR l'[i].vers t).1⟩ := by unfold tellsP; rw [h2]; rfl
      rw [hsome] at hnext
      refine ⟨fun h3 => ?_, fun h3 => ?_⟩
      · have h3 : (acc.length : Int) ≥ most := by simpa using h3
        have htot : (((l'.filterMap (tellsP t)).length : Nat) : Int) > max most 0 := by
          have : l'.filterMap (tellsP t) = (l'.take (i + 1)).filterMap (tellsP t) ++ (l'.drop (i + 1)).filterMap (tellsP t) := by rw [← List.filterMap_append, List.take_append_drop]
          rw [this, hnext]
          simp
          omega
        rw [if_pos htot]
        exact ⟨[.nilOwn 8 60 50 2, .cut], cutR [(10, 60)] (F' := [(8, .one (.own 10)), (9, ai 3)]) (B' := [(10, .own 0 [] 50 2)]) ⟨rfl, rfl, trivial⟩ ⟨rfl, trivial⟩ rfl rfl (retXS [10] rfl rfl)⟩
      · have h3 : ¬ (acc.length : Int) ≥ most := by simpa using h3
        refine ⟨[], [], ?_, ?_, fun old => ?_⟩
        · show acc.length + 1 ≤ maxLen; omega
        · show (acc.length + 1) * 32 ≤ 140737488355328; omega
        refine ⟨_, i64_succ (n := i) (by omega), ?_⟩
        refine ⟨[], ⟨i + 1, acc ++ [⟨l'[i].key, (ofR l'[i].vers t).1⟩]⟩, ⟨by show i + 1 ≤ y.n; omega, by rw [hnext]; rfl, by show (((acc ++ _).length : Nat) : Int) ≤ _; simp; omega, by show (acc ++ _).length ≤ i + 1; simp; omega⟩, by show y.n - (i + 1) < y.n - i; omega, ?_⟩
        exact entails_ren [] ⟨rfl, rfl, rfl, rfl, rfl, rfl, trivial⟩ ⟨congrArg some (prow_snoc acc ⟨l'[i].key, (ofR l'[i].vers t).1⟩), rfl, trivial⟩ rfl rfl
  · have h1 : ¬ i < y.n := by simpa using h1
    have hfin : acc = l'.filterMap (tellsP t) := by rw [hacc, List.take_of_length_le (by omega)]
    rw [← hfin, if_neg (by omega)]
    exact ⟨[], retXS [10] rfl rfl⟩

theorem f47 (m : Mem) (x : Sl) (l : List Cell) (s : Span) (t : Stamp) (most : Int) (h : CellRow m x l) (hs : Small l) : FnX Try.prog 47 m [asl x, .agg (vmap s.c), .agg (vmap t.c), ai most] [] (scanU 10 (scanR s t most l)) noPanic := by
  refine fnX (args := [asl x, .agg (vmap s.c), .agg (vmap t.c), ai most]) Γok mix Try.func47 rfl (by kernel_rfl) Try.ntmps47 rfl (by simp) (okv_cons rfl (okv_cons (okL_v rfl) (okv_cons (okL_v rfl) (okv_cons rfl okv_nil)))) ?_
  intro ρ W
  have hm := maxLen_le; have hmax : 2097152 ≤ maxLen := by decide
  have hx := h.bounds; have hn := h.n; have hlen := hs.1
  refine ⟨[.nilOwn 10 10 50 2], ⟨⟨ScSt, fun p => p.i ≤ x.n ∧ p.acc = pairsR s t (l.take p.i) ∧ p.acc.length ≤ p.i, fun p => x.n - p.i,
    fun p => [(11, ai p.i), (0, asl x), (10, .one (.own 10)), (5, .one (.ptr 5 0)), (6, .one (.ptr 6 0)), (3, ai most)], fun p => [(10, prow p.acc), (5, .box (vmap s.c) 65), (6, .box (vmap t.c) 27)], fun _ => m,
    ⟨⟨0, []⟩, ⟨Nat.zero_le _, rfl, Nat.le_refl _⟩, entails_ren [] ⟨rfl, rfl, rfl, rfl, rfl, rfl, trivial⟩ ⟨rfl, rfl, rfl, trivial⟩ rfl rfl⟩, fun p hi => ?_⟩⟩⟩
  obtain ⟨i, acc⟩ := p
  obtain ⟨hin, hacc, hai⟩ := hi
  simp only at hin hacc hai
  refine ⟨fun h1 => ?_, fun h1 => ?_⟩
  · have h1 : i < x.n := by simpa using h1
    have hlt : i < l.length := by omega
    obtain ⟨a, s', hA, hr, hv⟩ := h.at (List.getElem?_eq_getElem hlt)
    have hnext : pairsR s t (l.take (i + 1)) = acc ++ (if inS s l[i] = true then (tellsP t l[i]).toList else []) := by
      unfold pairsR at hacc ⊢
      rw [← take_snoc hlt, List.filter_append, List.filterMap_append, ← hacc]
      cases hI : inS s l[i] with
      | false => simp [hI]
      | true => simp only [if_true, List.filter_cons, hI, List.filter_nil]; cases hT : tellsP t l[i] <;> simp [List.filterMap_cons, hT]
    refine draw Γok [(5, 5)] [6] (.take 0 (.take 1 (.take 2 (.take 3 (.take 4 (.take 5 (.pcall 6 (.take 7 .done)))))))) (by kernel_rfl) ?_
    refine ⟨i, a, _, rfl, h1, hA, hr, ?_⟩
    refine pureS (f64 m l[i].key s) rfl rfl ?_
    refine ⟨fun h2 => ?_, fun h2 => ?_⟩
    · have h2 : inS s l[i] = false := by simpa [inS] using h2
      rw [h2] at hnext
      refine ⟨_, i64_succ (n := i) (by omega), ?_⟩
      exact ⟨[], ⟨i + 1, acc⟩, ⟨by show i + 1 ≤ x.n; omega, by rw [hnext]; simp, by show acc.length ≤ i + 1; omega⟩, by show x.n - (i + 1) < x.n - i; omega, entails_ren [] ⟨rfl, rfl, rfl, rfl, rfl, rfl, trivial⟩ ⟨rfl, rfl, rfl, trivial⟩ rfl rfl⟩
    · have h2 : inS s l[i] = true := by simpa [inS] using h2
      rw [h2, if_pos rfl] at hnext
      refine draw Γok [(4, 6)] [5] (.take 0 (.take 1 (.take 2 (.take 3 (.take 4 (.pcall 5 (.take 6 (.take 7 (.take 8 (.take 9 (.take 10 .done))))))))))) (by kernel_rfl) ?_
      refine ⟨i, a, _, rfl, h1, hA, hr, ?_⟩
      refine pureS (f65 m s' l[i] t hv) rfl rfl ?_
      refine ⟨fun h3 => ?_, fun h3 => ?_⟩
      · have hsome : tellsP t l[i] = some ⟨l[i].key, (ofR l[i].vers t).1⟩ := by unfold tellsP; rw [h3]; rfl
        rw [hsome] at hnext
        refine ⟨i, a, _, rfl, h1, hA, hr, ?_⟩
        refine ⟨[], [], ?_, ?_, fun old => ?_⟩
        · show acc.length + 1 ≤ maxLen; omega
        · show (acc.length + 1) * 32 ≤ 140737488355328; omega
        refine ⟨_, i64_succ (n := i) (by omega), ?_⟩
        refine ⟨[], ⟨i + 1, acc ++ [⟨l[i].key, (ofR l[i].vers t).1⟩]⟩, ⟨by show i + 1 ≤ x.n; omega, by rw [hnext]; rfl, by show (acc ++ _).length ≤ i + 1; simp; omega⟩, by show x.n - (i + 1) < x.n - i; omega, ?_⟩
        exact entails_ren [] ⟨rfl, rfl, rfl, rfl, rfl, rfl, trivial⟩ ⟨congrArg some (prow_snoc acc ⟨l[i].key, (ofR l[i].vers t).1⟩), rfl, rfl, trivial⟩ rfl rfl
      · have hnone : tellsP t l[i] = none := by unfold tellsP; rw [h3]; rfl
        rw [hnone] at hnext
        refine ⟨_, i64_succ (n := i) (by omega), ?_⟩
        exact ⟨[], ⟨i + 1, acc⟩, ⟨by show i + 1 ≤ x.n; omega, by rw [hnext]; simp, by show acc.length ≤ i + 1; omega⟩, by show x.n - (i + 1) < x.n - i; omega, entails_ren [] ⟨rfl, rfl, rfl, rfl, rfl, rfl, trivial⟩ ⟨rfl, rfl, rfl, trivial⟩ rfl rfl⟩
  · have h1 : ¬ i < x.n := by simpa using h1
    have hfin : acc = pairsR s t l := by rw [hacc, List.take_of_length_le (by omega)]
    have hmx : (if (0 : Int) > most then 0 else most) = max most 0 := by split <;> omega
    refine ⟨fun h2 => ?_, fun h2 => ?_⟩
    · have h2 : ((pairsR s t l).length : Int) > max most 0 := by rw [← hfin, ← hmx]; simpa using h2
      unfold scanR
      rw [if_pos h2]
      exact ⟨[.nilOwn 8 60 50 2, .cut], cutR [(10, 60)] (F' := [(8, .one (.own 10)), (9, ai 3)]) (B' := [(10, .own 0 [] 50 2)]) ⟨rfl, rfl, trivial⟩ ⟨rfl, trivial⟩ rfl rfl (retXS [10] rfl rfl)⟩
    · have h2 : ¬ ((pairsR s t l).length : Int) > max most 0 := by rw [← hfin, ← hmx]; simpa using h2
      unfold scanR
      rw [if_neg h2, ← hfin]
      exact ⟨[], retXS [10] rfl rfl⟩
end Vc
end

section
open Go Go.Proofs Vc
namespace Vc

def Rep.lv (r : Rep) (x : Leaf) : List Leaf := [.v (.int .i64 r.err), x, .v (.int .i64 r.who.node), .v (.int .i64 r.who.life), .v (.int .i64 r.who.seq), .v (.int .i64 r.who.att), .v (.int .i64 r.home), .v (.int .i64 r.at_.wall), .v (.int .i64 r.at_.tie), .v (.int .i64 r.wall), .v (.bool r.yes)]
def firstBlk (cells : List Cell) (t : Stamp) : List Span → Lk × Bool
  | [] => (Lk.zero, false)
  | s :: r => if (blocksR s t cells).2 = true then blocksR s t cells else firstBlk cells t r
def scansR (cells : List Cell) (t : Stamp) : List Span → List Pair → List Pair × Int
  | [], acc => (acc, 0)
  | s :: r, acc => if (scanR s t (512 - (acc.length : Int)) cells).2 ≠ 0 then ([], (scanR s t (512 - (acc.length : Int)) cells).2) else scansR cells t r (acc ++ (scanR s t (512 - (acc.length : Int)) cells).1)
def readR (p : Part) (k : Cmd) : Part × Rep :=
  if k.at_.wall < p.low then (p, { Rep.zero with err := 24, wall := p.low })
  else if (firstBlk p.cells k.at_ k.spans).2 = true then (p, lockedR (firstBlk p.cells k.at_ k.spans).1)
  else if (scansR p.cells k.at_ k.spans []).2 ≠ 0 then (p, { Rep.zero with err := (scansR p.cells k.at_ k.spans []).2 })
  else ({ p with floor := p.floor.max k.at_ }, { Rep.zero with pairs := (scansR p.cells k.at_ k.spans []).1 })

theorem firstBlk_drop {cells : List Cell} {t : Stamp} {l : List Span} {i : Nat} {s : Span} (h : l[i]? = some s) : firstBlk cells t (l.drop i) = if (blocksR s t cells).2 = true then blocksR s t cells else firstBlk cells t (l.drop (i + 1)) := by
  obtain ⟨hlt, rfl⟩ := List.getElem?_eq_some_iff.1 h
  rw [List.drop_eq_getElem_cons hlt]; rfl
theorem scansR_drop {cells : List Cell} {t : Stamp} {l : List Span} {i : Nat} {s : Span} {acc : List Pair} (h : l[i]? = some s) : scansR cells t (l.drop i) acc = if (scanR s t (512 - (acc.length : Int)) cells).2 ≠ 0 then ([], (scanR s t (512 - (acc.length : Int)) cells).2) else scansR cells t (l.drop (i + 1)) (acc ++ (scanR s t (512 - (acc.length : Int)) cells).1) := by
  obtain ⟨hlt, rfl⟩ := List.getElem?_eq_some_iff.1 h
  rw [List.drop_eq_getElem_cons hlt]; rfl
theorem scanR_le {s : Span} {t : Stamp} {most : Int} {l : List Cell} (h : ¬ (scanR s t most l).2 ≠ 0) : ((scanR s t most l).1.length : Int) ≤ max most 0 := by
  unfold scanR at h ⊢
  split
  · rename_i h1; rw [if_pos h1] at h; exact absurd (by decide) h
  · simp only; omega

theorem GOk.row {g : Gs} {l : List Cell} {m m1 : Mem} {A : Option Addr} {c : Nat} (hg : GOk g l m) (hd : Mem.Disj m m1) (h1 : g.cells.length = g.length * 12) (h2 : g.length ≤ c) (h3 : c ≤ maxLen) (h4 : 0 < g.length → ∃ a, A = some a ∧ MemReads m1 a g.cells) : CellRow (m.join m1) ⟨A, g.length, c⟩ l :=
  ⟨g, hg.1, row_of rfl h1 h2 h3 (fun hp => by obtain ⟨a, h5, h6⟩ := h4 hp; exact ⟨a, h5, h6.mono' (Mem.join_right hd)⟩), fun p hp => (hg.2 p hp).mono (Mem.le_join _ _)⟩

/-- A part that is one's own, behind a pointer. -/
def PBn (c : Nat) (p : Part) (g : Gs) : Ents := [(0, .box (p.lv (.own c) (.own 2005) (.own 3005)) 31), (c, crow g), (2005, orow p.records), (3005, orow p.done)]
def PB (p : Part) (g : Gs) : Ents := PBn 1005 p g
def DoesOut (m : Mem) (o : Part × Rep) : AV → Ents → Mem → Prop := fun u B mn => ∃ c g, (c = 1005 ∨ c = 7005) ∧ GOk g o.1.cells (m.join mn) ∧ u = .agg (o.2.lv (.own 60)) ∧ B = (60, prow o.2.pairs) :: PBn c o.1 g

/-- What comes back where the reply has no pairs. -/
theorem retDoesN {P : Program} {Γ : Types} {N : Nat} {W : World} {m mn : Mem} {ρ : Val} {B0 : Ents} (c : Nat) (hc : c = 1005 ∨ c = 7005) (o : Part × Rep) {g : Gs} (hd : Mem.Disj m mn) (hg : GOk g o.1.cells (m.join mn)) (hp : o.2.pairs = []) :
    RetNode (envX P Γ N W m ρ B0) (.agg (o.2.lv (.own 60))) ((4, .box (o.2.lv (.own 60)) 43) :: (60, .own 0 [] 50 2) :: PBn c o.1 g) (m.join mn) (RX (envX P [] 0 W m ρ B0) (DoesOut m o) noPanic) := by
  rcases hc with rfl | rfl
  · exact retXN [60, 0, 1005, 2005, 3005] hd ⟨1005, g, .inl rfl, hg, rfl, by show _ = (60, prow o.2.pairs) :: _; rw [hp]; rfl⟩
  · exact retXN [60, 0, 7005, 2005, 3005] hd ⟨7005, g, .inr rfl, hg, rfl, by show _ = (60, prow o.2.pairs) :: _; rw [hp]; rfl⟩
theorem retDoes {P : Program} {Γ : Types} {N : Nat} {W : World} {m mn : Mem} {ρ : Val} {B0 : Ents} (o : Part × Rep) {g : Gs} (hd : Mem.Disj m mn) (hg : GOk g o.1.cells (m.join mn)) (hp : o.2.pairs = []) :
    RetNode (envX P Γ N W m ρ B0) (.agg (o.2.lv (.own 60))) ((4, .box (o.2.lv (.own 60)) 43) :: (60, .own 0 [] 50 2) :: PB o.1 g) (m.join mn) (RX (envX P [] 0 W m ρ B0) (DoesOut m o) noPanic) :=
  retDoesN 1005 (.inl rfl) o hd hg hp
theorem retDoes0 {P : Program} {Γ : Types} {N : Nat} {W : World} {m : Mem} {ρ : Val} {B0 : Ents} (o : Part × Rep) {g : Gs} (hg : GOk g o.1.cells m) (hp : o.2.pairs = []) :
    RetNode (envX P Γ N W m ρ B0) (.agg (o.2.lv (.own 60))) ((4, .box (o.2.lv (.own 60)) 43) :: (60, .own 0 [] 50 2) :: PB o.1 g) m (RX (envX P [] 0 W m ρ B0) (DoesOut m o) noPanic) := by
  have := retDoes (P := P) (Γ := Γ) (N := N) (W := W) (ρ := ρ) (B0 := B0) o (Mem.disj_none m) (g := g) (by rw [Mem.join_none]; exact hg) hp
  rwa [Mem.join_none] at this

abbrev zrep : List Value := [.int .i64 0, .slice none 0 0, .int .i64 0, .int .i64 0, .int .i64 0, .int .i64 0, .int .i64 0, .int .i64 0, .int .i64 0, .int .i64 0, .bool false]
theorem f41 (m : Mem) (p : Part) (g : Gs) (k : Cmd) (xs xw : Sl) (hg : GOk g p.cells m) (hk : CmdRow m k xs xw) (hup : Up p.cells) (hs : Small p.cells) : FnX Try.prog 41 m [.one (.ptr 0 0), .agg (vmap (k.c xs xw))] (PB p g) (DoesOut m (readR p k)) noPanic := by
  refine fnX (args := [.one (.ptr 0 0), .agg (vmap (k.c xs xw))]) Γok mix Try.func41 rfl (by kernel_rfl) Try.ntmps41 rfl (by simp) (okv_cons trivial (okv_cons (okL_v rfl) okv_nil)) ?_
  intro ρ W
  have hm := maxLen_le; have hmax : 2097152 ≤ maxLen := by decide
  have hx := hk.spans.1.cap; have hx' := hk.spans.1.most; have hn := hk.spans.2
  refine draw Γok [(2, 3), (6, 0)] [] (.take 0 (.take 1 (.take 2 (.take 3 (.take 4 (.take 5 (.take 6 (.take 7 .done)))))))) (by kernel_rfl) ?_
  refine ⟨fun h1 => ?_, fun h1 => ?_⟩
  · have h1 : k.at_.wall < p.low := by simpa using h1
    have e : readR p k = (p, { Rep.zero with err := 24, wall := p.low }) := by unfold readR; rw [if_pos h1]
    rw [e]
    exact ⟨[.cut], nilCut 60 (F' := [(4, .one (.ptr 4 0))]) (B' := (4, .box (({ Rep.zero with err := 24, wall := p.low } : Rep).lv (.own 60)) 43) :: (60, .own 0 [] 50 2) :: PB p g) ⟨rfl, trivial⟩ ⟨rfl, rfl, rfl, rfl, rfl, rfl, trivial⟩ (retDoes0 (p, { Rep.zero with err := 24, wall := p.low }) hg rfl)⟩
  have h1 : ¬ k.at_.wall < p.low := by simpa using h1
  refine ⟨[], ⟨⟨Nat, fun i => i ≤ xs.n ∧ firstBlk p.cells k.at_ k.spans = firstBlk p.cells k.at_ (k.spans.drop i), fun i => xs.n - i,
    fun i => [(30, ai i), (29, ai xs.n), (28, asl xs), (0, .one (.ptr 0 0)), (3, .one (.ptr 3 0)), (4, .one (.ptr 4 0))], fun i => (3, .box (vmap (k.c xs xw)) 37) :: (4, .box (vmap zrep) 43) :: PB p g, fun _ => m,
    ⟨0, ⟨Nat.zero_le _, rfl⟩, entails_ren [] ⟨rfl, rfl, rfl, rfl, rfl, rfl, trivial⟩ ⟨rfl, rfl, rfl, rfl, rfl, rfl, trivial⟩ rfl rfl⟩, fun i hi => ?_⟩⟩⟩
  obtain ⟨hin, hor⟩ := hi
  refine ⟨fun h2 => ?_, fun h2 => ?_⟩
  · have h2 : i < xs.n := by simpa using h2
    have hlt : i < k.spans.length := by omega
    obtain ⟨a, hA, hr⟩ := hk.spans.at (fun _ => rfl) (List.getElem?_eq_getElem hlt)
    have hd := firstBlk_drop (cells := p.cells) (t := k.at_) (List.getElem?_eq_getElem hlt)
    refine ⟨i, a, _, rfl, h2, hA, hr, ?_⟩
    refine draw_cut [(8, .one (.v (.bool (blocksR k.spans[i] k.at_ p.cells).2))), (7, .one (.ptr 7 0)), (30, ai i), (29, ai xs.n), (28, asl xs), (0, .one (.ptr 0 0)), (3, .one (.ptr 3 0)), (4, .one (.ptr 4 0))] ((7, .box (vmap (blocksR k.spans[i] k.at_ p.cells).1.c) 53) :: (3, .box (vmap (k.c xs xw)) 37) :: (4, .box (vmap zrep) 43) :: PB p g) m ?_ ?_
    · refine draw Γok [(3, 0), (4, 6), (6, 3)] [7, 11, 12] (.take 0 (.take 1 (.take 2 (.take 3 (.take 4 (.take 5 (.take 6 (.two 7 [] (.take 8 (.take 9 (.take 10 (.one 11 [] (.one 12 [] (.take 13 .done)))))) 11 [0, 3, 6] (.one 7 [] (.take 8 (.take 9 (.take 10 (.one 12 [] (.take 13 .done)))))))))))))) (by kernel_rfl) ?_
      refine ⟨PureNode.kept (callSP [1005] (v := vlkb (blocksR k.spans[i] k.at_ p.cells)) rfl (fun A c m1 hd h1 h2 h3 h4 => ⟨_, rfl, f54 _ ⟨A, g.length, c⟩ p.cells k.spans[i] k.at_ (hg.row hd h1 h2 h3 h4) hup.1⟩) rfl ?_), PureNode.kept (callSP [1005] (v := vlkb (blocksR k.spans[i] k.at_ p.cells)) rfl (fun A c m1 hd h1 h2 h3 h4 => ⟨_, rfl, f54 _ ⟨A, g.length, c⟩ p.cells k.spans[i] k.at_ (hg.row hd h1 h2 h3 h4) hup.1⟩) rfl ?_)⟩ <;>
        exact entails_ren [] ⟨rfl, rfl, rfl, rfl, rfl, rfl, rfl, rfl, trivial⟩ ⟨rfl, rfl, rfl, rfl, rfl, rfl, rfl, trivial⟩ rfl rfl
    refine ⟨fun h3 => ?_, fun h3 => ?_⟩
    · rw [if_pos h3] at hd
      have hb : firstBlk p.cells k.at_ k.spans = blocksR k.spans[i] k.at_ p.cells := by rw [hor, hd]
      have e : readR p k = (p, lockedR (blocksR k.spans[i] k.at_ p.cells).1) := by unfold readR; rw [if_neg h1, hb, if_pos h3]
      rw [e]
      refine ⟨[], callS (f55 m _) rfl rfl ?_⟩
      exact ⟨[.cut], nilCut 60 (F' := [(4, .one (.ptr 4 0))]) (B' := (4, .box ((lockedR (blocksR k.spans[i] k.at_ p.cells).1).lv (.own 60)) 43) :: (60, .own 0 [] 50 2) :: PB p g) ⟨rfl, trivial⟩ ⟨rfl, rfl, rfl, rfl, rfl, rfl, trivial⟩ (retDoes0 (p, lockedR (blocksR k.spans[i] k.at_ p.cells).1) hg rfl)⟩
    · rw [if_neg (by rw [h3]; simp)] at hd
      refine ⟨_, i64_succ (n := i) (by omega), ?_⟩
      exact ⟨[], i + 1, ⟨by omega, by rw [hor, hd]⟩, by show xs.n - (i + 1) < xs.n - i; omega, entails_ren [] ⟨rfl, rfl, rfl, rfl, rfl, rfl, trivial⟩ ⟨rfl, rfl, rfl, rfl, rfl, rfl, trivial⟩ rfl rfl⟩
  have h2 : ¬ i < xs.n := by simpa using h2
  have hnb : firstBlk p.cells k.at_ k.spans = (Lk.zero, false) := by rw [hor, List.drop_eq_nil_of_le (by omega)]; rfl
  have e0 : readR p k = if (scansR p.cells k.at_ k.spans []).2 ≠ 0 then (p, { Rep.zero with err := (scansR p.cells k.at_ k.spans []).2 })
      else ({ p with floor := p.floor.max k.at_ }, { Rep.zero with pairs := (scansR p.cells k.at_ k.spans []).1 }) := by unfold readR; rw [if_neg h1, hnb]; rfl
  rw [e0]
  clear hor h2 hin
  refine ⟨[.cut], nilCut 60 (F' := [(53, ai 0), (52, ai xs.n), (51, asl xs), (9, .one (.ptr 9 0)), (0, .one (.ptr 0 0)), (3, .one (.ptr 3 0)), (4, .one (.ptr 4 0))]) (B' := (9, .box (Rep.zero.lv (.own 60)) 43) :: (60, .own 0 [] 50 2) :: (3, .box (vmap (k.c xs xw)) 37) :: (4, .box (vmap zrep) 43) :: PB p g) ⟨rfl, rfl, rfl, rfl, rfl, rfl, rfl, trivial⟩ ⟨rfl, rfl, rfl, rfl, rfl, rfl, rfl, rfl, trivial⟩
   ⟨⟨ScSt, fun s => s.i ≤ xs.n ∧ scansR p.cells k.at_ k.spans [] = scansR p.cells k.at_ (k.spans.drop s.i) s.acc ∧ s.acc.length ≤ 512, fun s => xs.n - s.i,
    fun s => [(53, ai s.i), (52, ai xs.n), (51, asl xs), (9, .one (.ptr 9 0)), (0, .one (.ptr 0 0)), (3, .one (.ptr 3 0)), (4, .one (.ptr 4 0))], fun s => (9, .box (Rep.zero.lv (.own 60)) 43) :: (60, prow s.acc) :: (3, .box (vmap (k.c xs xw)) 37) :: (4, .box (vmap zrep) 43) :: PB p g, fun _ => m,
    ⟨⟨0, []⟩, ⟨Nat.zero_le _, rfl, Nat.zero_le _⟩, entails_ren [] ⟨rfl, rfl, rfl, rfl, rfl, rfl, rfl, trivial⟩ ⟨rfl, rfl, rfl, rfl, rfl, rfl, rfl, rfl, trivial⟩ rfl rfl⟩, fun s hi => ?_⟩⟩⟩
  obtain ⟨i, acc⟩ := s
  obtain ⟨hin, hor, h512⟩ := hi
  simp only at hin hor h512
  refine ⟨fun h2 => ?_, fun h2 => ?_⟩
  · have h2 : i < xs.n := by simpa using h2
    have hlt : i < k.spans.length := by omega
    obtain ⟨a, hA, hr⟩ := hk.spans.at (fun _ => rfl) (List.getElem?_eq_getElem hlt)
    have hd := scansR_drop (cells := p.cells) (t := k.at_) (acc := acc) (List.getElem?_eq_getElem hlt)
    have hle := scanR_le (s := k.spans[i]) (t := k.at_) (most := 512 - (acc.length : Int)) (l := p.cells)
    refine ⟨i, a, _, rfl, h2, hA, hr, ?_⟩
    refine draw Γok [(3, 0), (4, 11), (6, 3), (8, 9)] [11] (.take 0 (.take 1 (.take 2 (.take 3 (.take 4 (.take 5 (.take 6 (.take 7 (.take 8 (.take 9 (.take 10 (.one 11 [] (.take 12 (.take 13 (.take 14 (.take 15 (.take 16 .done))))))))))))))))) (by kernel_rfl) ?_
    refine ⟨512 - (acc.length : Int), i64_in (512 - (acc.length : Int)) (by omega), ?_⟩
    refine keptRes [] 10000 [1005] [] (.tup [(false, [.own 10]), (false, [.v (.int .i64 (scanR k.spans[i] k.at_ (512 - (acc.length : Int)) p.cells).2)])]) [(10, prow (scanR k.spans[i] k.at_ (512 - (acc.length : Int)) p.cells).1)] (fun A c m1 hd h1 h2 h3 h4 => ⟨[asl ⟨A, g.length, c⟩, .agg (vmap k.spans[i].c), .agg (vmap k.at_.c), ai (512 - (acc.length : Int))], rfl, f56 (m.join m1) ⟨A, g.length, c⟩ p.cells k.spans[i] k.at_ (512 - (acc.length : Int)) (hg.row hd h1 h2 h3 h4) hup hs⟩) rfl trivial rfl rfl ?_
    generalize scanR k.spans[i] k.at_ (512 - (acc.length : Int)) p.cells = sc at hd hle
    obtain ⟨ps, er⟩ := sc
    simp only at hd hle
    refine ⟨fun h3 => ?_, fun h3 => ?_⟩
    · have h3 : er ≠ 0 := by simpa using h3
      rw [if_pos h3] at hd
      rw [hor, hd, if_pos h3]
      exact ⟨[.cut], nilCut 60 (F' := [(4, .one (.ptr 4 0))]) (B' := (4, .box (({ Rep.zero with err := er } : Rep).lv (.own 60)) 43) :: (60, .own 0 [] 50 2) :: PB p g) ⟨rfl, trivial⟩ ⟨rfl, rfl, rfl, rfl, rfl, rfl, trivial⟩ (retDoes0 (p, { Rep.zero with err := er }) hg rfl)⟩
    · have h3 : ¬ er ≠ 0 := by simpa using h3
      rw [if_neg h3] at hd
      have hle := hle h3
      have hpl : acc.length + ps.length ≤ 512 := by omega
      refine ⟨[], ?_, ?_, fun old => ?_⟩
      · show acc.length + ps.length ≤ maxLen; omega
      · show (acc.length + ps.length) * 32 ≤ 140737488355328; omega
      refine ⟨_, i64_succ (n := i) (by omega), ?_⟩
      exact ⟨[], ⟨i + 1, acc ++ ps⟩, ⟨by show i + 1 ≤ xs.n; omega, by rw [hor, hd], by show (acc ++ ps).length ≤ 512; simpa using hpl⟩, by show xs.n - (i + 1) < xs.n - i; omega,
        entails_ren [] ⟨rfl, rfl, rfl, rfl, rfl, rfl, rfl, trivial⟩ ⟨rfl, congrArg some (by simp [prow] : Ent.own (acc.length + ps.length) (acc.flatMap Pair.c ++ ps.flatMap Pair.c) 50 2 = prow (acc ++ ps)), rfl, rfl, rfl, rfl, rfl, rfl, trivial⟩ rfl rfl⟩
  have h2 : ¬ i < xs.n := by simpa using h2
  have hfin : scansR p.cells k.at_ k.spans [] = (acc, 0) := by rw [hor, List.drop_eq_nil_of_le (by omega)]; rfl
  rw [hfin, if_neg (by simp)]
  refine draw Γok [(4, 0), (6, 3)] [7, 10] (.take 0 (.take 1 (.take 2 (.take 3 (.take 4 (.take 5 (.take 6 (.pcall 7 (.take 8 (.take 9 (.one 10 [] .done))))))))))) (by kernel_rfl) ?_
  refine pureS (f57 m p.floor k.at_) rfl rfl ?_
  exact ⟨[], retXO (.agg (({ Rep.zero with pairs := acc } : Rep).lv (.own 60))) ((60, prow acc) :: PB { p with floor := p.floor.max k.at_ } g) Mem.none rfl (Mem.join_none m).symm (Mem.disj_none m) ⟨rfl, rfl, rfl, rfl, rfl, trivial⟩ ⟨1005, g, .inl rfl, by rw [Mem.join_none]; exact hg, rfl, rfl⟩⟩
end Vc
end

section
open Go Go.Proofs Vc
namespace Vc

def pairsO (cells : List Cell) (t : Stamp) (l : List Span) : List Pair × Rep :=
  if (firstBlk cells t l).2 = true then ([], lockedR (firstBlk cells t l).1)
  else if (scansR cells t l []).2 ≠ 0 then ([], { Rep.zero with err := (scansR cells t l []).2 })
  else ((scansR cells t l []).1, Rep.zero)
def pairsU (o : List Pair × Rep) : AV := .tup [(false, [.own 8]), (true, vmap (o.2.c Sl.nil))]

theorem f23 (m : Mem) (p : Part) (xc xr xd : Sl) (t : Stamp) (xs : Sl) (l : List Span) (hp : PartRow m p xc xr xd) (hk : SpanRow m xs l) (hs : Small p.cells) : FnX Try.prog 23 m [.agg (vmap (p.c xc xr xd)), .agg (vmap t.c), asl xs] [] (Res (pairsU (pairsO p.cells t l)) [(8, prow (pairsO p.cells t l).1)]) noPanic := by
  refine fnX (args := [.agg (vmap (p.c xc xr xd)), .agg (vmap t.c), asl xs]) Γok mix Try.func23 rfl (by kernel_rfl) Try.ntmps23 rfl (by simp) (okv_cons (okL_v rfl) (okv_cons (okL_v rfl) (okv_cons rfl okv_nil))) ?_
  intro ρ W
  have hm := maxLen_le; have hmax : 2097152 ≤ maxLen := by decide
  have hx := hk.1.cap; have hx' := hk.1.most; have hn := hk.2
  refine ⟨[], ⟨⟨Nat, fun i => i ≤ xs.n ∧ firstBlk p.cells t l = firstBlk p.cells t (l.drop i), fun i => xs.n - i,
    fun i => [(9, ai i), (2, asl xs), (8, .one (.v (.slice none 0 0))), (3, .one (.ptr 3 0)), (4, .one (.ptr 4 0)), (7, .one (.ptr 7 0))], fun i => [(3, .box (vmap (p.c xc xr xd)) 31), (4, .box (vmap t.c) 27), (7, .box (vmap zrep) 43)], fun _ => m,
    ⟨0, ⟨Nat.zero_le _, rfl⟩, entails_ren [] ⟨rfl, rfl, rfl, rfl, rfl, rfl, trivial⟩ ⟨rfl, rfl, rfl, trivial⟩ rfl rfl⟩, fun i hi => ?_⟩⟩⟩
  obtain ⟨hin, hor⟩ := hi
  refine ⟨fun h2 => ?_, fun h2 => ?_⟩
  · have h2 : i < xs.n := by simpa using h2
    have hlt : i < l.length := by omega
    obtain ⟨a, hA, hr⟩ := hk.at (fun _ => rfl) (List.getElem?_eq_getElem hlt)
    have hd := firstBlk_drop (cells := p.cells) (t := t) (List.getElem?_eq_getElem hlt)
    refine draw_cut [(11, .one (.v (.bool (blocksR l[i] t p.cells).2))), (10, .one (.ptr 10 0)), (9, ai i), (2, asl xs), (8, .one (.v (.slice none 0 0))), (3, .one (.ptr 3 0)), (4, .one (.ptr 4 0)), (7, .one (.ptr 7 0))] [(10, .box (vmap (blocksR l[i] t p.cells).1.c) 53), (3, .box (vmap (p.c xc xr xd)) 31), (4, .box (vmap t.c) 27), (7, .box (vmap zrep) 43)] m ?_ ?_
    · refine draw Γok [(1, 3), (6, 4)] [7, 11, 12] (.take 0 (.take 1 (.take 2 (.take 3 (.take 4 (.take 5 (.take 6 (.two 7 [] (.take 8 (.take 9 (.take 10 (.one 11 [] (.one 12 [] (.take 13 .done)))))) 11 [3, 4] (.one 7 [] (.take 8 (.take 9 (.take 10 (.one 12 [] (.take 13 .done)))))))))))))) (by kernel_rfl) ?_
      refine ⟨i, a, _, rfl, h2, hA, hr, ?_⟩
      refine ⟨PureNode.kept (pureS (f45 m xc p.cells l[i] t hp.cells) rfl rfl ?_), PureNode.kept (pureS (f45 m xc p.cells l[i] t hp.cells) rfl rfl ?_)⟩ <;>
        exact entails_ren [] ⟨rfl, rfl, rfl, rfl, rfl, rfl, rfl, rfl, trivial⟩ ⟨rfl, rfl, rfl, rfl, trivial⟩ rfl rfl
    refine ⟨fun h3 => ?_, fun h3 => ?_⟩
    · rw [if_pos h3] at hd
      have hb : firstBlk p.cells t l = blocksR l[i] t p.cells := by rw [hor, hd]
      have e : pairsO p.cells t l = ([], lockedR (blocksR l[i] t p.cells).1) := by unfold pairsO; rw [hb, if_pos h3]
      rw [e]
      refine ⟨[], callS (f46 m _) rfl rfl ?_⟩
      exact ⟨[.nilOwn 6 8 50 2], retRes rfl ⟨rfl, trivial⟩⟩
    · rw [if_neg (by rw [h3]; simp)] at hd
      refine ⟨_, i64_succ (n := i) (by omega), ?_⟩
      exact ⟨[], i + 1, ⟨by omega, by rw [hor, hd]⟩, by show xs.n - (i + 1) < xs.n - i; omega, entails_ren [] ⟨rfl, rfl, rfl, rfl, rfl, rfl, trivial⟩ ⟨rfl, rfl, rfl, trivial⟩ rfl rfl⟩
  have h2 : ¬ i < xs.n := by simpa using h2
  have hnb : firstBlk p.cells t l = (Lk.zero, false) := by rw [hor, List.drop_eq_nil_of_le (by omega)]; rfl
  have e0 : pairsO p.cells t l = if (scansR p.cells t l []).2 ≠ 0 then ([], { Rep.zero with err := (scansR p.cells t l []).2 }) else ((scansR p.cells t l []).1, Rep.zero) := by unfold pairsO; rw [hnb]; rfl
  rw [e0]
  clear hor h2 hin
  refine ⟨[.nilOwn 8 8 50 2], ⟨⟨ScSt, fun s => s.i ≤ xs.n ∧ scansR p.cells t l [] = scansR p.cells t (l.drop s.i) s.acc ∧ s.acc.length ≤ 512, fun s => xs.n - s.i,
    fun s => [(12, ai s.i), (2, asl xs), (8, .one (.own 8)), (3, .one (.ptr 3 0)), (4, .one (.ptr 4 0)), (7, .one (.ptr 7 0))], fun s => [(8, prow s.acc), (3, .box (vmap (p.c xc xr xd)) 31), (4, .box (vmap t.c) 27), (7, .box (vmap zrep) 43)], fun _ => m,
    ⟨⟨0, []⟩, ⟨Nat.zero_le _, rfl, Nat.zero_le _⟩, entails_ren [] ⟨rfl, rfl, rfl, rfl, rfl, rfl, trivial⟩ ⟨rfl, rfl, rfl, rfl, trivial⟩ rfl rfl⟩, fun s hi => ?_⟩⟩⟩
  obtain ⟨i, acc⟩ := s
  obtain ⟨hin, hor, h512⟩ := hi
  simp only at hin hor h512
  refine ⟨fun h2 => ?_, fun h2 => ?_⟩
  · have h2 : i < xs.n := by simpa using h2
    have hlt : i < l.length := by omega
    obtain ⟨a, hA, hr⟩ := hk.at (fun _ => rfl) (List.getElem?_eq_getElem hlt)
    have hd := scansR_drop (cells := p.cells) (t := t) (acc := acc) (List.getElem?_eq_getElem hlt)
    have hle := scanR_le (s := l[i]) (t := t) (most := 512 - (acc.length : Int)) (l := p.cells)
    refine draw Γok [(1, 3), (6, 4)] [10] (.take 0 (.take 1 (.take 2 (.take 3 (.take 4 (.take 5 (.take 6 (.take 7 (.take 8 (.take 9 (.one 10 [] (.take 11 (.take 12 (.take 13 (.take 14 (.take 15 .done)))))))))))))))) (by kernel_rfl) ?_
    refine ⟨i, a, _, rfl, h2, hA, hr, ?_⟩
    refine ⟨512 - (acc.length : Int), i64_in (512 - (acc.length : Int)) (by omega), ?_⟩
    refine keptRes [] 1000 [] [] (.tup [(false, [.own 10]), (false, [.v (.int .i64 (scanR l[i] t (512 - (acc.length : Int)) p.cells).2)])]) [(10, prow (scanR l[i] t (512 - (acc.length : Int)) p.cells).1)] ⟨[asl xc, .agg (vmap l[i].c), .agg (vmap t.c), ai (512 - (acc.length : Int))], rfl, f47 m xc p.cells l[i] t (512 - (acc.length : Int)) hp.cells hs⟩ rfl trivial rfl rfl ?_
    generalize scanR l[i] t (512 - (acc.length : Int)) p.cells = sc at hd hle
    obtain ⟨ps, er⟩ := sc
    simp only at hd hle
    refine ⟨fun h3 => ?_, fun h3 => ?_⟩
    · have h3 : er ≠ 0 := by simpa using h3
      rw [if_pos h3] at hd
      rw [hor, hd, if_pos h3]
      exact ⟨[.nilOwn 6 60 50 2, .cut], cutR [(8, 60)] (F' := [(6, .one (.own 8)), (7, .one (.ptr 7 0))]) (B' := [(8, .own 0 [] 50 2), (7, .box (vmap (({ Rep.zero with err := er } : Rep).c Sl.nil)) 43)]) ⟨rfl, rfl, trivial⟩ ⟨rfl, rfl, trivial⟩ rfl rfl (retRes rfl ⟨rfl, trivial⟩)⟩
    · have h3 : ¬ er ≠ 0 := by simpa using h3
      rw [if_neg h3] at hd
      have hle := hle h3
      have hpl : acc.length + ps.length ≤ 512 := by omega
      refine ⟨[], ?_, ?_, fun old => ?_⟩
      · show acc.length + ps.length ≤ maxLen; omega
      · show (acc.length + ps.length) * 32 ≤ 140737488355328; omega
      refine ⟨_, i64_succ (n := i) (by omega), ?_⟩
      exact ⟨[], ⟨i + 1, acc ++ ps⟩, ⟨by show i + 1 ≤ xs.n; omega, by rw [hor, hd], by show (acc ++ ps).length ≤ 512; simpa using hpl⟩, by show xs.n - (i + 1) < xs.n - i; omega,
        entails_ren [] ⟨rfl, rfl, rfl, rfl, rfl, rfl, trivial⟩ ⟨congrArg some (by simp [prow] : Ent.own (acc.length + ps.length) (acc.flatMap Pair.c ++ ps.flatMap Pair.c) 50 2 = prow (acc ++ ps)), rfl, rfl, rfl, trivial⟩ rfl rfl⟩
  have h2 : ¬ i < xs.n := by simpa using h2
  have hfin : scansR p.cells t l [] = (acc, 0) := by rw [hor, List.drop_eq_nil_of_le (by omega)]; rfl
  rw [hfin, if_neg (by simp)]
  exact ⟨[], retRes rfl ⟨rfl, trivial⟩⟩
end Vc
end

section
open Go Go.Proofs Vc
namespace Vc

theorem f82 (m : Mem) {a b : Addr} {la ca lb cb : Nat} {c1 c2 : Array Value} {t1 t2 : TypeId} (h1 : m a.block = some (.cells c1 t1 (0, 0))) (h2 : m b.block = some (.cells c2 t2 (0, 0))) (hne : a.block ≠ b.block) (hz : c2.size ≠ 0) :
    FnS Try.prog 82 m [.slice (some a) la ca, .slice (some b) lb cb] (.bool false) := by
  intro W hW
  refine .inr ⟨.bool false, W, ?_, rfl, Go.RowKit.Below.refl _ _⟩
  have g1 := hW _ _ h1
  have g2 := hW _ _ h2
  have hT28 := Γok 28 ⟨.slice 55, 1, 24, [.slice none 0 0]⟩ rfl
  have hT55 := Γok 55 _ rfl
  rw [run_callFunc_extern Try.func82 (by kernel_rfl) (by kernel_rfl) (by kernel_rfl) (e := Extern.SlicesOverlaps.overlaps #[28, 28] #[4]) (by kernel_rfl)]
  rw [Lib.run_overlaps_apart W 28 4 55 (hT28.slice_ rfl) 12 (fun w => hT55.run_sizeOf w) a b la ca lb cb hne t1 t2 c1.size c2.size (by simp [World.shape?, g1]) (by simp [World.shape?, g2]) hz (by simp [World.frozen?, g1]) (by simp [World.frozen?, g1])]
  rfl

set_option maxHeartbeats 2000000 in
theorem f75 (m : Mem) (n i : Nat) (cells vc : List Value) (hi : i ≤ n) (hn : n ≤ 1048576) : FnX Try.prog 75 m [.one (.own 0), ai i, .one (.own 1)] [(0, .own n cells 55 12), (1, .own 1 vc 55 12)]
    (Res (.one (.own 0)) [(0, .own (n + 1) (cells.take (i * 12) ++ vc ++ cells.drop (i * 12)) 55 12)]) noPanic := by
  refine fnXC (args := [.one (.own 0), ai i, .one (.own 1)]) Γok mix Try.func75 rfl (by kernel_rfl) Try.ntmps75 rfl (by simp) (okv_cons trivial (okv_cons rfl (okv_cons trivial okv_nil))) ?_
  intro ρ0 W0
  refine ⟨fun ρ a W hW hF => ?_⟩
  have hmax : 2097152 ≤ maxLen := by decide
  have hm63 := maxLen_le
  obtain ⟨⟨hcl, hs⟩, hone⟩ := hW.own (i := 0) (n := n) (cells := cells) (e := 55) (size := 12) rfl
  obtain ⟨⟨hvl, hv⟩, hvone⟩ := hW.own (i := 1) (n := 1) (cells := vc) (e := 55) (size := 12) rfl
  rcases hv with ⟨A, _, h⟩ | ⟨g1, cap1, cur1, hv, hg1, hnc1, hcm1, hcs1, htk1⟩
  · omega
  have hb1 : blockOf ρ [(0, .own n cells 55 12), (1, .own 1 vc 55 12)] 1 = some g1 := by show rowBlock (ρ.slv 1) = _; rw [hv]; rfl
  have hf1 := hW.fresh 1 g1 hb1
  have hvc : vc.length = 12 := by omega
  rcases hs with ⟨A, hs, h0⟩ | ⟨g0, cap0, cur0, hs, hg0, hnc0, hcm0, hcs0, htk0⟩
  · -- s has no room at all
    subst h0
    obtain rfl : i = 0 := by omega
    have hc0 : cells = [] := List.eq_nil_of_length_eq_zero (by simpa using hcl)
    subst hc0
    refine ⟨ρ, [(0, .one (.v (.slice A 0 0))), (1, ai 0), (2, asl ⟨some ⟨g1, 0, none⟩, 1, cap1 + 1⟩)], [], m.set g1 (.cells cur1 55 (0, 0)), ?_, ?_, ?_⟩
    · refine ⟨0, 0, Nat.le_refl _, Nat.le_refl _, rfl, rfl, ?_⟩
      refine ⟨fun h => absurd h (by simp), fun _ => ⟨fun _ => ?_, fun h => absurd h (by simp)⟩⟩
      refine ⟨[.cut], thawTwo 23 0 24 1 (by decide) (by decide) (v := .slice A 0 0) (n := 0) (cells := []) (t := 55) (size := 12) (v2 := .slice (some ⟨g1, 0, none⟩) 1 (cap1 + 1)) (n2 := 1) (cells2 := vc) (t2 := 55) (size2 := 12) rfl ⟨rfl, by simp, .inl ⟨A, rfl, rfl⟩⟩ rfl ⟨hvl, hvone, .inr ⟨g1, cap1, cur1, rfl, Mem.set_same _ _ _, hf1.1, hnc1, hcm1, hcs1, htk1⟩⟩ (fun b hb => by cases A <;> cases hb) ?_⟩
      exact ⟨by show 0 + 1 ≤ maxLen; omega, by show (0 + 1) * 128 ≤ 140737488355328; omega, fun old => ⟨[], retRes rfl ⟨(by simp : some (Ent.own (0 + 1) ([] ++ vc) 55 12) = some (Ent.own (0 + 1) (([] : List Value).take (0 * 12) ++ vc ++ ([] : List Value).drop (0 * 12)) 55 12)), trivial⟩⟩⟩
    · refine hW.conc (fun b o hb => ?_) (fun b o hb => ?_)
      · rw [Mem.set_other _ _ (by rintro rfl; rw [hf1.1] at hb; cases hb)]; exact hb
      · by_cases h : b = g1
        · subst h; rw [Mem.set_same] at hb; cases hb; exact .inr ⟨⟨1, hb1⟩, hg1⟩
        · rw [Mem.set_other _ _ h] at hb; exact .inl hb
    · refine ⟨hF.size, fun d v hd => ?_, hF.defers⟩
      have h0 := (hF.vals 0 _ rfl).1
      have h1 := (hF.vals 1 _ rfl).1
      have h2 := (hF.vals 2 _ rfl).1
      by_cases hd0 : d = 0
      · subst hd0; rw [look_cons_eq] at hd; cases hd; exact ⟨by rw [h0]; exact hs, rfl⟩
      · rw [look_cons_ne _ _ hd0] at hd
        by_cases hd1 : d = 1
        · subst hd1; rw [look_cons_eq] at hd; cases hd; exact ⟨h1, rfl⟩
        · rw [look_cons_ne _ _ hd1] at hd
          by_cases hd2 : d = 2
          · subst hd2; rw [look_cons_eq] at hd; cases hd; exact ⟨by rw [h2]; exact hv, rfl⟩
          · rw [look_cons_ne _ _ hd2] at hd; cases hd
  · have hb0 : blockOf ρ [(0, .own n cells 55 12), (1, .own 1 vc 55 12)] 0 = some g0 := by show rowBlock (ρ.slv 0) = _; rw [hs]; rfl
    have hf0 := hW.fresh 0 g0 hb0
    have hne : g0 ≠ g1 := by rintro rfl; exact hW.inj 0 1 g0 (by decide) hb0 hb1
    have hgg0 : ((m.set g1 (.cells cur1 55 (0, 0))).set g0 (.cells cur0.toList.toArray 55 (0, 0))) g0 = some (.cells cur0.toList.toArray 55 (0, 0)) := Mem.set_same _ _ _
    have hgg1 : ((m.set g1 (.cells cur1 55 (0, 0))).set g0 (.cells cur0.toList.toArray 55 (0, 0))) g1 = some (.cells cur1 55 (0, 0)) := by rw [Mem.set_other _ _ (Ne.symm hne), Mem.set_same]
    have hcur0 : cur0.toList.length = (cap0 + 1) * 12 := by simpa using hcs0
    have hvget : ∀ j u, vc[j]? = some u → cur1.toList[0 + j]? = some u ∧ u.oneCell' = true := by
      intro j u hu
      refine ⟨?_, hvone u (List.mem_of_getElem? hu)⟩
      rw [← htk1, List.getElem?_take] at hu
      split at hu
      · simpa using hu
      · cases hu
    refine ⟨ρ, [(0, .one (.v (.slice (some ⟨g0, 0, none⟩) n (cap0 + 1)))), (1, ai i), (2, .one (.v (.slice (some ⟨g1, 0, none⟩) 1 (cap1 + 1))))], [], (m.set g1 (.cells cur1 55 (0, 0))).set g0 (.cells cur0.toList.toArray 55 (0, 0)), ?_, ?_, ?_⟩
    · generalize hmm : (m.set g1 (.cells cur1 55 (0, 0))).set g0 (.cells cur0.toList.toArray 55 (0, 0)) = mm at hgg0 hgg1
      have hvr : MemReads mm ⟨g1, 0, none⟩ vc := cellsReads (cur := cur1.toList) (by simpa using hgg1) hvget
      refine ⟨i, n, hi, hnc0, rfl, rfl, ?_⟩
      refine ⟨fun h => absurd h (by simp), fun _ => ⟨fun hin => ?_, fun hin => ?_⟩⟩
      · have hin : i = n := by simp at hin; omega
        subst hin
        refine ⟨[.cut], thawTwo 23 0 24 1 (by decide) (by decide) (v := .slice (some ⟨g0, 0, none⟩) i (cap0 + 1)) (n := i) (cells := cells) (t := 55) (size := 12) (v2 := .slice (some ⟨g1, 0, none⟩) 1 (cap1 + 1)) (n2 := 1) (cells2 := vc) (t2 := 55) (size2 := 12) rfl ⟨hcl, hone, .inr ⟨g0, cap0, cur0.toList.toArray, rfl, hgg0, hf0.1, hnc0, hcm0, by simpa using hcs0, by simpa using htk0⟩⟩ rfl ⟨hvl, hvone, .inr ⟨g1, cap1, cur1, rfl, hgg1, hf1.1, hnc1, hcm1, hcs1, htk1⟩⟩ (fun b hb hb2 => by cases hb; cases hb2; exact hne rfl) ?_⟩
        refine ⟨by show i + 1 ≤ maxLen; omega, by show (i + 1) * 128 ≤ 140737488355328; omega, fun old => ⟨[], retRes rfl ⟨?_, trivial⟩⟩⟩
        show some (Ent.own (i + 1) (cells ++ vc) 55 12) = _
        rw [List.take_of_length_le (by omega), List.drop_eq_nil_of_le (by omega), List.append_nil]
      · have hin : i < n := by simp at hin; omega
        refine ⟨((n + 1 : Nat) : Int), i64_succ (by omega), ⟨fun hgr => ?_, fun hgr => ?_⟩⟩
        · -- no room
          have hgr : cap0 + 1 < n + 1 := by simp at hgr; omega
          refine ⟨0, i, Nat.zero_le _, by omega, rfl, rfl, ?_⟩
          rw [slA (by omega)]
          refine ⟨((n + 1 : Nat) : Int), i64_succ (by omega), ?_⟩
          refine ⟨((n + 1 - i : Nat) : Int), by rw [i64_in _ (by omega)]; omega, ?_⟩
          have hbytes : (i - 0 + (n + 1 - i)) * 128 ≤ 140737488355328 := by omega
          refine handGrow Γok rfl rfl rfl rfl rfl (kn := .i64) rfl (A := some ⟨g0, 0 + 0 * 12, none⟩) (sLen := i - 0) (sCap := cap0 + 1 - 0) (k := n + 1 - i) rfl (kq := .i64) rfl (cur0.toList.take (i * 12)) ?_ (fun _ => ⟨_, rfl, cellsReads hgg0 ?_⟩) (by omega) (by omega) (by omega) hbytes (by decide) rfl ?_
          · rw [List.length_take, hcur0]; show _ = (i - 0) * 12; omega
          · intro j u hu
            have hu2 : cells[j]? = some u := by
              rw [← htk0, List.getElem?_take]
              rw [List.getElem?_take] at hu
              split at hu
              · rw [if_pos (by omega)]; exact hu
              · cases hu
            rw [List.getElem?_take] at hu
            split at hu
            · exact ⟨by simpa using hu, hone u (List.mem_of_getElem? hu2)⟩
            · cases hu
          intro g2 cap2 zs hg2 hge2 hle2 hzl
          have hzl : zs.length = (cap2 - i) * 12 := hzl
          have hn20 : g2 ≠ g0 := by rintro rfl; rw [hgg0] at hg2; cases hg2
          have hn21 : g2 ≠ g1 := by rintro rfl; rw [hgg1] at hg2; cases hg2
          have hm2 : m g2 = none := by
            cases h : m g2 with
            | none => rfl
            | some o => rw [← hmm, Mem.set_other _ _ hn20, Mem.set_other _ _ hn21, h] at hg2; cases hg2
          have hlen2 : (cur0.toList.take (i * 12) ++ zs).length = cap2 * 12 := by rw [List.length_append, List.length_take, hcur0, hzl]; omega
          refine ⟨i, i - 0 + (n + 1 - i), by omega, by omega, rfl, rfl, ?_⟩
          rw [slA (by omega)]
          refine handCopy Γok rfl rfl rfl rfl rfl rfl rfl (cur0.toList.take (i * 12) ++ zs) 55 (Mem.set_same _ _ _) hm2 vc ?_ (fun _ => ⟨_, rfl, cellsReads (cur := cur1.toList) (by rw [Mem.set_other _ _ (Ne.symm hn21)]; simpa using hgg1) hvget⟩) ?_ rfl ?_
          · show vc.length = Nat.min 1 (i - 0 + (n + 1 - i) - i) * 12
            have : Nat.min 1 (i - 0 + (n + 1 - i) - i) = 1 := Nat.min_eq_left (by omega)
            rw [this]; omega
          · show 0 + i * 12 + vc.length ≤ _; rw [hlen2]; omega
          refine draw0 Γok [0, 1, 2, 3, 4, 5, 6, 7] 8 (by kernel_rfl) ?_
          refine ⟨((i + 1 : Nat) : Int), i64_succ (by omega), ?_⟩
          refine ⟨i + 1, i - 0 + (n + 1 - i), by omega, by omega, rfl, rfl, ?_⟩
          rw [slA (by omega)]
          refine ⟨i, n, by omega, by omega, rfl, rfl, ?_⟩
          rw [slA (by omega)]
          have hl1 : (spliceV (0 + i * 12) vc (cur0.toList.take (i * 12) ++ zs)).length = cap2 * 12 := by rw [spliceV_length _ _ _ (by rw [hlen2]; omega), hlen2]
          refine handCopy Γok rfl rfl rfl rfl rfl rfl rfl (spliceV (0 + i * 12) vc (cur0.toList.take (i * 12) ++ zs)) 55 (Mem.set_same _ _ _) hm2 ((cur0.toList.drop (i * 12)).take (n * 12 - i * 12)) ?_ (fun _ => ⟨_, rfl, cellsReads (cur := cur0.toList) (by rw [Mem.set_other _ _ (Ne.symm hn20), Mem.set_other _ _ (Ne.symm hn20)]; exact hgg0) ?_⟩) ?_ rfl ?_
          · show _ = Nat.min (n - i) (i - 0 + (n + 1 - i) - (i + 1)) * 12
            have : Nat.min (n - i) (i - 0 + (n + 1 - i) - (i + 1)) = n - i := Nat.min_eq_left (by omega)
            rw [this, List.length_take, List.length_drop, hcur0]; omega
          · intro j u hu
            rw [List.getElem?_take] at hu
            split at hu
            · rw [List.getElem?_drop] at hu
              refine ⟨by simpa using hu, ?_⟩
              have hu2 : cells[i * 12 + j]? = some u := by rw [← htk0, List.getElem?_take, if_pos (by omega)]; exact hu
              exact hone u (List.mem_of_getElem? hu2)
            · cases hu
          · show 0 + (i + 1) * 12 + _ ≤ _; rw [hl1, List.length_take, List.length_drop, hcur0]; omega
          have hfin := ins_grow cur0.toList vc zs (n * 12) (i * 12) 12 (by omega) (by rw [hcur0]; omega) hvc (by omega)
          rw [htk0] at hfin
          have hidx : 0 + (i + 1) * 12 = i * 12 + 12 := by omega
          refine ⟨[.cut], thawOne 6 0 (v := .slice (some ⟨g2, 0, none⟩) (i - 0 + (n + 1 - i)) cap2) (n := n + 1) (cells := cells.take (i * 12) ++ vc ++ cells.drop (i * 12)) (t := 55) (size := 12) rfl ⟨?_, ?_, .inr ⟨g2, cap2 - 1, (spliceV (0 + (i + 1) * 12) ((cur0.toList.drop (i * 12)).take (n * 12 - i * 12)) (spliceV (0 + i * 12) vc (cur0.toList.take (i * 12) ++ zs))).toArray, ?_, Mem.set_same _ _ _, hm2, by omega, by omega, ?_, ?_⟩⟩ (retRes rfl ⟨rfl, trivial⟩)⟩
          · rw [List.length_append, List.length_append, List.length_take, List.length_drop]; omega
          · intro u hu
            rcases List.mem_append.1 hu with hu | hu
            · rcases List.mem_append.1 hu with hu | hu
              · exact hone u (List.mem_of_mem_take hu)
              · exact hvone u hu
            · exact hone u (List.mem_of_mem_drop hu)
          · rw [show i - 0 + (n + 1 - i) = n + 1 by omega, show cap2 - 1 + 1 = cap2 by omega]
          · rw [List.size_toArray, spliceV_length _ _ _ (by rw [hl1, List.length_take, List.length_drop, hcur0]; omega), hl1]
            congr 1; omega
          · rw [hidx, Nat.zero_add, show (n + 1) * 12 = n * 12 + 12 by omega, ← hfin]
        · -- in place
          have hgr : n + 1 ≤ cap0 + 1 := by simp at hgr; omega
          refine ⟨((n + 1 : Nat) : Int), i64_succ (by omega), 0, n + 1, Nat.zero_le _, hgr, rfl, rfl, ?_⟩
          rw [slA (by omega)]
          refine ⟨((i + 1 : Nat) : Int), i64_succ (by omega), i + 1, n + 1 - 0, by omega, by omega, rfl, rfl, ?_⟩
          rw [slA (by omega)]
          refine ⟨[], callS (f82 mm (a := ⟨g1, 0, none⟩) (b := ⟨g0, 0 + 0 * 12 + (i + 1) * 12, none⟩) (la := 1) (ca := cap1 + 1) (lb := n + 1 - 0 - (i + 1)) (cb := cap0 + 1 - 0 - (i + 1)) hgg1 hgg0 (Ne.symm hne) (by rw [List.size_toArray, hcur0]; omega)) rfl rfl ?_⟩
          refine ⟨fun _ => ?_, fun h => absurd h (by simp)⟩
          have hcsl : ((cur0.toList.drop (i * 12)).take (n * 12 - i * 12)).length = n * 12 - i * 12 := by rw [List.length_take, List.length_drop, hcur0]; omega
          refine draw0 Γok [0, 1, 2, 3, 4, 5, 6, 7] 8 (by kernel_rfl) ?_
          refine ⟨((i + 1 : Nat) : Int), i64_succ (by omega), ?_⟩
          refine ⟨i + 1, n + 1 - 0, by omega, by omega, rfl, rfl, ?_⟩
          rw [slA (by omega)]
          refine ⟨i, n + 1 - 0, by omega, by omega, rfl, rfl, ?_⟩
          rw [slA (by omega)]
          refine handCopy Γok rfl rfl rfl rfl rfl rfl rfl cur0.toList 55 hgg0 hf0.1 ((cur0.toList.drop (i * 12)).take (n * 12 - i * 12)) ?_ (fun _ => ⟨_, rfl, cellsReads (cur := cur0.toList) hgg0 ?_⟩) ?_ rfl ?_
          · show _ = Nat.min (n + 1 - 0 - i) (n + 1 - 0 - (i + 1)) * 12
            have : Nat.min (n + 1 - 0 - i) (n + 1 - 0 - (i + 1)) = n - i := (Nat.min_eq_right (by omega)).trans (by omega)
            rw [this, hcsl]; omega
          · intro j u hu
            rw [List.getElem?_take] at hu
            split at hu
            · rw [List.getElem?_drop] at hu
              refine ⟨by show cur0.toList[0 + 0 * 12 + i * 12 + j]? = _; rw [← hu]; congr 1; omega, ?_⟩
              have hu2 : cells[i * 12 + j]? = some u := by rw [← htk0, List.getElem?_take, if_pos (by omega)]; exact hu
              exact hone u (List.mem_of_getElem? hu2)
            · cases hu
          · show 0 + 0 * 12 + (i + 1) * 12 + _ ≤ _; rw [hcsl, hcur0]; omega
          have hl1 : (spliceV (0 + 0 * 12 + (i + 1) * 12) ((cur0.toList.drop (i * 12)).take (n * 12 - i * 12)) cur0.toList).length = (cap0 + 1) * 12 := by rw [spliceV_length _ _ _ (by rw [hcsl, hcur0]; omega), hcur0]
          refine ⟨i, n + 1 - 0, by omega, by omega, rfl, rfl, ?_⟩
          rw [slA (by omega)]
          refine handCopy Γok rfl rfl rfl rfl rfl rfl rfl (spliceV (0 + 0 * 12 + (i + 1) * 12) ((cur0.toList.drop (i * 12)).take (n * 12 - i * 12)) cur0.toList) 55 (Mem.set_same _ _ _) hf0.1 vc ?_ (fun _ => ⟨_, rfl, cellsReads (cur := cur1.toList) (by rw [Mem.set_other _ _ (Ne.symm hne)]; simpa using hgg1) hvget⟩) ?_ rfl ?_
          · show vc.length = Nat.min 1 (n + 1 - 0 - i) * 12
            have : Nat.min 1 (n + 1 - 0 - i) = 1 := Nat.min_eq_left (by omega)
            rw [this]; omega
          · show 0 + 0 * 12 + i * 12 + vc.length ≤ _; rw [hl1]; omega
          have hfin := ins_room cur0.toList vc (n * 12) (i * 12) 12 (by omega) (by rw [hcur0]; omega) hvc
          rw [htk0] at hfin
          have hi1 : 0 + 0 * 12 + (i + 1) * 12 = i * 12 + 12 := by omega
          have hi2 : 0 + 0 * 12 + i * 12 = i * 12 := by omega
          refine ⟨[.cut], thawOne 6 0 (v := .slice (some ⟨g0, 0 + 0 * 12, none⟩) (n + 1 - 0) (cap0 + 1 - 0)) (n := n + 1) (cells := cells.take (i * 12) ++ vc ++ cells.drop (i * 12)) (t := 55) (size := 12) rfl ⟨?_, ?_, .inr ⟨g0, cap0, (spliceV (0 + 0 * 12 + i * 12) vc (spliceV (0 + 0 * 12 + (i + 1) * 12) ((cur0.toList.drop (i * 12)).take (n * 12 - i * 12)) cur0.toList)).toArray, rfl, Mem.set_same _ _ _, hf0.1, hgr, hcm0, ?_, ?_⟩⟩ (retRes rfl ⟨rfl, trivial⟩)⟩
          · rw [List.length_append, List.length_append, List.length_take, List.length_drop]; omega
          · intro u hu
            rcases List.mem_append.1 hu with hu | hu
            · rcases List.mem_append.1 hu with hu | hu
              · exact hone u (List.mem_of_mem_take hu)
              · exact hvone u hu
            · exact hone u (List.mem_of_mem_drop hu)
          · rw [List.size_toArray, spliceV_length _ _ _ (by rw [hl1]; omega), hl1]
          · rw [hi1, hi2, show (n + 1) * 12 = n * 12 + 12 by omega, ← hfin]
    · refine hW.conc (fun b o hb => ?_) (fun b o hb => ?_)
      · rw [Mem.set_other _ _ (by rintro rfl; rw [hf0.1] at hb; cases hb), Mem.set_other _ _ (by rintro rfl; rw [hf1.1] at hb; cases hb)]; exact hb
      · by_cases h0 : b = g0
        · subst h0; rw [Mem.set_same] at hb; cases hb; exact .inr ⟨⟨0, hb0⟩, by simpa using hg0⟩
        · rw [Mem.set_other _ _ h0] at hb
          by_cases h : b = g1
          · subst h; rw [Mem.set_same] at hb; cases hb; exact .inr ⟨⟨1, hb1⟩, hg1⟩
          · rw [Mem.set_other _ _ h] at hb; exact .inl hb
    · refine ⟨hF.size, fun d v hd => ?_, hF.defers⟩
      have h0 := (hF.vals 0 _ rfl).1
      have h1 := (hF.vals 1 _ rfl).1
      have h2 := (hF.vals 2 _ rfl).1
      by_cases hd0 : d = 0
      · subst hd0; rw [look_cons_eq] at hd; cases hd; exact ⟨by rw [h0]; exact hs, rfl⟩
      · rw [look_cons_ne _ _ hd0] at hd
        by_cases hd1 : d = 1
        · subst hd1; rw [look_cons_eq] at hd; cases hd; exact ⟨h1, rfl⟩
        · rw [look_cons_ne _ _ hd1] at hd
          by_cases hd2 : d = 2
          · subst hd2; rw [look_cons_eq] at hd; cases hd; exact ⟨by rw [h2]; exact hv, rfl⟩
          · rw [look_cons_ne _ _ hd2] at hd; cases hd
end Vc
end
