/-
  A reckoner of what a Go function of the model must meet, and its proof. No condition.
-/
import Derived.Laws.StructEq
import Derived.ChangeKeysEq
import Derived.Lib.AppendZerosOnto
import Derived.Lib.Overlaps
import Derived.Maps.Keyed
import Derived.Lib.Bytealg
import Derived.Test.YtohghogmgnommaaV1
set_option linter.all false
set_option linter.unusedVariables false
set_option linter.unusedSimpArgs false
set_option linter.unusedSectionVars false
section
open Go
namespace Vc
set_option maxHeartbeats 1000000

/-! ### Whatever order is drawn -/
/-- Operation j waits for operation i. -/
def waitsB (ops : Array Oper) : Nat → Nat → Nat → Bool
  | 0, _, _ => false
  | n + 1, j, i => match ops[j]? with
    | none => false
    | some o => o.after.any fun e => Region.binds .any e && (Nat.beq e.on i || waitsB ops n e.on i)

structure Closed (ops : Array Oper) (L : Array Bool) : Prop where
  size : L.size = ops.size
  all : ∀ j o, ops[j]? = some o → L.getD j false = true → ∀ e ∈ o.after, Region.binds .any e = true → L.getD e.on false = true

theorem closed_waits {ops : Array Oper} {L : Array Bool} (h : Closed ops L) {i : Nat} : ∀ n j, waitsB ops n j i = true → L.getD j false = true → L.getD i false = true := by
  intro n
  induction n with
  | zero => intro j hw; cases hw
  | succ n ih =>
    intro j hw hj
    unfold waitsB at hw
    split at hw
    · cases hw
    · rename_i o ho
      rw [Array.any_eq_true'] at hw
      obtain ⟨e, he, hb⟩ := hw
      simp only [Bool.and_eq_true, Bool.or_eq_true] at hb
      have := h.all j o ho hj e he hb.1
      rcases hb.2 with h1 | h1
      · rw [Nat.eq_of_beq_eq_true h1] at this; exact this
      · exact ih e.on h1 this

theorem closed_start (ops : Array Oper) : Closed ops (Array.replicate ops.size false) := by
  refine ⟨by simp, fun j o ho hj => ?_⟩
  simp [Array.getElem?_replicate] at hj
  split at hj <;> simp at hj

theorem Closed.set {ops : Array Oper} {L : Array Bool} (h : Closed ops L) {i : Nat} (hr : i ∈ Region.ready .any ops L) : Closed ops (L.setIfInBounds i true) := by
  obtain ⟨h0, o, ho, hall⟩ := mem_ready.1 hr
  refine ⟨by simpa using h.size, fun j o' ho' hj e he hb => ?_⟩
  apply getD_set_true
  by_cases hij : i = j
  · subst hij
    rw [ho] at ho'
    cases ho'
    exact hall e he hb
  · rw [getD_set_ne false hij] at hj
    exact h.all j o' ho' hj e he hb

theorem ready_not {ops : Array Oper} {L : Array Bool} {i : Nat} (hr : i ∈ Region.ready .any ops L) : L.getD i false = false := by
  obtain ⟨h0, _⟩ := mem_ready.1 hr
  rcases Nat.lt_or_ge i L.size with h' | h'
  · simpa [h'] using h0
  · simp [Array.getElem?_eq_none h']

section
variable {P : Program} {ops : Array Oper} {Q : Exit → Act → World → Prop} {G : Array Bool → World → Prop}

/-- Whatever order is picked from here on, and G holds behind every operation that is carried out. -/
def wpAnyG (P : Program) (ops : Array Oper) (Q : Exit → Act → World → Prop) (G : Array Bool → World → Prop) : Nat → Array Bool → Act → World → Prop
  | 0, L, a, w => Region.ready .any ops L = [] ∧ Q .normal a w
  | fuel + 1, L, a, w =>
    (Region.ready .any ops L = [] → Q .normal a w) ∧
    ∀ i ∈ Region.ready .any ops L, wpOp P ops Q i (fun a' w' => G (L.setIfInBounds i true) w' ∧ wpAnyG P ops Q G fuel (L.setIfInBounds i true) a' w') a w

theorem wpAny_of_G : ∀ (fuel : Nat) (L : Array Bool) (a : Act) (w : World), wpAnyG P ops Q G fuel L a w → wpAny P .any ops Q fuel L a w
  | 0, _, _, _, h => h
  | fuel + 1, _, _, _, h => ⟨h.1, fun i hi => wpOp_mono (fun a' w' h' => wpAny_of_G fuel _ a' w' h'.2) (h.2 i hi)⟩

/-- What holds of the world while operation i has not come up. -/
def SG (ops : Array Oper) (G : Array Bool → World → Prop) (i : Nat) (w : World) : Prop := ∃ L, Closed ops L ∧ L.getD i false = false ∧ G L w

theorem wpAnyG_first {i : Nat} {oi : Oper} {v : Value} (hi : ops[i]? = some oi) (hsel : ∀ (j : Nat) (o : Oper) cs b, ops[j]? = some o → o.op ≠ .select cs b)
    (hQ : ∀ c a w, Q (.panic c) (a.put oi.dst v) w → Q (.panic c) a w) (hG : ∀ L w, G (L.setIfInBounds i true) w ↔ G L w) :
    ∀ (fuel : Nat) (L : Array Bool) (a : Act) (w : World),
      (∀ j oj, ops[j]? = some oj → j ≠ i → L.getD j true = false → (∀ e ∈ oj.after, Region.binds .any e = true → e.on ≠ i) → oi.apart ops oj = true) →
      i ∈ Region.ready .any ops L → Closed ops L → YieldsIf P ops (SG ops G i) oi v a → G L w →
      wpAnyG P ops Q G fuel (L.setIfInBounds i true) (a.put oi.dst v) w → wpAnyG P ops Q G (fuel + 1) L a w := by
  intro fuel
  induction fuel with
  | zero =>
    intro L a w _ hr hcl hy hS H
    refine ⟨fun h => (by rw [h] at hr; cases hr), fun j hj => ?_⟩
    by_cases hji : j = i
    · subst hji; exact hy.wpOp hi ⟨L, hcl, ready_not hr, hS⟩ ⟨(hG L w).2 hS, H⟩
    · have := ready_mono hj hji
      rw [H.1] at this
      cases this
  | succ fuel ih =>
    intro L a w hfree hr hcl hy hS H
    refine ⟨fun h => (by rw [h] at hr; cases hr), fun j hj => ?_⟩
    by_cases hji : j = i
    · subst hji; exact hy.wpOp hi ⟨L, hcl, ready_not hr, hS⟩ ⟨(hG L w).2 hS, H⟩
    · have h1 := H.2 j (ready_mono hj hji)
      obtain ⟨hjun, oj, hoj, hall⟩ := mem_ready.1 hj
      have hnot : ∀ e ∈ oj.after, Region.binds .any e = true → e.on ≠ i := fun e he hb heq => by
        have h1 := hall e he hb
        rw [heq, ready_not hr] at h1
        cases h1
      have h2 := wpOp_putIf hoj (hfree j oj hoj hji hjun hnot) (fun cs b => hsel i oi cs b hi) (fun cs b => hsel j oj cs b hoj) hQ hy h1
      have hfree' : ∀ k ok, ops[k]? = some ok → k ≠ i → (L.setIfInBounds j true).getD k true = false →
          (∀ e ∈ ok.after, Region.binds .any e = true → e.on ≠ i) → oi.apart ops ok = true := fun k ok hk hki hun hno => by
        refine hfree k ok hk hki ?_ hno
        by_cases hjk : j = k
        · subst hjk; exact hjun
        · rw [getD_set_ne true hjk] at hun; exact hun
      refine wpOp_mono (fun a' w' h3 => ?_) h2
      obtain ⟨hy', hg', h4⟩ := h3
      rw [Array.setIfInBounds_comm _ _ (Ne.symm hji)] at hg' h4
      have hg'' := (hG _ _).1 hg'
      exact ⟨hg'', ih (L.setIfInBounds j true) a' w' hfree' (ready_mono hr (Ne.symm hji)) (hcl.set hj) hy' hg'' h4⟩

theorem wpAnyG_take {i : Nat} {oi : Oper} {v : Value} {fuel : Nat} {L : Array Bool} {a : Act} {w : World} (hi : ops[i]? = some oi)
    (hs : Region.noSelect ops = true) (hf : Region.free .any ops L i = true) (hr : (Region.ready .any ops L).contains i = true) (hcl : Closed ops L)
    (hQ : ∀ c a w, Q (.panic c) (a.put oi.dst v) w → Q (.panic c) a w) (hG : ∀ L w, G (L.setIfInBounds i true) w ↔ G L w) (hy : YieldsIf P ops (SG ops G i) oi v a) (hS : G L w)
    (h : wpAnyG P ops Q G fuel (L.setIfInBounds i true) (a.put oi.dst v) w) : wpAnyG P ops Q G (fuel + 1) L a w :=
  wpAnyG_first hi (Region.noSelect_spec hs) hQ hG fuel L a w (Region.free_spec hi hf) (by simpa using hr) hcl hy hS h

theorem wpAnyG_all {rs : List Nat} {fuel : Nat} {L : Array Bool} {a : Act} {w : World} (hr : Region.ready .any ops L = rs) (hne : rs ≠ [])
    (h : ∀ i ∈ rs, wpOp P ops Q i (fun a' w' => G (L.setIfInBounds i true) w' ∧ wpAnyG P ops Q G fuel (L.setIfInBounds i true) a' w') a w) : wpAnyG P ops Q G (fuel + 1) L a w :=
  ⟨fun h0 => absurd (hr ▸ h0) hne, hr ▸ h⟩

theorem wpAnyG_done {L : Array Bool} {a : Act} {w : World} (hr : Region.ready .any ops L = []) (h : Q .normal a w) : ∀ fuel, wpAnyG P ops Q G fuel L a w
  | 0 => ⟨hr, h⟩
  | _ + 1 => ⟨fun _ => h, by rw [hr]; simp⟩
end
end Vc
end

section
open Go
namespace Vc
set_option maxHeartbeats 1000000

/-! ### What an effect leaves alone -/
theorem Mem.le_refl (m : Mem) : m.le m := fun _ _ h => h
theorem Mem.le_trans {m m' m'' : Mem} (h : m.le m') (h' : m'.le m'') : m.le m'' := fun b o hb => h' b o (h b o hb)

/-- K, and the memory has only grown. -/
def andLe (m0 : Mem) (K : Cont) : Cont := fun F B m => K F B m ∧ m0.le m

theorem chk_intro {b : Bool} {p : Prop} (hb : b = true) (h : p) : chk b p := by subst hb; exact h
theorem forceL_intro {l : List Leaf} {K : List Leaf → Prop} (h : K l) : forceL l K := by
  induction l generalizing K with
  | nil => exact h
  | cons x r ih =>
    cases x with
    | kb b => cases b <;> exact ih h
    | _ => exact ih h
theorem force_intro {v : AV} {K : AV → Prop} (h : K v) : force v K := by
  cases v with
  | one l => cases l with
    | kb b => cases b <;> exact h
    | _ => exact h
  | agg ls => exact forceL_intro h
  | _ => exact h

theorem putK_le {E : Env} {d : Option Nat} {v : AV} {F : Fr} {B : Ents} {m m0 : Mem} {K : Cont} (hm : m0.le m) (h : putK E d v F B m K) : putK E d v F B m (andLe m0 K) := by
  cases d with
  | none => exact ⟨h, hm⟩
  | some d =>
    obtain ⟨hd, h⟩ := chk_elim h
    exact chk_intro hd (force_intro ⟨force_elim h, hm⟩)

theorem runSteps_le {st : List Step} : ∀ {K : Cont} {F : Fr} {B : Ents} {m m0 : Mem}, m0.le m → runSteps st K F B m → runSteps st (fun F B m => K F B m ∧ m0.le m) F B m := by
  induction st with
  | nil => intro K F B m m0 hm h; exact ⟨h, hm⟩
  | cons s r ih =>
    intro K F B m m0 hm h
    cases s with
    | freeze i =>
      simp only [runSteps] at h ⊢
      split at h
      · exact fun A c m1 h1 h2 h3 h4 h5 => ih (Mem.le_trans hm (Mem.le_join _ _)) (h A c m1 h1 h2 h3 h4 h5)
      · exact h
    | nilOwn s k e sz =>
      simp only [runSteps] at h ⊢
      split at h
      · exact ih hm h
      · exact h
    | cut => exact h.elim
    | keep ks => exact h.elim
theorem runSteps_mono {st : List Step} : ∀ {K K' : Cont} {F : Fr} {B : Ents} {m : Mem}, (∀ F B m, K F B m → K' F B m) → runSteps st K F B m → runSteps st K' F B m := by
  induction st with
  | nil => intro K K' F B m hk h; exact hk _ _ _ h
  | cons s r ih =>
    intro K K' F B m hk h
    cases s with
    | freeze i =>
      simp only [runSteps] at h ⊢
      split at h
      · exact fun A c m' h1 h2 h3 h4 h5 => ih hk (h A c m' h1 h2 h3 h4 h5)
      · exact h
    | nilOwn s k e sz =>
      simp only [runSteps] at h ⊢
      split at h
      · exact ih hk h
      · exact h
    | cut => exact h.elim
    | keep ks => exact h.elim

theorem storeLeaves_le {E : Env} {F : Fr} {B : Ents} {m : Mem} {x : Option AV} {vs : List Leaf} {K : Cont} (h : storeLeaves E F B m x vs K) : storeLeaves E F B m x vs (andLe m K) := by
  unfold storeLeaves at h ⊢
  split at h
  · split at h
    · obtain ⟨h1, h2⟩ := chk_elim h
      exact chk_intro h1 (forceL_intro ⟨forceL_elim h2, Mem.le_refl m⟩)
    · exact h
  · split at h
    · split at h
      · obtain ⟨h1, h2, h3⟩ := chk_elim h
        exact chk_intro h1 ⟨h2, h3, Mem.le_refl m⟩
      · exact h
    · exact h
  · exact h

theorem srcCells_mono {E : Env} {size : Nat} {B : Ents} {m : Mem} {x : AV} {K K' : Nat → List Value → Prop} (hk : ∀ n l, K n l → K' n l) (h : srcCells E size B m x K) : srcCells E size B m x K' := by
  unfold srcCells at h ⊢
  split at h
  · split at h
    · obtain ⟨h1, h2⟩ := chk_elim h
      exact chk_intro h1 (hk _ _ h2)
    · exact h
  · obtain ⟨cells, h1, h2, h3⟩ := h
    exact ⟨cells, h1, h2, hk _ _ h3⟩
  · exact h

theorem appendK_le {E : Env} {d : Option Nat} {t : TypeId} {s x : AV} {F : Fr} {B : Ents} {m : Mem} {K : Cont} (h : appendK E d t s x F B m K) : appendK E d t s x F B m (andLe m K) := by
  unfold appendK at h ⊢
  split at h
  · split at h
    · split at h
      · split at h
        · refine srcCells_mono (fun n l hh => ?_) h
          obtain ⟨h1, h2, h3⟩ := hh
          obtain ⟨h4, h5⟩ := chk_elim h3
          obtain ⟨h6, h7⟩ := chk_elim h5
          obtain ⟨h8, h9⟩ := chk_elim h7
          exact ⟨h1, h2, chk_intro h4 (chk_intro h6 (chk_intro h8 fun old => ⟨h9 old, Mem.le_refl m⟩))⟩
        · exact h
      · obtain ⟨h0, hc, h⟩ := h
        refine ⟨h0, hc, srcCells_mono (fun n l hh => ?_) h⟩
        obtain ⟨h1, h2, h3⟩ := hh
        obtain ⟨h4, h5⟩ := chk_elim h3
        obtain ⟨h6, h7⟩ := chk_elim h5
        exact ⟨h1, h2, chk_intro h4 (chk_intro h6 ⟨h7, Mem.le_refl m⟩)⟩
      · exact h
    · exact h
  · exact h

/-- The world behind an operation still holds the memory, and the blocks of the local boxes ws are as they were. -/
def Kept (ρ : Val) (B : Ents) (ws : List Nat) (W W' : World) : Prop := ∀ b ∈ ws, ∀ c t, look b B = some (.box c t) → W'.heap[ρ.blk b]? = W.heap[ρ.blk b]?

/-- A call that leaves the local boxes ws alone. -/
structure KeptNode (E : Env) (f : FuncId) (args : List AV) (ws : List Nat) (d : Option Nat) (F : Fr) (B : Ents) (m : Mem) (K : Cont) (Q : SPost) : Prop where
  out : ∀ ρ W, WS E ρ B m W → Invk E.P f (args.map (AV.con ρ)) W (fun e W' => Kept ρ B ws W W' ∧ CallEnd E ρ d F m K Q e W')

/-- A call that only reads. -/
structure PureNode (E : Env) (f : FuncId) (args : List AV) (d : Option Nat) (F : Fr) (B : Ents) (m : Mem) (K : Cont) : Prop where
  out : ∀ ρ W, WS E ρ B m W → Invk E.P f (args.map (AV.con ρ)) W (fun e W' => Below W W' ∧ ∃ u, e = .returned (AV.con ρ u) ∧ u.ok m ∧ putK E d u F B m K)

def notIn (b : Nat) : List Nat → Bool
  | [] => true
  | c :: r => (match Nat.beq b c with | true => false | false => notIn b r)
theorem notIn_spec {b : Nat} {l : List Nat} (h : notIn b l = true) : b ∉ l := by
  induction l with
  | nil => simp
  | cons c r ih =>
    simp only [notIn] at h
    cases hb : Nat.beq b c with
    | true => rw [hb] at h; cases h
    | false =>
      rw [hb] at h
      simp only [List.mem_cons, not_or]
      exact ⟨fun he => by subst he; simp at hb, ih h⟩

def vcEff (E : Env) (o : Oper) (ws : List Nat) (K : Cont) (Q : SPost) (F : Fr) (B : Ents) (m : Mem) : Prop :=
  match o.op with
  | .alloc _ | .box .. | .buildSlice .. => vcOp E o K Q F B m
  | .store _ x _ => (match ev F x with
    | some (.one (.ptr b _)) => (match notIn b ws with | true => vcOp E o K Q F B m | false => False)
    | some (.one (.optr _ _)) => vcOp E o K Q F B m
    | _ => False)
  | .call c => (match c.callee with
    | .builtin .append => (match evs F c.args.toList with
      | some [s, x] => (match c.argTypes.toList with
        | [t1, t2] => (match sliceElem E.Γ t2 with
          | some _ => appendK E o.dst t1 s x F B m K
          | none => False)
        | _ => False)
      | _ => False)
    | .builtin .len | .builtin .max | .builtin .min => vcOp E o K Q F B m
    | .value f => (match ev F f, evs F c.args.toList with
      | some (.one (.fn g caps)), some avs => forceAVs (avs ++ caps.map capAV) fun avs => KeptNode E g avs ws o.dst F B m K Q
      | _, _ => False)
    | _ => False)
  | _ => (match quietOp o.op with | true => vcOp E o K Q F B m | false => False)

def Ran (P : Program) (o : Oper) (a : Act) (W : World) (X : World → Prop) : Prop :=
  (∃ v W', (execOp a.eval o).run P W = .ok (.value v) W' ∧ X W') ∨ ∃ W', (execOp a.eval o).run P W = .ok .skip W' ∧ X W'

def SameTmps (o : Oper) (a a' : Act) : Prop := ∀ r, o.dst ≠ some r → a'.tmps.getD r undef = a.tmps.getD r undef
theorem sameTmps_put (o : Oper) (a : Act) (v : Value) : SameTmps o a (a.put o.dst v) := by
  intro r hr
  cases hd : o.dst with
  | none => rfl
  | some d =>
    have : d ≠ r := by rintro rfl; exact hr hd
    simp [Act.put, Array.getD_eq_getD_getElem?, Array.getElem?_setIfInBounds_ne this]

theorem wp_ran {P : Program} {o : Oper} {a : Act} {W : World} {X : World → Prop} {K : Act → World → Prop} {Q : Exit → Act → World → Prop} (hr : Ran P o a W X) (h : o.wp P a W K Q) :
    o.wp P a W (fun a' W' => K a' W' ∧ X W' ∧ SameTmps o a a') Q := by
  unfold Oper.wp at *
  rcases hr with ⟨v, W', hr, hx⟩ | ⟨W', hr, hx⟩
  · rw [hr] at h ⊢; exact ⟨h, hx, sameTmps_put o a v⟩
  · rw [hr] at h ⊢; exact ⟨h, hx, sameTmps_put o a undef⟩

section
variable {E : Env} (hΓ : TypesOk E.P E.Γ) {ρ : Val} {B : Ents} {m : Mem} {F : Fr} {a : Act} {W : World} {K : Cont} {Q : SPost} (hW : WS E ρ B m W) (hF : FS E ρ m F a)
include hΓ hW hF

omit hΓ hF in
theorem kept_alloc (ws : List Nat) (o : Obj) : Kept ρ B ws W (W.alloc o) := by
  intro b _ c t hb
  exact heap_alloc_old W o _ (hW.block_lt (i := b) (by unfold blockOf; rw [hb]; rfl))
omit hΓ hF in
theorem kept_grew (ws : List Nat) {W' : World} {row : Option Nat} (hg : Grew W W' row) (hrow : ∀ b c t, look b B = some (.box c t) → row ≠ some (ρ.blk b)) : Kept ρ B ws W W' := by
  intro b _ c t hb
  exact hg.old _ (hW.block_lt (i := b) (by unfold blockOf; rw [hb]; rfl)) (fun h => hrow b c t hb h.symm)

theorem store_ran {ws : List Nat} {o : Oper} {t : TypeId} {x y : Operand} (ho : o.op = .store t x y) (h : vcOp E o K Q F B m) (hx : (∃ b off, ev F x = some (.one (.ptr b off)) ∧ b ∉ ws) ∨ ∃ b off, ev F x = some (.one (.optr b off))) :
    Ran E.P o a W (Kept ρ B ws W) := by
  unfold vcOp at h
  rw [ho] at h
  simp only at h
  split at h
  · rename_i vs hy
    split at h
    · rename_i ti ht
      split at h
      · rename_i hd
        obtain ⟨hsz, h1⟩ := chk_elim h
        have hT := hΓ t ti ht
        have hsz := Nat.eq_of_beq_eq_true hsz
        rw [lenL_eq] at hsz
        cases hv : ev F y with
        | none => rw [hv] at hy; cases hy
        | some v =>
          rw [hv] at hy
          obtain ⟨hey, hok⟩ := ev_con hF hv
          obtain ⟨hc, hokl⟩ := cells_av (ρ := ρ) hy hok
          have hcs : (v.con ρ).cells.size = ti.size := by rw [← Array.length_toList, hc]; simpa [conL] using hsz
          right
          unfold storeLeaves at h1
          rcases hx with ⟨i, off, hx, hni⟩ | ⟨i, off, hx⟩
          · rw [hx] at h1
            obtain ⟨he, _⟩ := ev_con hF hx
            simp only at h1
            split at h1
            · rename_i cells ty hB
              obtain ⟨hle, h2⟩ := chk_elim h1
              have hle := Nat.le_of_ble_eq_true hle
              rw [lenL_eq, lenL_eq] at hle
              obtain ⟨hh, hokc⟩ := hW.box hB
              have hr := run_storeAt hT W (ρ.blk i) off ty (conL ρ cells) hh (v.con ρ) hcs (by rw [hc]; simpa [conL] using hle) (by rw [hc]; exact okL_con hokl)
              have hrun : (execOp a.eval o).run E.P W = .ok .skip (setBlock W (ρ.blk i) (.cells (spliceV off (v.con ρ).cells.toList (conL ρ cells)).toArray ty (0, 0))) := by
                simp only [execOp, ho, Sem.run_bind, he, hey]
                rw [show AV.con ρ (.one (.ptr i off)) = .pointer (some ⟨ρ.blk i, off, none⟩) from rfl, hr]; rfl
              refine ⟨_, hrun, ?_⟩
              · intro b hb c t' hbb
                refine setBlock_other _ _ _ _ (fun hbe => ?_)
                have hne : b ≠ i := by rintro rfl; exact hni hb
                refine hW.inj b i (ρ.blk i) hne ?_ ?_
                · unfold blockOf; rw [hbb]; simp [Ent.block, hbe]
                · unfold blockOf; rw [hB]; rfl
            · exact h1.elim
          · rw [hx] at h1
            obtain ⟨he, _⟩ := ev_con hF hx
            simp only at h1
            split at h1
            · rename_i n cells e sz hB
              split at h1
              · rename_i us hus
                obtain ⟨hpos, hle, h2⟩ := chk_elim h1
                obtain ⟨hown, hone⟩ := hW.own hB
                have hcon := vals?_con (ρ := ρ) hus
                rw [hcon] at hc
                rcases hown.2 with ⟨A0, hv0, h0⟩ | ⟨g, cap, cur, hv0, hg, hnc, hcm, hccs, htk⟩
                · exfalso
                  have hcl : cells = [] := List.eq_nil_of_length_eq_zero (by rw [hown.1, h0]; simp)
                  rw [hcl] at hle
                  have hpos' : 0 < lenL vs := by simpa using hpos
                  rw [lenL_eq] at hpos'
                  simp only [List.length_nil] at hle
                  have : us.length = vs.length := by rw [← hcon]; simp [conL]
                  omega
                · have hs1 : (ρ.sl i).1 = some ⟨g, 0, none⟩ := by simp only [Val.slv, Value.slice.injEq] at hv0; exact hv0.1
                  have hg' : W.heap[g]? = some (.cells cur.toList.toArray e (0, 0)) := by simpa using hg
                  have hcl : cells.length = n * sz := hown.1
                  have hcurlen : n * sz ≤ cur.toList.length := by rw [Array.length_toList, hccs]; exact Nat.mul_le_mul_right _ hnc
                  have hr := run_storeAt hT W g off e cur.toList hg' (v.con ρ) hcs (by rw [hc]; omega) (by rw [hc]; intro u hu; have := okL_con (ρ := ρ) hokl; rw [hcon] at this; exact this u hu)
                  have hadd : Addr.add ⟨g, 0, none⟩ off = ⟨g, off, none⟩ := by rw [addr_add rfl]; simp
                  have hrun : (execOp a.eval o).run E.P W = .ok .skip (setBlock W g (.cells (spliceV off (v.con ρ).cells.toList cur.toList).toArray e (0, 0))) := by
                    simp only [execOp, ho, Sem.run_bind, he, hey]
                    rw [show AV.con ρ (.one (.optr i off)) = .pointer (some ⟨g, off, none⟩) from by simp only [AV.con, Leaf.con, hs1, Option.map_some, hadd], hr]; rfl
                  refine ⟨_, hrun, ?_⟩
                  · intro b hb c t' hbb
                    refine setBlock_other _ _ _ _ (fun hbe => ?_)
                    have hne : b ≠ i := by rintro rfl; rw [hB] at hbb; cases hbb
                    refine hW.inj b i g hne ?_ ?_
                    · unfold blockOf; rw [hbb]; simp [Ent.block, hbe]
                    · unfold blockOf; rw [hB]; simp [Ent.block, hv0, rowBlock]
              · exact h1.elim
            · exact h1.elim
      · exact h.elim
    · exact h.elim
  · exact h.elim
end
end Vc
end

section
open Go
namespace Vc
set_option maxHeartbeats 1000000
set_option linter.unusedSectionVars false

section
variable {E : Env} (hΓ : TypesOk E.P E.Γ) {ρ : Val} {B : Ents} {m : Mem} {F : Fr} {a : Act} {W : World} {K : Cont} {Q : SPost} (hW : WS E ρ B m W) (hF : FS E ρ m F a)
include hΓ hW hF

theorem alloc_ran {ws : List Nat} {o : Oper} {t : TypeId} (ho : o.op = .alloc t) (h : vcOp E o K Q F B m) : Ran E.P o a W (Kept ρ B ws W) := by
  unfold vcOp at h
  rw [ho] at h
  simp only at h
  split at h
  · rename_i ti d ht hd
    have hT := hΓ t ti ht
    obtain ⟨z, hz, hzc⟩ := hT.run_zero W
    refine .inl ⟨.pointer (some ⟨W.heap.size, 0, none⟩), W.alloc (.cells z.cells t), ?_, kept_alloc hW ws _⟩
    simp only [execOp, ho, Instr.alloc, Sem.run_bind, hz, Result.andThen_ok, newVar, newRow, run_newObj, Sem.run_pure]
    rfl
  · exact h.elim

theorem box_ran {ws : List Nat} {o : Oper} {t : TypeId} {x : Operand} (ho : o.op = .box t x) (h : vcOp E o K Q F B m) : Ran E.P o a W (Kept ρ B ws W) := by
  refine .inl ⟨.pointer (some ⟨W.heap.size, 0, none⟩), W.alloc (.cells (a.eval x).cells t), ?_, kept_alloc hW ws _⟩
  simp only [execOp, ho, Instr.box, Sem.run_bind, newVar, newRow, run_newObj, Result.andThen_ok, Sem.run_pure]
  rfl

theorem buildSlice_ran {ws : List Nat} {o : Oper} {t : TypeId} {len : Nat} {parts : Array (Nat × Operand)} (ho : o.op = .buildSlice t len parts) (h : vcOp E o K Q F B m) : Ran E.P o a W (Kept ρ B ws W) := by
  unfold vcOp at h
  rw [ho] at h
  simp only at h
  split at h
  · rename_i e te d hse hd
    obtain ⟨hu, hE, _⟩ := sliceElem_spec hΓ hse
    obtain ⟨st, h⟩ := h
    obtain ⟨ρ2, F2, B2, m2, hK, hW2, hF2⟩ := runSteps_sound hW hF h
    split at hK
    · rename_i ls hfill
      split at hK
      · rename_i us hus
        obtain ⟨hdN, h1⟩ := chk_elim hK
        obtain ⟨hnm, h2⟩ := chk_elim h1
        obtain ⟨hle, h3⟩ := chk_elim h2
        obtain ⟨hpos, h4⟩ := chk_elim h3
        have hle := Nat.le_of_ble_eq_true hle
        have hpos : 0 < te.size := by simpa using hpos
        obtain ⟨hr, hok, hlen⟩ := run_buildSlice hu hE hpos len hle hF2 parts.toList hfill W
        refine .inl ⟨.slice (some ⟨W.heap.size, 0, none⟩) len len, W.alloc (.cells (conL ρ2 ls).toArray e), ?_, kept_alloc hW ws _⟩
        simp only [execOp, ho, Sem.run_bind]
        rw [show (Array.map (fun x : Nat × Operand => match x with | (i, x) => (i, a.eval x)) parts) = parts.toList.toArray.map fun p => (p.1, a.eval p.2) from by simp]
        rw [hr]
        rfl
      · exact hK.elim
    · exact hK.elim
  · exact h.elim

omit hF in
theorem appendK_kept {ws : List Nat} {d : Option Nat} {t1 t2 ty : TypeId} {s x : AV} (ht2 : ∃ ti2 e2, look t2 E.Γ = some ti2 ∧ ti2.kind = .slice e2) (h : appendK E d t1 s x F B m K) {v : Value} {W' : World}
    (hr : (Builtin.append_ #[t1, t2] ty #[s.con ρ, x.con ρ]).run E.P W = .ok v W') : Kept ρ B ws W W' := by
  obtain ⟨ti2, e2, ht2, hk2⟩ := ht2
  unfold appendK at h
  split at h
  · rename_i e _ _ _ d' hlt
    have hT := hΓ t1 _ hlt
    split at h
    · rename_i te hle
      have hE := hΓ e _ hle
      split at h
      · rename_i i
        split at h
        · rename_i n cells e' sz hB
          obtain ⟨A, n', c', news, hxc, hnl, hns, hone, h63, hb, h⟩ := srcCells_sound hW h
          obtain ⟨he, h'⟩ := chk_elim h
          obtain ⟨hsz, h''⟩ := chk_elim h'
          have he := Nat.eq_of_beq_eq_true he
          have hsz := Nat.eq_of_beq_eq_true hsz
          subst he hsz
          obtain ⟨hown, hone0⟩ := hW.own hB
          obtain ⟨A', c2, W2, hr2, hown', hgrew, hrb⟩ := append_own (ty := ty) (c := c') hT rfl (hΓ t2 _ ht2) hk2 hE W (ρ.slv i) n cells hown A n' news hnl hns hone h63 hb hE.zsize
          rw [← hxc] at hr2
          have hr' : (Builtin.append_ #[t1, t2] ty #[AV.con ρ (.one (.own i)), x.con ρ]).run E.P W = .ok v W' := hr
          rw [show AV.con ρ (.one (.own i)) = ρ.slv i from rfl, hr2] at hr'
          simp only [Result.ok.injEq] at hr'
          obtain ⟨_, rfl⟩ := hr'
          refine kept_grew hW ws hgrew (fun b c t hbb hrow => ?_)
          have hne : b ≠ i := by rintro rfl; rw [hB] at hbb; cases hbb
          refine hW.inj b i (ρ.blk b) hne ?_ ?_
          · unfold blockOf; rw [hbb]; rfl
          · unfold blockOf; rw [hB]; exact hrow
        · exact h.elim
      · rename_i A0 n0 c0
        obtain ⟨hn0, hc0, h⟩ := h
        subst hn0 hc0
        obtain ⟨A, n', c', news, hxc, hnl, hns, hone, h63, hb, h⟩ := srcCells_sound hW h
        have hown : OwnRow W e te.size (.slice A0 0 0) 0 [] := ⟨by simp, .inl ⟨A0, rfl, rfl⟩⟩
        obtain ⟨A', c2, W2, hr2, hown', hgrew, hrb⟩ := append_own (ty := ty) (c := c') hT rfl (hΓ t2 _ ht2) hk2 hE W (.slice A0 0 0) 0 [] hown A n' news hnl hns hone (by omega) (by rw [Nat.zero_add]; exact hb) hE.zsize
        have hrow : rowBlock (.slice A0 0 0) = none := by cases A0 <;> rfl
        rw [hrow] at hgrew
        rw [← hxc] at hr2
        have hr' : (Builtin.append_ #[t1, t2] ty #[.slice A0 0 0, x.con ρ]).run E.P W = .ok v W' := hr
        rw [hr2] at hr'
        simp only [Result.ok.injEq] at hr'
        obtain ⟨_, rfl⟩ := hr'
        exact kept_grew hW ws hgrew (fun b c t hbb hrow => by cases hrow)
      · exact h.elim
    · exact h.elim
  · exact h.elim

theorem append_ran {ws : List Nat} {o : Oper} {c : Call} {t1 t2 : TypeId} {s x : AV} {es : Nat × TInfo} (ho : o.op = .call c) (hcal : c.callee = .builtin .append) (hx : evs F c.args.toList = some [s, x]) (hty : c.argTypes.toList = [t1, t2])
    (hse : sliceElem E.Γ t2 = some es) (h : appendK E o.dst t1 s x F B m K) :
    o.wp E.P a W (fun a' W' => Post E K a' W' ∧ Kept ρ B ws W W' ∧ SameTmps o a a') (QQ E Q) := by
  obtain ⟨e2, te2⟩ := es
  obtain ⟨_, _, hti⟩ := sliceElem_spec hΓ hse
  obtain ⟨ti2, ht2, hk2⟩ := hti
  obtain ⟨v, W', hr, hP⟩ := appendK_sound (ty := o.type) (t2 := t2) hΓ hW hF ⟨ti2, e2, ht2, hk2⟩ h
  obtain ⟨hev, _⟩ := evs_con hF hx
  have hargs : c.args.map a.eval = #[s.con ρ, x.con ρ] := by
    apply Array.ext'
    rw [Array.toList_map, hev]; simp
  have hat : c.argTypes = #[t1, t2] := by apply Array.ext'; rw [hty]
  have hrun : (execOp a.eval o).run E.P W = .ok (.value v) W' := by
    simp only [execOp, ho, resolve, hcal, Sem.run_bind, Sem.run_pure, Result.andThen_ok, invoke, builtin, hargs, hat, hr]
  have hkept := appendK_kept (ws := ws) hΓ hW ⟨ti2, e2, ht2, hk2⟩ h hr
  unfold Oper.wp
  rw [hrun]
  exact ⟨hP, hkept, sameTmps_put o a v⟩

omit hΓ in
theorem kept_call {ws : List Nat} {o : Oper} {f : FuncId} {args : List AV} (hr : (execOp a.eval o).run E.P W = (callFunc f (args.map (AV.con ρ)).toArray).run E.P W) (h : KeptNode E f args ws o.dst F B m K Q) :
    o.wp E.P a W (fun a' W' => Post E (andLe m K) a' W' ∧ Kept ρ B ws W W' ∧ SameTmps o a a') (QQ E Q) := by
  unfold Oper.wp
  rw [hr]
  have hpanic : ∀ ch W', CallEnd E ρ o.dst F m K Q (.panicked ch) W' → QQ E Q (.panic ch) a W' := by
    rintro ch W' ⟨ρ', B', m', hm, hag, hW', hQ⟩
    exact ⟨ρ', F, B', m', hQ, hW', (hF.mono hm).agree hag⟩
  have hret : ∀ v W', CallEnd E ρ o.dst F m K Q (.returned v) W' → Post E (andLe m K) (a.put o.dst v) W' := by
    rintro v W' ⟨ρ', B', m', u, rfl, hok, hm, hag, hW', hK⟩
    exact putK_sound hW' ((hF.mono hm).agree hag) hok (putK_le hm hK)
  rcases h.out ρ W hW with ⟨hrun, hc⟩ | ⟨v, W', hrun, hk, hc⟩
  · rw [hrun]
    simp only [Oper.upon]
    refine hc.mono fun e W' he => ?_
    obtain ⟨hk, he⟩ := he
    cases e with
    | returned v => exact ⟨hret v W' he, hk, sameTmps_put o a v⟩
    | panicked ch => exact hpanic ch W' he
    | outgrown => exact he.elim
  · rw [hrun]
    exact ⟨hret v W' hc, hk, sameTmps_put o a v⟩

theorem eff_sound {ws : List Nat} {o : Oper} (h : vcEff E o ws K Q F B m) : o.wp E.P a W (fun a' W' => Post E (andLe m K) a' W' ∧ Kept ρ B ws W W' ∧ SameTmps o a a') (QQ E Q) := by
  have hquiet : ∀ (hq : quietOp o.op = true) (h : vcOp E o K Q F B m), o.wp E.P a W (fun a' W' => Post E (andLe m K) a' W' ∧ Kept ρ B ws W W' ∧ SameTmps o a a') (QQ E Q) := by
    intro hq h
    cases hlk : looksAt F o.op with
    | nothing =>
      obtain ⟨v, h1, h2, h3⟩ := vcOp_quiet hΓ hW hF hq h hlk
      exact wp_value (h3 W trivial) ⟨putK_sound hW hF h1 (putK_le (Mem.le_refl m) h2), fun _ _ _ _ _ => rfl, sameTmps_put o a _⟩
    | mem =>
      obtain ⟨v, h1, h2, h3⟩ := vcOp_quiet hΓ hW hF hq h hlk
      exact wp_value (h3 W hW.mem) ⟨putK_sound hW hF h1 (putK_le (Mem.le_refl m) h2), fun _ _ _ _ _ => rfl, sameTmps_put o a _⟩
    | box i =>
      obtain ⟨v, h1, h2, h3⟩ := vcOp_quiet hΓ hW hF hq h hlk
      exact wp_value (h3 W (fun c t hb => (hW.box hb).1)) ⟨putK_sound hW hF h1 (putK_le (Mem.le_refl m) h2), fun _ _ _ _ _ => rfl, sameTmps_put o a _⟩
    | other =>
      obtain ⟨v, h1, h2, h3⟩ := vcOp_quiet hΓ hW hF hq h hlk
      exact wp_value (h3 W rfl) ⟨putK_sound hW hF h1 (putK_le (Mem.le_refl m) h2), fun _ _ _ _ _ => rfl, sameTmps_put o a _⟩
  have h0 := h
  unfold vcEff at h
  split at h
  · rename_i t ho
    refine wp_ran (alloc_ran hΓ hW hF ho h) (vcOp_sound hΓ hW hF ?_)
    unfold vcOp at h ⊢
    rw [ho] at h ⊢
    simp only at h ⊢
    split at h
    · obtain ⟨h1, h2⟩ := chk_elim h
      obtain ⟨h3, h4⟩ := chk_elim h2
      obtain ⟨h5, h6⟩ := chk_elim h4
      exact chk_intro h1 (chk_intro h3 (chk_intro h5 (forceL_intro ⟨forceL_elim h6, Mem.le_refl m⟩)))
    · exact h
  · rename_i t x ho
    refine wp_ran (box_ran hΓ hW hF ho h) (vcOp_sound hΓ hW hF ?_)
    unfold vcOp at h ⊢
    rw [ho] at h ⊢
    simp only at h ⊢
    split at h
    · obtain ⟨h1, h2⟩ := chk_elim h
      obtain ⟨h3, h4⟩ := chk_elim h2
      obtain ⟨h5, h6⟩ := chk_elim h4
      obtain ⟨h7, h8⟩ := chk_elim h6
      exact chk_intro h1 (chk_intro h3 (chk_intro h5 (chk_intro h7 (forceL_intro ⟨forceL_elim h8, Mem.le_refl m⟩))))
    · exact h
  · rename_i t len parts ho
    refine wp_ran (buildSlice_ran hΓ hW hF ho h) (vcOp_sound hΓ hW hF ?_)
    unfold vcOp at h ⊢
    rw [ho] at h ⊢
    simp only at h ⊢
    split at h
    · obtain ⟨st, h⟩ := h
      refine ⟨st, runSteps_mono (fun F' B' m' hh => ?_) (runSteps_le (Mem.le_refl m) h)⟩
      obtain ⟨hh, hm⟩ := hh
      split at hh
      · split at hh
        · obtain ⟨h1, h2⟩ := chk_elim hh
          obtain ⟨h3, h4⟩ := chk_elim h2
          obtain ⟨h5, h6⟩ := chk_elim h4
          obtain ⟨h7, h8⟩ := chk_elim h6
          exact chk_intro h1 (chk_intro h3 (chk_intro h5 (chk_intro h7 ⟨h8, hm⟩)))
        · exact hh
      · exact hh
    · exact h
  · rename_i t x y ho
    have hmono : vcOp E o K Q F B m → vcOp E o (andLe m K) Q F B m := by
      intro h
      unfold vcOp at h ⊢
      rw [ho] at h ⊢
      simp only at h ⊢
      split at h
      · split at h
        · split at h
          · obtain ⟨h1, h2⟩ := chk_elim h
            exact chk_intro h1 (storeLeaves_le h2)
          · exact h
        · exact h
      · exact h
    split at h
    · rename_i b off hx
      split at h
      · rename_i hni
        exact wp_ran (store_ran hΓ hW hF ho h (.inl ⟨b, off, hx, notIn_spec hni⟩)) (vcOp_sound hΓ hW hF (hmono h))
      · exact h.elim
    · rename_i b off hx
      exact wp_ran (store_ran hΓ hW hF ho h (.inr ⟨b, off, hx⟩)) (vcOp_sound hΓ hW hF (hmono h))
    · exact h.elim
  · rename_i c ho
    split at h
    · rename_i hcal
      split at h
      · rename_i s x hx
        split at h
        · rename_i t1 t2 hty
          split at h
          · rename_i es hse
            exact append_ran hΓ hW hF ho hcal hx hty hse (appendK_le h)
          · exact h.elim
        · exact h.elim
      · exact h.elim
    · rename_i hcal
      exact hquiet (by rw [ho]; simp [quietOp, hcal]) h
    · rename_i hcal
      exact hquiet (by rw [ho]; simp [quietOp, hcal]) h
    · rename_i hcal
      exact hquiet (by rw [ho]; simp [quietOp, hcal]) h
    · rename_i f hcal
      split at h
      · rename_i g caps avs hf hx
        obtain ⟨hev, _⟩ := evs_con hF hx
        obtain ⟨hef, _⟩ := ev_con hF hf
        refine kept_call hW hF (ρ := ρ) ?_ (forceAVs_elim h)
        have hargs : c.args.map a.eval = (avs.map (AV.con ρ)).toArray := by
          apply Array.ext'
          rw [Array.toList_map, hev]
        have hcaps : ∀ l : List Cap, (l.map capAV).map (AV.con ρ) = l.map (Cap.con ρ) := by
          intro l
          rw [List.map_map]
          apply List.map_congr_left
          intro cp _
          cases cp with
          | v x =>
            simp only [Function.comp, capAV, ofValue, Cap.con]
            split
            · simp [AV.con, conL_vmap]
            · rfl
          | ptr i off => rfl
        simp only [execOp, ho, resolve, hcal, hef, AV.con, Leaf.con, Deferred.ofValue, Sem.run_bind, Sem.run_pure, Result.andThen_ok, invoke, hargs, List.map_append, hcaps]
        simp
      · exact h.elim
    · exact h.elim
  · split at h
    · rename_i hq
      exact hquiet hq h
    · exact h.elim
end
end Vc
end

section
open Go
namespace Vc
set_option maxHeartbeats 1000000

/-! ### A region that draws, along a plan -/
inductive Sch where
  | done
  | take (i : Nat) (r : Sch)
  | pcall (i : Nat) (r : Sch)
  | one (i : Nat) (ws : List Nat) (r : Sch)
  | two (i : Nat) (ws : List Nat) (r : Sch) (j : Nat) (ws' : List Nat) (r' : Sch)

def keepOk (ops : Array Oper) (tk : List (Nat × Nat)) (eff : List Nat) (L : Array Bool) (ws : List Nat) : Bool :=
  tk.all fun p => ws.contains p.2 || eff.any fun j => L.getD j false && waitsB ops ops.size j p.1
def quietAt (ops : Array Oper) (i : Nat) : Bool := match ops[i]? with | some o => quietOp o.op | none => false

/-- The plan meets every order that the region may be given. -/
def schOk (ops : Array Oper) (tk : List (Nat × Nat)) (eff : List Nat) : Nat → Bool → Sch → Array Bool → Bool
  | _, _, .done, L => (Region.ready .any ops L).isEmpty
  | n + 1, ph, .take i r, L => Region.free .any ops L i && (Region.ready .any ops L).contains i && !eff.contains i && quietAt ops i && schOk ops tk eff n ph r (L.setIfInBounds i true)
  | n + 1, ph, .pcall i r, L => ph && Region.ready .any ops L == [i] && schOk ops tk eff n true r (L.setIfInBounds i true)
  | n + 1, _, .one i ws r, L => Region.ready .any ops L == [i] && keepOk ops tk eff (L.setIfInBounds i true) ws && schOk ops tk eff n false r (L.setIfInBounds i true)
  | n + 1, _, .two i ws r j ws' r', L => Region.ready .any ops L == [i, j] && keepOk ops tk eff (L.setIfInBounds i true) ws && schOk ops tk eff n false r (L.setIfInBounds i true) && keepOk ops tk eff (L.setIfInBounds j true) ws' && schOk ops tk eff n false r' (L.setIfInBounds j true)
  | _, _, _, _ => false

def noDst (ops : Array Oper) (r : Nat) : Bool := ops.all fun o => match o.dst with | some d => !Nat.beq d r | none => true
def planOk (ops : Array Oper) (tk : List (Nat × Nat)) (eff : List Nat) (s : Sch) : Bool :=
  Region.noSelect ops && tk.all (fun p => noDst ops p.2) && schOk ops tk eff ops.size true s (Array.replicate ops.size false)

def quietQ (Q : SPost) : SPost
  | .panic c => fun _ B m => Q (.panic c) [] B m
  | e => Q e

def hasPair (i b : Nat) : List (Nat × Nat) → Bool
  | [] => false
  | (j, c) :: r => (match Nat.beq i j, Nat.beq b c with | true, true => true | _, _ => hasPair i b r)
def lookOk (ph : Bool) (tk : List (Nat × Nat)) (i : Nat) : Looks → Bool
  | .nothing => true
  | .mem => ph
  | .box b => (match ph with | true => hasPair i b tk | false => false)
  | .other => false
def anchored (F : Fr) (B : Ents) (b : Nat) : Bool :=
  match look b F, look b B with
  | some (.one (.ptr b' _)), some (.box _ _) => Nat.beq b' b
  | _, _ => false
def allAnchored (F : Fr) (B : Ents) : List Nat → Bool
  | [] => true
  | b :: r => (match anchored F B b with | true => allAnchored F B r | false => false)
def sndL : List (Nat × Nat) → List Nat
  | [] => []
  | p :: r => p.2 :: sndL r

def pureK (E : Env) (o : Oper) (F : Fr) (B : Ents) (m : Mem) (K : Cont) : Prop :=
  match o.op with
  | .call c => (match c.callee with
    | .value f => (match ev F f, evs F c.args.toList with
      | some (.one (.fn g caps)), some avs => forceAVs (avs ++ caps.map capAV) fun avs => PureNode E g avs o.dst F B m K
      | _, _ => False)
    | _ => False)
  | _ => False

def vcSch (E : Env) (ops : List Oper) (tk : List (Nat × Nat)) (Q : SPost) : Bool → Sch → Cont → Cont
  | _, .done, K => K
  | ph, .take i r, K => fun F B m => match ops[i]? with
    | some o => guardK ops o (fun F => (match lookOk ph tk i (looksAt F o.op) with | true => vcOp E o (vcSch E ops tk Q ph r K) Q F B m | false => False)) (fun F => vcSch E ops tk Q ph r K (skipF o F) B m) F
    | none => False
  | _, .pcall i r, K => fun F B m => match ops[i]? with
    | some o => guardK ops o (fun F => pureK E o F B m (vcSch E ops tk Q true r K)) (fun F => vcSch E ops tk Q true r K (skipF o F) B m) F
    | none => False
  | _, .one i ws r, K => fun F B m => match ops[i]? with
    | some o => guardK ops o (fun F => (match allAnchored F B ws with | true => vcEff E o ws (vcSch E ops tk Q false r K) Q F B m | false => False)) (fun F => vcSch E ops tk Q false r K (skipF o F) B m) F
    | none => False
  | _, .two i ws r j ws' r', K => fun F B m => match ops[i]?, ops[j]? with
    | some o, some o' => guardK ops o (fun F => (match allAnchored F B ws with | true => vcEff E o ws (vcSch E ops tk Q false r K) Q F B m | false => False)) (fun F => vcSch E ops tk Q false r K (skipF o F) B m) F ∧
        guardK ops o' (fun F => (match allAnchored F B ws' with | true => vcEff E o' ws' (vcSch E ops tk Q false r' K) Q F B m | false => False)) (fun F => vcSch E ops tk Q false r' K (skipF o' F) B m) F
    | _, _ => False

/-- What holds of the world in any order, once the operations L have come up. -/
def GG (ops : Array Oper) (tk : List (Nat × Nat)) (eff : List Nat) (ρ : Val) (B : Ents) (m : Mem) (L : Array Bool) (w : World) : Prop :=
  has w m ∧ ∀ p ∈ tk, (∀ j ∈ eff, L.getD j false = true → waitsB ops ops.size j p.1 = false) → ∀ c t, look p.2 B = some (.box c t) → w.heap[ρ.blk p.2]? = some (.cells (conL ρ c).toArray t (0, 0))

theorem hasPair_spec {i b : Nat} {tk : List (Nat × Nat)} (h : hasPair i b tk = true) : (i, b) ∈ tk := by
  induction tk with
  | nil => cases h
  | cons p r ih =>
    obtain ⟨j, c⟩ := p
    simp only [hasPair] at h
    split at h
    · rename_i h1 h2
      rw [Nat.eq_of_beq_eq_true h1, Nat.eq_of_beq_eq_true h2]
      exact List.mem_cons_self
    · exact List.mem_cons_of_mem _ (ih h)

theorem anchored_spec {F : Fr} {B : Ents} {b : Nat} (h : anchored F B b = true) : (∃ off, look b F = some (.one (.ptr b off))) ∧ ∃ c t, look b B = some (.box c t) := by
  unfold anchored at h
  split at h
  · rename_i b' off c t h1 h2
    rw [Nat.eq_of_beq_eq_true h] at h1
    exact ⟨⟨off, h1⟩, c, t, h2⟩
  · cases h
theorem allAnchored_spec {F : Fr} {B : Ents} {l : List Nat} (h : allAnchored F B l = true) : ∀ b ∈ l, anchored F B b = true := by
  induction l with
  | nil => intro b hb; cases hb
  | cons x r ih =>
    simp only [allAnchored] at h
    split at h
    · rename_i hx
      intro b hb
      rcases List.mem_cons.1 hb with rfl | hb
      · exact hx
      · exact ih h b hb
    · cases h

theorem putK_out {E : Env} {ρ : Val} {m : Mem} {F : Fr} {a : Act} {d : Option Nat} {v : AV} {B : Ents} {K : Cont} (hF : FS E ρ m F a) (hv : v.ok m) (h : putK E d v F B m K) : ∃ F', K F' B m ∧ FS E ρ m F' (a.put d (v.con ρ)) := by
  cases d with
  | none => exact ⟨F, h, hF⟩
  | some d =>
    obtain ⟨hd, h⟩ := chk_elim h
    exact ⟨_, force_elim h, hF.put hd hv⟩

theorem wpAny_Q {P : Program} {ops : Array Oper} {Q1 Q2 : Exit → Act → World → Prop} (hq : ∀ e a w, Q1 e a w → Q2 e a w) :
    ∀ (n : Nat) (L : Array Bool) (a : Act) (w : World), wpAny P .any ops Q1 n L a w → wpAny P .any ops Q2 n L a w := by
  intro n
  induction n with
  | zero => intro L a w h; exact ⟨h.1, hq _ _ _ h.2⟩
  | succ n ih =>
    intro L a w h
    refine ⟨fun h0 => hq _ _ _ (h.1 h0), fun i hi => ?_⟩
    have h1 := wpOp_mono (fun a w hh => ih _ a w hh) (h.2 i hi)
    have hl : LetsOut Q1 → LetsOut Q2 := fun ⟨a, w, h⟩ => ⟨a, w, hq _ _ _ h⟩
    unfold wpOp at h1 ⊢
    split
    · rename_i ho; rw [ho] at h1; exact h1
    · rename_i o ho
      rw [ho] at h1
      simp only at h1
      split
      · rename_i hw
        rw [if_pos hw] at h1
        rcases h1 with h1 | ⟨h1, h2⟩
        · exact .inl (wp_Q (fun _ _ _ h => hq _ _ _ h) hl h1)
        · exact .inr ⟨h1, hl h2⟩
      · rename_i hw
        rw [if_neg hw] at h1
        exact h1

section
variable {E : Env} (hΓ : TypesOk E.P E.Γ) {ops : Array Oper} {tk : List (Nat × Nat)} {eff : List Nat} {Q : SPost} {K : Cont} {ρ0 : Val} {B0 : Ents} {m0 : Mem} {a0 : Act}

theorem GG_set {i : Nat} {L : Array Bool} {w : World} (hi : i ∉ eff) : GG ops tk eff ρ0 B0 m0 (L.setIfInBounds i true) w ↔ GG ops tk eff ρ0 B0 m0 L w := by
  have key : ∀ j ∈ eff, (L.setIfInBounds i true).getD j false = L.getD j false := fun j hj => getD_set_ne false (by rintro rfl; exact hi hj)
  constructor
  · rintro ⟨h1, h2⟩
    exact ⟨h1, fun p hp hw => h2 p hp (fun j hj hL => hw j hj (by rw [← key j hj]; exact hL))⟩
  · rintro ⟨h1, h2⟩
    exact ⟨h1, fun p hp hw => h2 p hp (fun j hj hL => hw j hj (by rw [key j hj]; exact hL))⟩

theorem GG_more {i : Nat} {L : Array Bool} {w : World} (h : GG ops tk eff ρ0 B0 m0 L w) : GG ops tk eff ρ0 B0 m0 (L.setIfInBounds i true) w :=
  ⟨h.1, fun p hp hw => h.2 p hp (fun j hj hL => hw j hj (getD_set_true hL))⟩

/-- An effect keeps what must be kept. -/
theorem GG_eff {i : Nat} {L : Array Bool} {W W' : World} {ws : List Nat} {ρ : Val} {B : Ents} {m : Mem} {F : Fr} {a : Act} (hm : m0.le m) (hF : FS E ρ m F a) (hanch : ∀ p ∈ tk, a.tmps.getD p.2 undef = a0.tmps.getD p.2 undef)
    (h0 : ∀ p ∈ tk, ∃ off, a0.tmps.getD p.2 undef = .pointer (some ⟨ρ0.blk p.2, off, none⟩)) (hws : allAnchored F B ws = true) (hk : keepOk ops tk eff (L.setIfInBounds i true) ws = true)
    (hkept : Kept ρ B ws W W') (hmem : has W' m0) (h : GG ops tk eff ρ0 B0 m0 L W) : GG ops tk eff ρ0 B0 m0 (L.setIfInBounds i true) W' := by
  refine ⟨hmem, fun p hp hw c t hB => ?_⟩
  have hin : p.2 ∈ ws := by
    unfold keepOk at hk
    rw [List.all_eq_true] at hk
    have := hk p hp
    simp only [Bool.or_eq_true, List.any_eq_true, Bool.and_eq_true] at this
    rcases this with h1 | ⟨j, hj, h1, h2⟩
    · simpa using h1
    · rw [hw j hj h1] at h2; cases h2
  obtain ⟨⟨off, hl⟩, c', t', hB'⟩ := anchored_spec (allAnchored_spec hws p.2 hin)
  have h1 := (hF.vals _ _ hl).1
  obtain ⟨off0, h2⟩ := h0 p hp
  rw [hanch p hp, h2] at h1
  simp only [AV.con, Leaf.con, Value.pointer.injEq, Option.some.injEq, Addr.mk.injEq] at h1
  have h3 := hkept p.2 hin c' t' hB'
  rw [← h1.1] at h3
  rw [h3]
  exact h.2 p hp (fun j hj hL => hw j hj (getD_set_true hL)) c t hB

include hΓ
theorem vcSch_sound (hsel : Region.noSelect ops = true) (hdst : ∀ p ∈ tk, noDst ops p.2 = true) (h0 : ∀ p ∈ tk, ∃ off, a0.tmps.getD p.2 undef = .pointer (some ⟨ρ0.blk p.2, off, none⟩)) (s : Sch) :
    ∀ {n : Nat} {ph : Bool} {L : Array Bool} {ρ : Val} {B : Ents} {m : Mem} {F : Fr} {a : Act} {W : World}, schOk ops tk eff n ph s L = true → Closed ops L → WS E ρ B m W → FS E ρ m F a → m0.le m →
      (∀ p ∈ tk, a.tmps.getD p.2 undef = a0.tmps.getD p.2 undef) → GG ops tk eff ρ0 B0 m0 L W → (ph = true → ρ = ρ0 ∧ B = B0 ∧ m = m0) → vcSch E ops.toList tk (quietQ Q) ph s K F B m →
      wpAnyG E.P ops (QN E K (quietQ Q)) (GG ops tk eff ρ0 B0 m0) n L a W := by
  have hpan : ∀ c (a a' : Act) w, a.tmps.size = a'.tmps.size → a.defers = a'.defers → QN E K (quietQ Q) (.panic c) a w → QN E K (quietQ Q) (.panic c) a' w := by
    rintro c a a' w hs hd ⟨ρ, F, B, m, hq, hW, hF⟩
    exact ⟨ρ, [], B, m, hq, hW, ⟨by rw [← hs]; exact hF.size, fun d v hv => (by cases hv), by rw [← hd]; exact hF.defers⟩⟩
  have hput : ∀ (a : Act) d v, (a.put d v).tmps.size = a.tmps.size ∧ (a.put d v).defers = a.defers := by
    intro a d v
    cases d with
    | none => exact ⟨rfl, rfl⟩
    | some d => simp [Act.put]
  have hnod : ∀ p ∈ tk, ∀ (i : Nat) (o : Oper), ops[i]? = some o → o.dst ≠ some p.2 := by
    intro p hp i o ho hd
    have := hdst p hp
    unfold noDst at this
    rw [Array.all_eq_true_iff_forall_mem] at this
    have := this o (Array.mem_of_getElem? ho)
    rw [hd] at this
    simp at this
  -- what one effect brings
  have heff : ∀ {i : Nat} {ws : List Nat} {r : Sch} {n : Nat} {L : Array Bool} {ρ : Val} {B : Ents} {m : Mem} {F : Fr} {a : Act} {W : World} {o : Oper}, ops[i]? = some o →
      (∀ {ph : Bool} {L : Array Bool} {ρ : Val} {B : Ents} {m : Mem} {F : Fr} {a : Act} {W : World}, schOk ops tk eff n ph r L = true → Closed ops L → WS E ρ B m W → FS E ρ m F a → m0.le m →
        (∀ p ∈ tk, a.tmps.getD p.2 undef = a0.tmps.getD p.2 undef) → GG ops tk eff ρ0 B0 m0 L W → (ph = true → ρ = ρ0 ∧ B = B0 ∧ m = m0) → vcSch E ops.toList tk (quietQ Q) ph r K F B m →
        wpAnyG E.P ops (QN E K (quietQ Q)) (GG ops tk eff ρ0 B0 m0) n L a W) →
      keepOk ops tk eff (L.setIfInBounds i true) ws = true → schOk ops tk eff n false r (L.setIfInBounds i true) = true → Closed ops (L.setIfInBounds i true) → WS E ρ B m W → FS E ρ m F a → m0.le m →
      (∀ p ∈ tk, a.tmps.getD p.2 undef = a0.tmps.getD p.2 undef) → GG ops tk eff ρ0 B0 m0 L W →
      guardK ops.toList o (fun F => (match allAnchored F B ws with | true => vcEff E o ws (vcSch E ops.toList tk (quietQ Q) false r K) (quietQ Q) F B m | false => False)) (fun F => vcSch E ops.toList tk (quietQ Q) false r K (skipF o F) B m) F →
      wpOp E.P ops (QN E K (quietQ Q)) i (fun a' w' => GG ops tk eff ρ0 B0 m0 (L.setIfInBounds i true) w' ∧ wpAnyG E.P ops (QN E K (quietQ Q)) (GG ops tk eff ρ0 B0 m0) n (L.setIfInBounds i true) a' w') a W := by
    intro i ws r n L ρ B m F a W o ho ih hk hs hcl hW hF hm hanch hG h
    unfold wpOp
    simp only [ho]
    obtain ⟨F', hF', ⟨hw, h⟩ | ⟨hw, h⟩⟩ := guardK_sound hF h
    · rw [if_pos hw]
      left
      split at h
      · rename_i hws
        have h1 := eff_sound hΓ hW hF' h
        refine wp_Q (Q1 := QQ E (quietQ Q)) (fun _ _ _ h => h) (fun ⟨a, w, h⟩ => ⟨a, w, h⟩) (Oper.wp_mono (fun a' W' hp => ?_) h1)
        obtain ⟨⟨ρ', F2, B2, m2, ⟨hK, hle⟩, hW2, hF2⟩, hkept, hsame⟩ := hp
        have hm2 := Mem.le_trans hm hle
        have hanch' : ∀ p ∈ tk, a'.tmps.getD p.2 undef = a0.tmps.getD p.2 undef := fun p hp => (hsame p.2 (hnod p hp i o ho)).trans (hanch p hp)
        have hG' := GG_eff (i := i) hm hF' hanch h0 hws hk hkept (fun b o hb => hW2.mem b o (hm2 b o hb)) hG
        exact ⟨hG', ih hs hcl hW2 hF2 hm2 hanch' hG' (fun h => by cases h) hK⟩
      · exact h.elim
    · rw [if_neg (by simp [hw])]
      have hG' := GG_more (i := i) hG
      exact ⟨hG', ih hs hcl hW (hF'.skip o) hm (fun p hp => (sameTmps_put o a undef p.2 (hnod p hp i o ho)).trans (hanch p hp)) hG' (fun h => by cases h) h⟩
  induction s with
  | done =>
    intro n ph L ρ B m F a W hs hcl hW hF hm hanch hG hph h
    have hr : Region.ready .any ops L = [] := by
      cases n <;> simpa [schOk] using hs
    exact wpAnyG_done hr ⟨ρ, F, B, m, h, hW, hF⟩ n
  | take i r ih =>
    intro n ph L ρ B m F a W hs hcl hW hF hm hanch hG hph h
    cases n with
    | zero => cases hs
    | succ n =>
      simp only [schOk, Bool.and_eq_true, Bool.not_eq_true'] at hs
      obtain ⟨⟨⟨⟨hfree, hrdy⟩, hne⟩, hq⟩, hs⟩ := hs
      have hni : i ∉ eff := by simpa using hne
      have hrdy' : i ∈ Region.ready .any ops L := by simpa using hrdy
      simp only [vcSch] at h
      unfold quietAt at hq
      cases ho : ops[i]? with
      | none => rw [ho] at hq; cases hq
      | some o =>
        rw [ho] at hq
        have ho' : ops.toList[i]? = some o := by simpa using ho
        rw [ho'] at h
        have hcl' := hcl.set hrdy'
        have hanch' : ∀ v, ∀ p ∈ tk, (a.put o.dst v).tmps.getD p.2 undef = a0.tmps.getD p.2 undef := fun v p hp => (sameTmps_put o a v p.2 (hnod p hp i o ho)).trans (hanch p hp)
        obtain ⟨F', hF', ⟨hw, h⟩ | ⟨hw, h⟩⟩ := guardK_sound hF h
        · split at h
          · rename_i hlo
            obtain ⟨v, h1, h2, h3⟩ := vcOp_quiet hΓ hW hF' hq h rfl
            obtain ⟨F2, hK, hF2⟩ := putK_out hF' h1 h2
            refine wpAnyG_take (v := v.con ρ) ho hsel hfree hrdy hcl (fun c a w hp => hpan c _ a w (hput a o.dst _).1 (hput a o.dst _).2 hp) (fun L w => GG_set hni) (.inl ⟨hw, fun w hw' => h3 w ?_⟩) hG
              (ih hs hcl' hW hF2 hm (hanch' _) ((GG_set hni).2 hG) hph hK)
            obtain ⟨L', hcl2, hi2, hG2⟩ := hw'
            cases hlk : looksAt F' o.op with
            | nothing => trivial
            | other => rw [hlk] at hlo; cases hlo
            | mem =>
              rw [hlk] at hlo
              obtain ⟨_, _, rfl⟩ := hph hlo
              exact hG2.1
            | box b =>
              rw [hlk] at hlo
              cases ph with
              | false => cases hlo
              | true =>
                obtain ⟨rfl, rfl, rfl⟩ := hph rfl
                have hpair := hasPair_spec hlo
                intro c t hb
                refine hG2.2 (i, b) hpair (fun j hj hL => ?_) c t hb
                cases hwt : waitsB ops ops.size j i with
                | false => rfl
                | true =>
                  have := closed_waits hcl2 ops.size j hwt hL
                  rw [hi2] at this
                  cases this
          · exact h.elim
        · exact wpAnyG_take (v := undef) ho hsel hfree hrdy hcl (fun c a w hp => hpan c _ a w (hput a o.dst _).1 (hput a o.dst _).2 hp) (fun L w => GG_set hni) (.inr ⟨hw, rfl⟩) hG
            (ih hs hcl' hW (hF'.skip o) hm (hanch' _) ((GG_set hni).2 hG) hph h)
  | pcall i r ih =>
    intro n ph L ρ B m F a W hs hcl hW hF hm hanch hG hph h
    cases n with
    | zero => cases hs
    | succ n =>
      simp only [schOk, Bool.and_eq_true, beq_iff_eq] at hs
      obtain ⟨⟨hph1, hr⟩, hs⟩ := hs
      obtain ⟨rfl, rfl, rfl⟩ := hph hph1
      have hrdy' : i ∈ Region.ready .any ops L := by rw [hr]; simp
      have hcl' := hcl.set hrdy'
      obtain ⟨_, o, ho, _⟩ := mem_ready.1 hrdy'
      refine wpAnyG_all hr (by simp) (fun k hk => ?_)
      have : k = i := by simpa using hk
      subst this
      simp only [vcSch] at h
      have ho' : ops.toList[k]? = some o := by simpa using ho
      rw [ho'] at h
      unfold wpOp
      simp only [ho]
      obtain ⟨F', hF', ⟨hw, h⟩ | ⟨hw, h⟩⟩ := guardK_sound hF h
      · rw [if_pos hw]
        left
        unfold pureK at h
        split at h
        · rename_i c hop
          split at h
          · rename_i f hcal
            split at h
            · rename_i g caps avs hf hx
              have hnode := forceAVs_elim h
              obtain ⟨hev, _⟩ := evs_con hF' hx
              obtain ⟨hef, _⟩ := ev_con hF' hf
              have hargs : c.args.map a.eval = (avs.map (AV.con ρ)).toArray := by
                apply Array.ext'
                rw [Array.toList_map, hev]
              have hcaps : ∀ l : List Cap, (l.map capAV).map (AV.con ρ) = l.map (Cap.con ρ) := by
                intro l
                rw [List.map_map]
                apply List.map_congr_left
                intro cp _
                cases cp with
                | v x =>
                  simp only [Function.comp, capAV, ofValue, Cap.con]
                  split
                  · simp [AV.con, conL_vmap]
                  · rfl
                | ptr i off => rfl
              have hrun : (execOp a.eval o).run E.P W = (callFunc g ((avs ++ caps.map capAV).map (AV.con ρ)).toArray).run E.P W := by
                simp only [execOp, hop, resolve, hcal, hef, AV.con, Leaf.con, Deferred.ofValue, Sem.run_bind, Sem.run_pure, Result.andThen_ok, invoke, hargs, List.map_append, hcaps]
                simp
              have hret : ∀ v W', Below W W' ∧ (∃ u, Ending.returned v = .returned (AV.con ρ u) ∧ u.ok m ∧ putK E o.dst u F' B m (vcSch E ops.toList tk (quietQ Q) true r K)) →
                  GG ops tk eff ρ B m (L.setIfInBounds k true) W' ∧ wpAnyG E.P ops (QN E K (quietQ Q)) (GG ops tk eff ρ B m) n (L.setIfInBounds k true) (a.put o.dst v) W' := by
                rintro v W' ⟨hb, u, hv, hok, hK⟩
                simp only [Ending.returned.injEq] at hv
                subst hv
                obtain ⟨F2, hK2, hF2⟩ := putK_out hF' hok hK
                have hh : has W' m := fun b o hbo => (hb.block b (lt_of_heap (hW.mem b o hbo))).trans (hW.mem b o hbo)
                have hW' : WS E ρ B m W' := hW.call (fun _ _ h => h) hh (fun _ _ h => .inl h) hb
                have hG' : GG ops tk eff ρ B m (L.setIfInBounds k true) W' := ⟨hh, fun p _ _ c t hB => (hW'.box hB).1⟩
                exact ⟨hG', ih hs hcl' hW' hF2 hm (fun p hp => (sameTmps_put o a _ p.2 (hnod p hp k o ho)).trans (hanch p hp)) hG' (fun _ => ⟨rfl, rfl, rfl⟩) hK2⟩
              unfold Oper.wp
              rw [hrun]
              rcases hnode.out ρ W hW with ⟨hrun2, hc⟩ | ⟨v, W', hrun2, hc⟩
              · rw [hrun2]
                simp only [Oper.upon]
                refine hc.mono fun e W' he => ?_
                cases e with
                | returned v => exact hret v W' he
                | panicked ch => obtain ⟨_, u, hv, _⟩ := he; cases hv
                | outgrown => obtain ⟨_, u, hv, _⟩ := he; cases hv
              · rw [hrun2]
                exact hret v W' hc
            · exact h.elim
          · exact h.elim
        · exact h.elim
      · rw [if_neg (by simp [hw])]
        have hG' := GG_more (i := k) hG
        exact ⟨hG', ih hs hcl' hW (hF'.skip o) hm (fun p hp => (sameTmps_put o a undef p.2 (hnod p hp k o ho)).trans (hanch p hp)) hG' (fun _ => ⟨rfl, rfl, rfl⟩) h⟩
  | one i ws r ih =>
    intro n ph L ρ B m F a W hs hcl hW hF hm hanch hG hph h
    cases n with
    | zero => cases hs
    | succ n =>
      simp only [schOk, Bool.and_eq_true, beq_iff_eq] at hs
      obtain ⟨⟨hr, hk⟩, hs⟩ := hs
      have hrdy' : i ∈ Region.ready .any ops L := by rw [hr]; simp
      obtain ⟨_, o, ho, _⟩ := mem_ready.1 hrdy'
      refine wpAnyG_all hr (by simp) (fun k hk' => ?_)
      have : k = i := by simpa using hk'
      subst this
      simp only [vcSch] at h
      have ho' : ops.toList[k]? = some o := by simpa using ho
      rw [ho'] at h
      exact heff ho ih hk hs (hcl.set hrdy') hW hF hm hanch hG h
  | two i ws r j ws' r' ih ih' =>
    intro n ph L ρ B m F a W hs hcl hW hF hm hanch hG hph h
    cases n with
    | zero => cases hs
    | succ n =>
      simp only [schOk, Bool.and_eq_true, beq_iff_eq] at hs
      obtain ⟨⟨⟨⟨hr, hk⟩, hs⟩, hk2⟩, hs2⟩ := hs
      have hi : i ∈ Region.ready .any ops L := by rw [hr]; simp
      have hj : j ∈ Region.ready .any ops L := by rw [hr]; simp
      obtain ⟨_, o, ho, _⟩ := mem_ready.1 hi
      obtain ⟨_, o2, ho2, _⟩ := mem_ready.1 hj
      simp only [vcSch] at h
      have ho' : ops.toList[i]? = some o := by simpa using ho
      have ho2' : ops.toList[j]? = some o2 := by simpa using ho2
      rw [ho', ho2'] at h
      refine wpAnyG_all hr (by simp) (fun k hk' => ?_)
      have : k = i ∨ k = j := by simpa using hk'
      rcases this with rfl | rfl
      · exact heff ho ih hk hs (hcl.set hi) hW hF hm hanch hG h.1
      · exact heff ho2 ih' hk2 hs2 (hcl.set hj) hW hF hm hanch hG h.2

/-- **A drawn region along a plan.** -/
theorem draw {F : Fr} {B : Ents} {m : Mem} (tk : List (Nat × Nat)) (eff : List Nat) (s : Sch) (hs : planOk ops tk eff s = true) (h : (match allAnchored F B (sndL tk) with | true => vcSch E ops.toList tk (quietQ Q) true s K F B m | false => False)) :
    DrawNode E ops K Q F B m := by
  refine ⟨fun ρ a W hW hF => ?_⟩
  split at h
  · rename_i hanch
    simp only [planOk, Bool.and_eq_true, List.all_eq_true] at hs
    obtain ⟨⟨h1, h2⟩, h3⟩ := hs
    have hsnd : ∀ p ∈ tk, p.2 ∈ sndL tk := by
      clear h hanch h2 h3
      induction tk with
      | nil => intro p hp; cases hp
      | cons x r ih =>
        intro p hp
        rcases List.mem_cons.1 hp with rfl | hp
        · exact List.mem_cons_self
        · exact List.mem_cons_of_mem _ (ih p hp)
    have := vcSch_sound (K := K) (Q := Q) (ρ0 := ρ) (B0 := B) (m0 := m) (a0 := a) hΓ h1 h2 (fun p hp => by
      obtain ⟨⟨off, hl⟩, _⟩ := anchored_spec (allAnchored_spec hanch p.2 (hsnd p hp))
      exact ⟨off, (hF.vals _ _ hl).1⟩) s h3 (closed_start ops) hW hF (Mem.le_refl m) (fun _ _ => rfl) ⟨hW.mem, fun p _ _ c t hb => (hW.box hb).1⟩ (fun _ => ⟨rfl, rfl, rfl⟩) h
    have h4 := wpAny_of_G _ _ _ _ this
    refine wpAny_Q (fun e a w q => ?_) _ _ _ _ h4
    cases e with
    | panic c =>
      obtain ⟨ρ', F', B', m', hq, hW', hF'⟩ := q
      exact ⟨ρ', [], B', m', hq, hW', ⟨hF'.size, fun d v hv => (by cases hv), hF'.defers⟩⟩
    | _ => exact q
  · exact h.elim
end
end Vc
end

section
open Go
namespace Vc
set_option maxHeartbeats 1000000

/-! ### Other names -/
def renOf (l : List (Nat × Nat)) (base k : Nat) : Nat := match look k l with
  | some j => j
  | none => base + k
/-- back -/
def nerOf (l : List (Nat × Nat)) (base j : Nat) : Option Nat := match l with
  | [] => (match Nat.ble base j with | true => some (j - base) | false => none)
  | (k, j') :: r => (match Nat.beq j j' with | true => some k | false => nerOf r base j)

def renCap (f : Nat → Nat) : Cap → Cap
  | .v x => .v x
  | .ptr i off => .ptr (f i) off
def renCaps (f : Nat → Nat) : List Cap → List Cap
  | [] => []
  | c :: r => renCap f c :: renCaps f r
def renLeaf (f : Nat → Nat) : Leaf → Leaf
  | .ptr i off => .ptr (f i) off
  | .own i => .own (f i)
  | .optr i off => .optr (f i) off
  | .fn g caps => .fn g (renCaps f caps)
  | l => l
def renL (f : Nat → Nat) : List Leaf → List Leaf
  | [] => []
  | l :: r => renLeaf f l :: renL f r
def renP (f : Nat → Nat) : List (Bool × List Leaf) → List (Bool × List Leaf)
  | [] => []
  | p :: r => (p.1, renL f p.2) :: renP f r
def renAV (f : Nat → Nat) : AV → AV
  | .one l => .one (renLeaf f l)
  | .agg ls => .agg (renL f ls)
  | .tup vs => .tup (renP f vs)
  | .bad => .bad
def renE (f : Nat → Nat) : Ent → Ent
  | .box cells t => .box (renL f cells) t
  | e => e
def renB (f : Nat → Nat) : Ents → Ents
  | [] => []
  | (k, e) :: r => (f k, renE f e) :: renB f r
def renAVs (f : Nat → Nat) : List AV → List AV
  | [] => []
  | v :: r => renAV f v :: renAVs f r

def Val.pull (ρ : Val) (f : Nat → Nat) : Val := ⟨fun k => ρ.blk (f k), fun k => ρ.sl (f k)⟩

section
variable {f : Nat → Nat} {ρ : Val}
theorem renCap_con (c : Cap) : (renCap f c).con ρ = c.con (ρ.pull f) := by cases c <;> rfl
theorem renCaps_eq (l : List Cap) : renCaps f l = l.map (renCap f) := by induction l with
  | nil => rfl
  | cons c r ih => simp [renCaps, ih]
theorem renLeaf_con (l : Leaf) : (renLeaf f l).con ρ = l.con (ρ.pull f) := by
  cases l with
  | fn g caps => simp only [renLeaf, Leaf.con, renCaps_eq, List.map_map]; congr 3; funext c; exact renCap_con c
  | _ => rfl
theorem renL_eq (l : List Leaf) : renL f l = l.map (renLeaf f) := by induction l with
  | nil => rfl
  | cons c r ih => simp [renL, ih]
theorem renL_con (l : List Leaf) : conL ρ (renL f l) = conL (ρ.pull f) l := by
  rw [renL_eq]; simp only [conL, List.map_map]; congr 1; funext x; exact renLeaf_con x
theorem renP_con (vs : List (Bool × List Leaf)) : (renP f vs).map (partCon ρ) = vs.map (partCon (ρ.pull f)) := by
  induction vs with
  | nil => rfl
  | cons p r ih =>
    simp only [renP, List.map_cons, ih, List.cons.injEq, and_true]
    obtain ⟨b, ls⟩ := p
    cases b with
    | true => simp [partCon, renL_con]
    | false =>
      match ls with
      | [] => rfl
      | [l] => exact renLeaf_con l
      | x :: y :: z => simp only [partCon, renL]; congr 2; have := renL_con (f := f) (ρ := ρ) (x :: y :: z); simpa [renL] using this
theorem renAV_con (v : AV) : (renAV f v).con ρ = v.con (ρ.pull f) := by
  cases v with
  | one l => exact renLeaf_con l
  | agg ls => simp [renAV, AV.con, renL_con]
  | tup vs => simp [renAV, AV.con, renP_con]
  | bad => rfl
theorem renAVs_con (l : List AV) : (renAVs f l).map (AV.con ρ) = l.map (AV.con (ρ.pull f)) := by
  induction l with
  | nil => rfl
  | cons v r ih => simp [renAVs, renAV_con, ih]
theorem renCap_ok {c : Cap} : (renCap f c).ok ↔ c.ok := by cases c <;> exact Iff.rfl
theorem renLeaf_ok {m : Mem} {l : Leaf} : (renLeaf f l).ok m ↔ l.ok m := by
  cases l with
  | fn g caps => simp only [renLeaf, Leaf.ok, renCaps_eq, List.mem_map, forall_exists_index, and_imp, forall_apply_eq_imp_iff₂, renCap_ok]
  | _ => exact Iff.rfl
theorem renL_ok {m : Mem} {l : List Leaf} : okL m (renL f l) ↔ okL m l := by
  simp only [okL, renL_eq, List.mem_map, forall_exists_index, and_imp, forall_apply_eq_imp_iff₂, renLeaf_ok]
theorem renAV_ok {m : Mem} {v : AV} : (renAV f v).ok m ↔ v.ok m := by
  cases v with
  | one l => exact renLeaf_ok
  | agg ls => exact renL_ok
  | tup vs =>
    simp only [renAV, AV.ok]
    induction vs with
    | nil => simp [renP]
    | cons p r ih => simp only [renP, List.forall_mem_cons, renL_ok, ih]
  | bad => exact Iff.rfl
theorem renE_sat {m : Mem} {W : World} {k : Nat} {e : Ent} : (renE f e).sat ρ m W (f k) ↔ e.sat (ρ.pull f) m W k := by
  cases e with
  | box cells t => simp only [renE, Ent.sat, renL_con, renL_ok]; rfl
  | own n cells e sz => exact Iff.rfl
theorem renE_block {k : Nat} {e : Ent} : (renE f e).block ρ (f k) = e.block (ρ.pull f) k := by cases e <;> rfl
theorem renB_look {B : Ents} {j : Nat} {e' : Ent} (h : look j (renB f B) = some e') (hinj : ∀ a b, f a = f b → a = b) : ∃ k e, look k B = some e ∧ j = f k ∧ e' = renE f e := by
  induction B with
  | nil => cases h
  | cons p r ih =>
    obtain ⟨k, e⟩ := p
    by_cases hj : j = f k
    · subst hj
      simp only [renB, look_cons_eq, Option.some.injEq] at h
      exact ⟨k, e, look_cons_eq .., rfl, h.symm⟩
    · simp only [renB, look_cons_ne _ _ hj] at h
      obtain ⟨k', e2, h1, h2, h3⟩ := ih h
      refine ⟨k', e2, ?_, h2, h3⟩
      rw [look_cons_ne _ _ (by rintro rfl; exact hj h2)]
      exact h1
theorem renB_look' {B : Ents} {k : Nat} {e : Ent} (h : look k B = some e) (hinj : ∀ a b, f a = f b → a = b) : look (f k) (renB f B) = some (renE f e) := by
  induction B with
  | nil => cases h
  | cons p r ih =>
    obtain ⟨k', e'⟩ := p
    by_cases hj : k = k'
    · subst hj
      simp only [look_cons_eq, Option.some.injEq] at h
      subst h
      simp [renB, look_cons_eq]
    · rw [look_cons_ne _ _ hj] at h
      simp only [renB]
      rw [look_cons_ne _ _ (fun he => hj (hinj _ _ he))]
      exact ih h
end

/-! ### The renaming of a call -/
/-- l names: distinct on both sides, below base. -/
def renOk (base : Nat) : List (Nat × Nat) → Bool
  | [] => true
  | (k, j) :: r => (match Nat.blt j base, fresh k j r with | true, true => renOk base r | _, _ => false)
 where
  fresh (k j : Nat) : List (Nat × Nat) → Bool
    | [] => true
    | (k', j') :: r => (match Nat.beq k k', Nat.beq j j' with | false, false => fresh k j r | _, _ => false)

theorem renOk_fresh {k j : Nat} {l : List (Nat × Nat)} (h : renOk.fresh k j l = true) : ∀ p ∈ l, p.1 ≠ k ∧ p.2 ≠ j := by
  induction l with
  | nil => intro p hp; cases hp
  | cons q r ih =>
    obtain ⟨k', j'⟩ := q
    simp only [renOk.fresh] at h
    split at h
    · rename_i h1 h2
      intro p hp
      rcases List.mem_cons.1 hp with rfl | hp
      · exact ⟨by rintro he; simp at he; rw [he] at h1; simp at h1, by rintro he; simp at he; rw [he] at h2; simp at h2⟩
      · exact ih h p hp
    · cases h

theorem look_some_mem {α : Type} {k : Nat} {l : List (Nat × α)} {v : α} (h : look k l = some v) : (k, v) ∈ l := by
  induction l with
  | nil => cases h
  | cons p r ih =>
    obtain ⟨k', v'⟩ := p
    by_cases hk : k = k'
    · subst hk; rw [look_cons_eq] at h; cases h; exact List.mem_cons_self
    · rw [look_cons_ne _ _ hk] at h; exact List.mem_cons_of_mem _ (ih h)
theorem look_none_not {α : Type} {k : Nat} {l : List (Nat × α)} (h : look k l = none) : ∀ p ∈ l, p.1 ≠ k := by
  induction l with
  | nil => intro p hp; cases hp
  | cons q r ih =>
    obtain ⟨k', v'⟩ := q
    by_cases hk : k = k'
    · subst hk; rw [look_cons_eq] at h; cases h
    · rw [look_cons_ne _ _ hk] at h
      intro p hp
      rcases List.mem_cons.1 hp with rfl | hp
      · exact fun h => hk h.symm
      · exact ih h p hp

theorem nerOf_lt {l : List (Nat × Nat)} {base j : Nat} (hj : j < base) (h : ∀ p ∈ l, p.2 ≠ j) : nerOf l base j = none := by
  induction l with
  | nil =>
    have : ¬ base ≤ j := by omega
    simp [nerOf]
    cases hb : Nat.ble base j with
    | true => exact absurd (Nat.le_of_ble_eq_true hb) this
    | false => rfl
  | cons q r ih =>
    obtain ⟨k', j'⟩ := q
    simp only [nerOf]
    have : j' ≠ j := h (k', j') List.mem_cons_self
    cases hb : Nat.beq j j' with
    | true => exact absurd (Nat.eq_of_beq_eq_true hb).symm this
    | false => exact ih (fun p hp => h p (List.mem_cons_of_mem _ hp))

theorem ner_ren {l : List (Nat × Nat)} {base : Nat} (h : renOk base l = true) (k : Nat) : nerOf l base (renOf l base k) = some k := by
  induction l with
  | nil =>
    have : Nat.ble base (base + k) = true := Nat.ble_eq_true_of_le (Nat.le_add_right _ _)
    simp [renOf, look, nerOf, this]
  | cons q r ih =>
    obtain ⟨k', j'⟩ := q
    simp only [renOk] at h
    split at h
    · rename_i hlt hfr
      have hlt : j' < base := by simpa using hlt
      have hfr := renOk_fresh hfr
      by_cases hk : k = k'
      · subst hk
        simp [renOf, look_cons_eq, nerOf]
      · have hrn : renOf ((k', j') :: r) base k = renOf r base k := by simp only [renOf, look_cons_ne _ _ hk]
        rw [hrn]
        have hne : renOf r base k ≠ j' := by
          unfold renOf
          split
          · rename_i j hj
            exact (hfr _ (look_some_mem hj)).2
          · omega
        simp only [nerOf]
        cases hb : Nat.beq (renOf r base k) j' with
        | true => exact absurd (Nat.eq_of_beq_eq_true hb) hne
        | false => exact ih h
    · cases h
theorem renOf_inj {l : List (Nat × Nat)} {base : Nat} (h : renOk base l = true) (a b : Nat) (he : renOf l base a = renOf l base b) : a = b := by
  have h1 := ner_ren h a
  rw [he, ner_ren h b] at h1
  exact (Option.some.inj h1).symm

/-- The caller's valuation behind the call. -/
def Val.back (ρ ρ' : Val) (l : List (Nat × Nat)) (base : Nat) : Val :=
  ⟨fun j => match nerOf l base j with | some k => ρ'.blk k | none => ρ.blk j, fun j => match nerOf l base j with | some k => ρ'.sl k | none => ρ.sl j⟩
theorem back_pull {ρ ρ' : Val} {l : List (Nat × Nat)} {base : Nat} (h : renOk base l = true) : (ρ.back ρ' l base).pull (renOf l base) = ρ' := by
  unfold Val.pull Val.back
  congr <;> (funext k; simp only [ner_ren h k])

/-- A leaf that the call does not turn. -/
def capStays (base : Nat) : Cap → Bool
  | .v _ => true
  | .ptr i _ => Nat.blt i base
def capsStay (base : Nat) : List Cap → Bool
  | [] => true
  | c :: r => (match capStays base c with | true => capsStay base r | false => false)
def notSnd (j : Nat) : List (Nat × Nat) → Bool
  | [] => true
  | p :: r => (match Nat.beq p.2 j with | true => false | false => notSnd j r)
def leafStays (l : List (Nat × Nat)) (base : Nat) : Leaf → Bool
  | .ptr i _ => Nat.blt i base
  | .own i => (match Nat.blt i base with | true => notSnd i l | false => false)
  | .optr i _ => (match Nat.blt i base with | true => notSnd i l | false => false)
  | .fn _ caps => capsStay base caps
  | _ => true
def leavesStay (l : List (Nat × Nat)) (base : Nat) : List Leaf → Bool
  | [] => true
  | x :: r => (match leafStays l base x with | true => leavesStay l base r | false => false)
def partsStay (l : List (Nat × Nat)) (base : Nat) : List (Bool × List Leaf) → Bool
  | [] => true
  | x :: r => (match leavesStay l base x.2 with | true => partsStay l base r | false => false)
def avStays (l : List (Nat × Nat)) (base : Nat) : AV → Bool
  | .one x => leafStays l base x
  | .agg ls => leavesStay l base ls
  | .tup vs => partsStay l base vs
  | .bad => true
def frStays (l : List (Nat × Nat)) (base : Nat) : Fr → Bool
  | [] => true
  | p :: r => (match avStays l base p.2 with | true => frStays l base r | false => false)
/-- what is not handed over -/
def restB (l : List (Nat × Nat)) : Ents → Ents
  | [] => []
  | (k, e) :: r => (match notSnd k l with | true => (k, e) :: restB l r | false => restB l r)
def entsStay (l : List (Nat × Nat)) (base : Nat) : Ents → Bool
  | [] => true
  | (k, e) :: r => (match Nat.blt k base with
    | true => (match e with
      | .box cells _ => (match leavesStay l base cells with | true => entsStay l base r | false => false)
      | .own _ _ _ _ => entsStay l base r)
    | false => false)
def pinsBelow (base : Nat) : List (Nat × Nat) → Bool
  | [] => true
  | p :: r => (match Nat.blt p.1 base with | true => pinsBelow base r | false => false)

theorem notSnd_spec {j : Nat} {l : List (Nat × Nat)} : notSnd j l = true ↔ ∀ p ∈ l, p.2 ≠ j := by
  induction l with
  | nil => simp [notSnd]
  | cons q r ih =>
    simp only [notSnd]
    cases hb : Nat.beq q.2 j with
    | true =>
      have := Nat.eq_of_beq_eq_true hb
      simp [this]
    | false =>
      have : q.2 ≠ j := by rintro he; rw [he] at hb; simp at hb
      simp [ih, this]

section
variable {ρ ρ' : Val} {l : List (Nat × Nat)} {base : Nat} (hr : renOk base l = true) (hp : ∀ p ∈ l, ρ'.blk p.1 = ρ.blk p.2)
include hr hp
theorem back_blk {j : Nat} (hj : j < base) : (ρ.back ρ' l base).blk j = ρ.blk j := by
  by_cases h : ∃ p ∈ l, p.2 = j
  · obtain ⟨p, hpl, rfl⟩ := h
    obtain ⟨k, j⟩ := p
    have hlk : look k l = some j := by
      clear hp hj
      induction l with
      | nil => cases hpl
      | cons q r ih =>
        obtain ⟨k', j'⟩ := q
        simp only [renOk] at hr
        split at hr
        · rename_i h1 h2
          rcases List.mem_cons.1 hpl with he | hpl
          · cases he; exact look_cons_eq ..
          · have := (renOk_fresh h2 _ hpl).1
            rw [look_cons_ne _ _ this]
            exact ih hr hpl
        · cases hr
    have h1 := ner_ren hr k
    unfold renOf at h1
    rw [hlk] at h1
    simp only [Val.back] at *
    rw [h1]
    exact hp _ hpl
  · have : nerOf l base j = none := nerOf_lt hj (fun p hpl he => h ⟨p, hpl, he⟩)
    simp [Val.back, this]
omit hr hp in
theorem back_sl {j : Nat} (hj : j < base) (hn : notSnd j l = true) : (ρ.back ρ' l base).sl j = ρ.sl j := by
  simp [Val.back, nerOf_lt hj (notSnd_spec.1 hn)]
theorem leafStays_con {x : Leaf} (h : leafStays l base x = true) : x.con (ρ.back ρ' l base) = x.con ρ := by
  cases x with
  | v x => rfl
  | ptr i off => have h : i < base := by simpa [leafStays] using h
                 simp [Leaf.con, back_blk hr hp h]
  | own i =>
    simp only [leafStays] at h
    split at h
    · rename_i hi; have hi : i < base := by simpa using hi
      simp [Leaf.con, Val.slv, back_sl hi h]
    · cases h
  | optr i off =>
    simp only [leafStays] at h
    split at h
    · rename_i hi; have hi : i < base := by simpa using hi
      simp [Leaf.con, back_sl hi h]
    · cases h
  | rd a cs off => rfl
  | fn g caps =>
    simp only [leafStays] at h
    simp only [Leaf.con]
    congr 1
    congr 1
    induction caps with
    | nil => rfl
    | cons c r ih =>
      simp only [capsStay] at h
      split at h
      · rename_i hc
        simp only [List.map_cons, ih h, List.cons.injEq, and_true]
        cases c with
        | v x => rfl
        | ptr i off => have hi : i < base := by simpa [capStays] using hc
                       simp [Cap.con, back_blk hr hp hi]
      · cases h
  | kb b => rfl
theorem leavesStay_con {x : List Leaf} (h : leavesStay l base x = true) : conL (ρ.back ρ' l base) x = conL ρ x := by
  induction x with
  | nil => rfl
  | cons c r ih =>
    simp only [leavesStay] at h
    split at h
    · rename_i hc
      simp only [conL, List.map_cons, leafStays_con hr hp hc, List.cons.injEq, true_and]
      exact ih h
    · cases h
theorem avStays_con {x : AV} (h : avStays l base x = true) : x.con (ρ.back ρ' l base) = x.con ρ := by
  cases x with
  | one x => exact leafStays_con hr hp h
  | agg ls => simp only [AV.con, leavesStay_con hr hp h]
  | tup vs =>
    simp only [AV.con]
    congr 2
    simp only [avStays] at h
    induction vs with
    | nil => rfl
    | cons p r ih =>
      simp only [partsStay] at h
      split at h
      · rename_i hc
        simp only [List.map_cons, ih h, List.cons.injEq, and_true]
        obtain ⟨b, ls⟩ := p
        cases b with
        | true => simp only [partCon, leavesStay_con hr hp hc]
        | false =>
          match ls, hc with
          | [], _ => rfl
          | [x], hc =>
            simp only [leavesStay] at hc
            split at hc
            · rename_i hx; exact leafStays_con hr hp hx
            · cases hc
          | x :: y :: z, hc => simp only [partCon]; rw [leavesStay_con hr hp hc]
      · cases h
  | bad => rfl
theorem frStays_con {F : Fr} (h : frStays l base F = true) : ∀ t x, look t F = some x → x.con (ρ.back ρ' l base) = x.con ρ := by
  induction F with
  | nil => intro t x hx; cases hx
  | cons p r ih =>
    simp only [frStays] at h
    split at h
    · rename_i hc
      intro t x hx
      obtain ⟨t', x'⟩ := p
      by_cases ht : t = t'
      · subst ht; rw [look_cons_eq] at hx; cases hx; exact avStays_con hr hp hc
      · rw [look_cons_ne _ _ ht] at hx; exact ih h t x hx
    · cases h
end

theorem restB_look {l : List (Nat × Nat)} {B : Ents} {k : Nat} {e : Ent} (h : look k (restB l B) = some e) : notSnd k l = true ∧ look k B = some e := by
  induction B with
  | nil => cases h
  | cons p r ih =>
    obtain ⟨k', e'⟩ := p
    simp only [restB] at h
    split at h
    · rename_i hn
      by_cases hk : k = k'
      · subst hk; rw [look_cons_eq] at h ⊢; exact ⟨hn, h⟩
      · rw [look_cons_ne _ _ hk] at h ⊢; exact ih h
    · rename_i hn
      obtain ⟨h1, h2⟩ := ih h
      refine ⟨h1, ?_⟩
      rw [look_cons_ne _ _ (by rintro rfl; rw [hn] at h1; cases h1)]
      exact h2
theorem entsStay_spec {l : List (Nat × Nat)} {base : Nat} {B : Ents} (h : entsStay l base B = true) {k : Nat} {e : Ent} (hk : look k B = some e) : k < base ∧ ∀ cells t, e = .box cells t → leavesStay l base cells = true := by
  induction B with
  | nil => cases hk
  | cons p r ih =>
    obtain ⟨k', e'⟩ := p
    simp only [entsStay] at h
    split at h
    · rename_i hlt
      have hlt : k' < base := by simpa using hlt
      by_cases hkk : k = k'
      · subst hkk
        rw [look_cons_eq] at hk
        cases hk
        refine ⟨hlt, fun cells t he => ?_⟩
        subst he
        simp only at h
        split at h
        · assumption
        · cases h
      · rw [look_cons_ne _ _ hkk] at hk
        refine ih ?_ hk
        cases e' with
        | box cells t => simp only at h; split at h <;> first | exact h | cases h
        | own _ _ _ _ => exact h
    · cases h
theorem pinsBelow_spec {base : Nat} {l : List (Nat × Nat)} (h : pinsBelow base l = true) : ∀ p ∈ l, p.1 < base := by
  induction l with
  | nil => intro p hp; cases hp
  | cons q r ih =>
    simp only [pinsBelow] at h
    split at h
    · rename_i hq
      intro p hp
      rcases List.mem_cons.1 hp with rfl | hp
      · simpa using hq
      · exact ih h p hp
    · cases h
theorem look_append {α : Type} {k : Nat} {a b : List (Nat × α)} : look k (a ++ b) = match look k a with | some v => some v | none => look k b := by
  induction a with
  | nil => rfl
  | cons p r ih =>
    obtain ⟨k', v⟩ := p
    by_cases hk : k = k'
    · subst hk; simp only [List.cons_append, look_cons_eq]
    · simp only [List.cons_append, look_cons_ne _ _ hk, ih]
end Vc
end

section
open Go
namespace Vc
set_option maxHeartbeats 1000000

/-! ### Own rows that a call only reads -/
def substAVs (i : Nat) (x : Sl) : List AV → List AV
  | [] => []
  | v :: r => substAV i x v :: substAVs i x r
def Borrow : List Nat → Ents → Mem → List AV → (List AV → Mem → Prop) → Prop
  | [], _, m, args, R => R args m
  | i :: r, B, m, args, R => match look i B with
    | some (.own n cells _ sz) => ∀ (A : Option Addr) (c : Nat) (m1 : Mem), Mem.Disj m m1 → cells.length = n * sz → n ≤ c → c ≤ maxLen → (0 < n → ∃ a, A = some a ∧ MemReads m1 a cells) → Borrow r B (m.join m1) (substAVs i ⟨A, n, c⟩ args) R
    | _ => False
def noDup : List Nat → Bool
  | [] => true
  | i :: r => (match notIn i r with | true => noDup r | false => false)

theorem substAVs_eq (i : Nat) (x : Sl) (l : List AV) : substAVs i x l = l.map (substAV i x) := by
  induction l with
  | nil => rfl
  | cons v r ih => simp [substAVs, ih]

theorem borrow_sound {E : Env} {ρ : Val} {B : Ents} {m : Mem} {W : World} (hW : WS E ρ B m W) {R : List AV → Mem → Prop} (is : List Nat) : ∀ {seen : List Nat} {mb : Mem} {args : List AV}, noDup is = true → (∀ i ∈ is, i ∉ seen) →
    m.le mb → has W mb → (∀ b o, mb b = some o → m b = some o ∨ ∃ i ∈ seen, blockOf ρ B i = some b) → Borrow is B mb args R →
    ∃ mb' args', mb.le mb' ∧ has W mb' ∧ (∀ b o, mb' b = some o → m b = some o ∨ ∃ i, (i ∈ seen ∨ i ∈ is) ∧ blockOf ρ B i = some b) ∧ args'.map (AV.con ρ) = args.map (AV.con ρ) ∧ R args' mb' := by
  induction is with
  | nil =>
    intro seen mb args _ _ hle hh hn h
    exact ⟨mb, args, Mem.le_refl _, hh, fun b o hb => (hn b o hb).imp id (fun ⟨i, h1, h2⟩ => ⟨i, .inl h1, h2⟩), rfl, h⟩
  | cons i r ih =>
    intro seen mb args hnd hseen hle hh hn h
    simp only [Borrow] at h
    split at h
    · rename_i n cells e sz hB
      simp only [noDup] at hnd
      cases hni : notIn i r with
      | false => rw [hni] at hnd; cases hnd
      | true =>
        rw [hni] at hnd
        have hni := notIn_spec hni
        obtain ⟨hown, hone⟩ := hW.own hB
        have hblk : blockOf ρ B i = rowBlock (ρ.slv i) := by unfold blockOf; rw [hB]; rfl
        have hsl : (ρ.sl i).2.1 = n := by
          rcases hown.2 with ⟨A0, hv, h0⟩ | ⟨g, cap, cur, hv, _⟩ <;> · simp only [Val.slv, Value.slice.injEq] at hv; omega
        let m1 : Mem := fun b => if rowBlock (ρ.slv i) = some b then W.heap[b]? else none
        have hdis : Mem.Disj mb m1 := by
          intro b o hb
          show (if _ then _ else _) = _
          rw [if_neg]
          intro hr
          rcases hn b o hb with h1 | ⟨i', hi', hb'⟩
          · rw [(hW.fresh i b (hblk.trans hr)).1] at h1; cases h1
          · exact hW.inj i i' b (by rintro rfl; exact hseen _ List.mem_cons_self hi') (hblk.trans hr) hb'
        have hx' : (ρ.sl i).1 = (⟨(ρ.sl i).1, n, (ρ.sl i).2.2⟩ : Sl).A ∧ ρ.slv i = (⟨(ρ.sl i).1, n, (ρ.sl i).2.2⟩ : Sl).v := ⟨rfl, by rw [← hsl]; rfl⟩
        have h2 := h (ρ.sl i).1 (ρ.sl i).2.2 m1 hdis hown.1 (by
          rcases hown.2 with ⟨A0, hv, h0⟩ | ⟨g, cap, cur, hv, hg, hnc, hcm, _⟩
          · omega
          · simp only [Val.slv, Value.slice.injEq] at hv; omega) (by
          rcases hown.2 with ⟨A0, hv, h0⟩ | ⟨g, cap, cur, hv, hg, hnc, hcm, _⟩
          · simp only [Val.slv, Value.slice.injEq] at hv
            rw [hv.2.2]
            exact Nat.zero_le _
          · simp only [Val.slv, Value.slice.injEq] at hv
            rw [hv.2.2]
            exact hcm) (by
          intro hn
          obtain ⟨g, cap, cur, hv, hg, hnc, hcm, hcs, htk, hcell⟩ := OwnRow.cell hown hn
          have hr : rowBlock (ρ.slv i) = some g := by rw [hv]; rfl
          have hs1 : (ρ.sl i).1 = some ⟨g, 0, none⟩ := by simp only [Val.slv, Value.slice.injEq] at hv; exact hv.1
          refine ⟨_, hs1, rfl, cur, e, (0, 0), ?_, fun j u hu => ⟨?_, hone u (List.mem_of_getElem? hu)⟩⟩
          · show (if rowBlock (ρ.slv i) = some g then W.heap[g]? else none) = _
            rw [if_pos hr]; exact hg
          · simpa using hcell j u hu)
        have hh' : has W (mb.join m1) := by
          intro b o hb
          rcases Mem.join_some hb with h | ⟨_, h⟩
          · exact hh b o h
          · have hb' : (if rowBlock (ρ.slv i) = some b then W.heap[b]? else none) = some o := h
            split at hb'
            · exact hb'
            · cases hb'
        obtain ⟨mb', args', h3, h4, h5, h6, h7⟩ := ih (seen := i :: seen) hnd (fun k hk hs => by
            rcases List.mem_cons.1 hs with rfl | hs
            · exact hni hk
            · exact hseen k (List.mem_cons_of_mem _ hk) hs) (Mem.le_trans hle (Mem.le_join _ _)) hh' (fun b o hb => by
            rcases Mem.join_some hb with h | ⟨_, h⟩
            · exact (hn b o h).imp id (fun ⟨k, h1, h2⟩ => ⟨k, List.mem_cons_of_mem _ h1, h2⟩)
            · have hb' : (if rowBlock (ρ.slv i) = some b then W.heap[b]? else none) = some o := h
              split at hb'
              · rename_i hr; exact .inr ⟨i, List.mem_cons_self, hblk.trans hr⟩
              · cases hb') h2
        have hperm : ∀ k, (k ∈ i :: seen ∨ k ∈ r) → (k ∈ seen ∨ k ∈ i :: r) := by
          rintro k (hk | hk)
          · rcases List.mem_cons.1 hk with rfl | hk
            · exact .inr List.mem_cons_self
            · exact .inl hk
          · exact .inr (List.mem_cons_of_mem _ hk)
        refine ⟨mb', args', Mem.le_trans (Mem.le_join _ _) h3, h4, fun b o hb => (h5 b o hb).imp id (fun ⟨k, hk, hb'⟩ => ⟨k, hperm k hk, hb'⟩), ?_, h7⟩
        · rw [h6, substAVs_eq, List.map_map]
          apply List.map_congr_left
          intro v _
          exact substAV_con (ρ := ρ) (ρ' := ρ) (fun _ => rfl) (fun _ _ => rfl) hx' v
    · exact h.elim

/-! ### Contracts of functions that hand back rows of their own, or turn what is handed over -/
def pinsOf (ρ : Val) : Ents → List (Nat × Nat)
  | [] => []
  | (k, _) :: r => (k, ρ.blk k) :: pinsOf ρ r
def envX (P : Program) (Γ : Types) (N : Nat) (W : World) (m : Mem) (ρ : Val) (B : Ents) : Env := ⟨P, Γ, N, W, m, fun b => ∃ i, blockOf ρ B i = some b, pinsOf ρ B⟩
def RX (E : Env) (Φ : AV → Ents → Mem → Prop) (Ψ : List PanicEntry → Ents → Mem → Prop) : Ending → World → Prop
  | .returned v, W' => ∃ ρ u B mn, v = AV.con ρ u ∧ Mem.Disj E.m0 mn ∧ u.ok (E.m0.join mn) ∧ WS E ρ B (E.m0.join mn) W' ∧ Φ u B mn
  | .panicked ch, W' => ∃ ρ B mn, Mem.Disj E.m0 mn ∧ WS E ρ B (E.m0.join mn) W' ∧ Ψ ch B mn
  | .outgrown, _ => False
def noPanic : List PanicEntry → Ents → Mem → Prop := fun _ _ _ => False
def FnX (P : Program) (f : FuncId) (m : Mem) (args : List AV) (B : Ents) (Φ : AV → Ents → Mem → Prop) (Ψ : List PanicEntry → Ents → Mem → Prop) : Prop :=
  ∀ ρ W, WS (envX P [] 0 W m ρ B) ρ B m W → Invk P f (args.map (AV.con ρ)) W (RX (envX P [] 0 W m ρ B) Φ Ψ)

theorem WS.cast {E E' : Env} (h1 : E'.w0 = E.w0) (h2 : E'.m0 = E.m0) (h3 : E'.lent = E.lent) (h4 : E'.pins = E.pins) {ρ : Val} {B : Ents} {m : Mem} {W : World} (h : WS E ρ B m W) : WS E' ρ B m W := by
  obtain ⟨P, Γ, N, w0, m0, lent, pins⟩ := E
  obtain ⟨P', Γ', N', w0', m0', lent', pins'⟩ := E'
  simp only at h1 h2 h3 h4
  subst h1 h2 h3 h4
  exact ⟨h.ents, h.fresh, h.inj, h.mem, h.le, h.new, h.os, h.tape, h.output, h.size, h.old, h.pin⟩

theorem fnX {P : Program} {Γ : Types} (hΓ : TypesOk P Γ) (hmix : P.follows .mixedOrders = true) {f : FuncId} {fn : Func} {c : Code} (hf : P.funcs[f]? = some fn) (hb : fn.body = some c) (hname : (fn.name == "runtime.NumGoroutine") = false) {N : Nat} (hN : fn.ntmps = N) {rs : List ResultVar} (hrs : fn.results.toList = rs)
    {m : Mem} {args : List AV} {B : Ents} (hlen : args.length ≤ N) (hok : ∀ v ∈ args, v.ok m) {Φ : AV → Ents → Mem → Prop} {Ψ : List PanicEntry → Ents → Mem → Prop}
    (h : ∀ ρ W, vc (envX P Γ N W m ρ B) c (retQ (envX P Γ N W m ρ B) rs (RX (envX P [] 0 W m ρ B) Φ Ψ)) (argFrame 0 args) B m) : FnX P f m args B Φ Ψ := by
  subst hN hrs
  intro ρ W hW
  exact fn_sound (E := envX P Γ fn.ntmps W m ρ B) hΓ hmix hf hb rfl hname hlen hok (WS.cast (E := envX P [] 0 W m ρ B) (E' := envX P Γ fn.ntmps W m ρ B) rfl rfl rfl rfl hW) (h ρ W)

/-- Some of the entries only. -/
def keepB (ks : List Nat) : Ents → Ents
  | [] => []
  | (k, e) :: r => (match notIn k ks with | true => keepB ks r | false => (k, e) :: keepB ks r)
theorem keepB_look {ks : List Nat} {B : Ents} {k : Nat} {e : Ent} (h : look k (keepB ks B) = some e) : look k B = some e := by
  induction B with
  | nil => cases h
  | cons p r ih =>
    obtain ⟨k', e'⟩ := p
    simp only [keepB] at h
    split at h
    · rename_i hn
      have h1 := ih h
      have : k ≠ k' := by
        rintro rfl
        -- k is not among ks, so it cannot be kept
        have hks : ∀ {B : Ents}, look k (keepB ks B) = none := by
          intro B
          induction B with
          | nil => rfl
          | cons q s ih2 =>
            obtain ⟨k2, e2⟩ := q
            simp only [keepB]
            split
            · exact ih2
            · rename_i h2
              rw [look_cons_ne _ _ (by rintro rfl; rw [hn] at h2; cases h2)]
              exact ih2
        rw [hks] at h
        cases h
      rw [look_cons_ne _ _ this]
      exact h1
    · by_cases hk : k = k'
      · subst hk; rw [look_cons_eq] at h ⊢; exact h
      · rw [look_cons_ne _ _ hk] at h ⊢; exact ih h
theorem WS.sub {E : Env} {ρ : Val} {B B' : Ents} {m : Mem} {W : World} (h : WS E ρ B m W) (hs : ∀ k e, look k B' = some e → look k B = some e) : WS E ρ B' m W := by
  have hb : ∀ i b, blockOf ρ B' i = some b → blockOf ρ B i = some b := by
    intro i b hi
    unfold blockOf at hi ⊢
    cases hl : look i B' with
    | none => rw [hl] at hi; cases hi
    | some e => rw [hl] at hi; rw [hs i e hl]; exact hi
  exact ⟨fun i e hi => h.ents i e (hs i e hi), fun i b hi => h.fresh i b (hb i b hi), fun i j b hij hi hj => h.inj i j b hij (hb i b hi) (hb j b hj), h.mem, h.le, h.new, h.os, h.tape, h.output, h.size, h.old, h.pin⟩

theorem retX {P : Program} {Γ : Types} {N : Nat} {W : World} {m0 m : Mem} {ρ0 : Val} {B0 : Ents} {u : AV} {B : Ents} {Φ : AV → Ents → Mem → Prop} {Ψ : List PanicEntry → Ents → Mem → Prop} (ks : List Nat) (mn : Mem) (hm : m = m0.join mn) (hd : Mem.Disj m0 mn) (h : Φ u (keepB ks B) mn) :
    RetNode (envX P Γ N W m0 ρ0 B0) u B m (RX (envX P [] 0 W m0 ρ0 B0) Φ Ψ) := by
  subst hm
  exact ⟨fun ρ W' hW hok => ⟨ρ, u, _, mn, rfl, hd, hok, (WS.cast (E := envX P Γ N W m0 ρ0 B0) (E' := envX P [] 0 W m0 ρ0 B0) rfl rfl rfl rfl hW).sub (fun _ _ => keepB_look), h⟩⟩

theorem Mem.Disj.join {m m1 m2 : Mem} (h1 : m.Disj m1) (h2 : (m.join m1).Disj m2) : m.Disj (m1.join m2) := by
  intro b o hb
  simp only [Mem.join, h1 b o hb]
  exact h2 b o (by simp [Mem.join, hb])
def Mem.none : Mem := fun _ => Option.none
theorem Mem.join_none (m : Mem) : m.join Mem.none = m := by
  funext b; simp only [Mem.join, Mem.none]; cases m b <;> rfl
theorem Mem.disj_none (m : Mem) : m.Disj Mem.none := fun _ _ _ => rfl
end Vc
end

section
open Go
namespace Vc
set_option maxHeartbeats 1000000

def noRdL : List Leaf → Bool
  | [] => true
  | l :: r => (match l with | .rd _ _ _ => false | _ => noRdL r)
def noRdP : List (Bool × List Leaf) → Bool
  | [] => true
  | p :: r => (match noRdL p.2 with | true => noRdP r | false => false)
def noRdAV : AV → Bool
  | .one l => noRdL [l]
  | .agg ls => noRdL ls
  | .tup vs => noRdP vs
  | .bad => true
def noRdB : Ents → Bool
  | [] => true
  | (_, .box cells _) :: r => (match noRdL cells with | true => noRdB r | false => false)
  | (_, .own _ _ _ _) :: r => noRdB r
theorem noRdL_ok {m m' : Mem} {l : List Leaf} (h : noRdL l = true) (hok : okL m l) : okL m' l := by
  induction l with
  | nil => intro x hx; cases hx
  | cons c r ih =>
    intro x hx
    have hr : noRdL r = true := by cases c <;> first | exact h | cases h
    rcases List.mem_cons.1 hx with rfl | hx
    · have := hok x List.mem_cons_self
      cases x with
      | rd a cs off => cases h
      | _ => exact this
    · exact ih hr (fun y hy => hok y (List.mem_cons_of_mem _ hy)) x hx
theorem noRdAV_ok {m m' : Mem} {v : AV} (h : noRdAV v = true) (hok : v.ok m) : v.ok m' := by
  cases v with
  | one l => exact noRdL_ok (l := [l]) h (fun x hx => by simp at hx; subst hx; exact hok) l (by simp)
  | agg ls => exact noRdL_ok h hok
  | tup vs =>
    have key : ∀ vs : List (Bool × List Leaf), noRdP vs = true → (∀ p ∈ vs, okL m p.2) → ∀ p ∈ vs, okL m' p.2 := by
      intro vs
      induction vs with
      | nil => intro _ _ p hp; cases hp
      | cons q r ih =>
        intro h hok p hp
        simp only [noRdP] at h
        split at h
        · rename_i hq
          rcases List.mem_cons.1 hp with rfl | hp
          · exact noRdL_ok hq (hok _ List.mem_cons_self)
          · exact ih h (fun p hp => hok p (List.mem_cons_of_mem _ hp)) p hp
        · cases h
    exact key vs h hok
  | bad => trivial
theorem noRdB_sat {m m' : Mem} {B : Ents} (h : noRdB B = true) {k : Nat} {e : Ent} (hk : look k B = some e) {ρ : Val} {W : World} (hs : e.sat ρ m W k) : e.sat ρ m' W k := by
  induction B with
  | nil => cases hk
  | cons p r ih =>
    obtain ⟨k', e'⟩ := p
    by_cases hkk : k = k'
    · subst hkk
      rw [look_cons_eq] at hk
      cases hk
      cases e with
      | box cells t =>
        simp only [noRdB] at h
        split at h
        · rename_i hc; exact ⟨hs.1, noRdL_ok hc hs.2⟩
        · cases h
      | own _ _ _ _ => exact hs
    · rw [look_cons_ne _ _ hkk] at hk
      refine ih ?_ hk
      cases e' with
      | box cells t => simp only [noRdB] at h; split at h <;> first | exact h | cases h
      | own _ _ _ _ => exact h

/-- The callee's entries are the caller's, by other names. -/
def sameB (f : Nat → Nat) : Ents → Ents → Prop
  | [], _ => True
  | (k, e) :: r, B => look (f k) B = some (renE f e) ∧ sameB f r B
def keysIn (l : List (Nat × Nat)) (B1 : Ents) : Bool :=
  match l with
  | [] => true
  | (k, _) :: r => (match look k B1 with | some _ => keysIn r B1 | none => false)
def keysOf (B1 : Ents) (l : List (Nat × Nat)) : Bool :=
  match B1 with
  | [] => true
  | (k, _) :: r => (match look k l with | some _ => keysOf r l | none => false)
def noneSnd (is : List Nat) (l : List (Nat × Nat)) : Bool :=
  match is with
  | [] => true
  | i :: r => (match notSnd i l with | true => noneSnd r l | false => false)
theorem noneSnd_spec {is : List Nat} {l : List (Nat × Nat)} (h : noneSnd is l = true) : ∀ i ∈ is, notSnd i l = true := by
  induction is with
  | nil => intro i hi; cases hi
  | cons j r ih =>
    simp only [noneSnd] at h
    split at h
    · rename_i hj
      intro i hi
      rcases List.mem_cons.1 hi with rfl | hi
      · exact hj
      · exact ih h i hi
    · cases h
theorem sameB_spec {f : Nat → Nat} {B1 B : Ents} (h : sameB f B1 B) {k : Nat} {e : Ent} (hk : look k B1 = some e) : look (f k) B = some (renE f e) := by
  induction B1 with
  | nil => cases hk
  | cons p r ih =>
    obtain ⟨k', e'⟩ := p
    by_cases hkk : k = k'
    · subst hkk; rw [look_cons_eq] at hk; cases hk; exact h.1
    · rw [look_cons_ne _ _ hkk] at hk; exact ih h.2 hk
theorem keysIn_spec {l : List (Nat × Nat)} {B1 : Ents} (h : keysIn l B1 = true) : ∀ p ∈ l, ∃ e, look p.1 B1 = some e := by
  induction l with
  | nil => intro p hp; cases hp
  | cons q r ih =>
    obtain ⟨k, j⟩ := q
    simp only [keysIn] at h
    split at h
    · rename_i e he
      intro p hp
      rcases List.mem_cons.1 hp with rfl | hp
      · exact ⟨e, he⟩
      · exact ih h p hp
    · cases h
theorem keysOf_spec {l : List (Nat × Nat)} {B1 : Ents} (h : keysOf B1 l = true) {k : Nat} {e : Ent} (hk : look k B1 = some e) : ∃ j, look k l = some j := by
  induction B1 with
  | nil => cases hk
  | cons p r ih =>
    obtain ⟨k', e'⟩ := p
    simp only [keysOf] at h
    split at h
    · rename_i j hj
      by_cases hkk : k = k'
      · subst hkk; exact ⟨j, hj⟩
      · rw [look_cons_ne _ _ hkk] at hk; exact ih h hk
    · cases h
theorem pinsOf_mem {ρ : Val} {B : Ents} {k : Nat} {e : Ent} (h : look k B = some e) : (k, ρ.blk k) ∈ pinsOf ρ B := by
  induction B with
  | nil => cases h
  | cons p r ih =>
    obtain ⟨k', e'⟩ := p
    by_cases hk : k = k'
    · subst hk; exact List.mem_cons_self
    · rw [look_cons_ne _ _ hk] at h; exact List.mem_cons_of_mem _ (ih h)
theorem pinsOf_spec {ρ : Val} {B : Ents} : ∀ p ∈ pinsOf ρ B, ρ.blk p.1 = p.2 := by
  induction B with
  | nil => intro p hp; cases hp
  | cons q r ih =>
    obtain ⟨k', e'⟩ := q
    intro p hp
    rcases List.mem_cons.1 hp with rfl | hp
    · rfl
    · exact ih p hp
theorem look_of_mem {base : Nat} {l : List (Nat × Nat)} (h : renOk base l = true) {k j : Nat} (hm : (k, j) ∈ l) : look k l = some j := by
  induction l with
  | nil => cases hm
  | cons q r ih =>
    obtain ⟨k', j'⟩ := q
    simp only [renOk] at h
    split at h
    · rename_i h1 h2
      rcases List.mem_cons.1 hm with he | hm
      · cases he; exact look_cons_eq ..
      · have := (renOk_fresh h2 _ hm).1
        rw [look_cons_ne _ _ this]
        exact ih h hm
    · cases h

structure CallOk (l : List (Nat × Nat)) (base : Nat) (is ws : List Nat) (F : Fr) (B B1 : Ents) (pins : List (Nat × Nat)) : Prop where
  ren : renOk base l = true
  fr : frStays l base F = true
  rest : entsStay l base (restB l B) = true
  pins : pinsBelow base pins = true
  dup : noDup is = true
  apart : noneSnd is l = true
  kept : noneSnd ws l = true
  keys : keysIn l B1 = true
  keys' : keysOf B1 l = true
def callOk (l : List (Nat × Nat)) (base : Nat) (is ws : List Nat) (F : Fr) (B B1 : Ents) (pins : List (Nat × Nat)) : Bool :=
  match renOk base l, frStays l base F, entsStay l base (restB l B), pinsBelow base pins, noDup is, noneSnd is l, noneSnd ws l, keysIn l B1, keysOf B1 l with
  | true, true, true, true, true, true, true, true, true => true
  | _, _, _, _, _, _, _, _, _ => false
theorem callOk_spec {l : List (Nat × Nat)} {base : Nat} {is ws : List Nat} {F : Fr} {B B1 : Ents} {pins : List (Nat × Nat)} (h : callOk l base is ws F B B1 pins = true) : CallOk l base is ws F B B1 pins := by
  unfold callOk at h
  split at h
  · rename_i h1 h2 h3 h4 h5 h6 h7 h8 h9
    exact ⟨h1, h2, h3, h4, h5, h6, h7, h8, h9⟩
  · cases h

section
variable {E : Env} {ρ : Val} {B : Ents} {m : Mem} {W : World} {l : List (Nat × Nat)} {base : Nat} {is ws : List Nat} {F : Fr} {B1 : Ents}

/-- The callee's start. -/
theorem call_start (hW : WS E ρ B m W) (hc : CallOk l base is ws F B B1 E.pins) (hB : sameB (renOf l base) B1 B) {mb : Mem} (hle : m.le mb) (hh : has W mb)
    (hn : ∀ b o, mb b = some o → m b = some o ∨ ∃ i, i ∈ is ∧ blockOf ρ B i = some b) : WS (envX E.P [] 0 W mb (ρ.pull (renOf l base)) B1) (ρ.pull (renOf l base)) B1 mb W := by
  have hinj := renOf_inj hc.ren
  have hblk : ∀ i b, blockOf (ρ.pull (renOf l base)) B1 i = some b → blockOf ρ B (renOf l base i) = some b ∧ ∃ j, (i, j) ∈ l ∧ renOf l base i = j := by
    intro i b hi
    unfold blockOf at hi ⊢
    cases hk : look i B1 with
    | none => rw [hk] at hi; cases hi
    | some e =>
      rw [hk] at hi
      rw [sameB_spec hB hk]
      obtain ⟨j, hj⟩ := keysOf_spec hc.keys' hk
      exact ⟨by simpa [renE_block] using hi, j, look_some_mem hj, by simp [renOf, hj]⟩
  refine ⟨fun i e hi => ?_, fun i b hi => ⟨?_, .inr ⟨i, hi⟩⟩, fun i j b hij hi hj => ?_, hh, Mem.le_refl _, fun b o hb => .inl hb, rfl, rfl, rfl, Nat.le_refl _, fun _ _ _ => rfl, pinsOf_spec⟩
  · have h1 := hW.ents _ _ (sameB_spec hB hi)
    exact Ent.sat_same (renE_sat.1 h1) hle ⟨rfl, rfl⟩ (fun _ _ _ => rfl) (fun _ _ => rfl)
  · obtain ⟨h1, j, hj, hje⟩ := hblk i b hi
    cases hmb : mb b with
    | none => rfl
    | some o =>
      rcases hn b o hmb with h2 | ⟨i', hi', hb'⟩
      · rw [(hW.fresh _ b h1).1] at h2; cases h2
      · have h3 := noneSnd_spec hc.apart i' hi'
        have h4 := notSnd_spec.1 h3 _ hj
        exact absurd hb' (hW.inj _ i' b (by rw [hje]; exact h4) h1)
  · obtain ⟨h1, _⟩ := hblk i b hi
    obtain ⟨h2, _⟩ := hblk j b hj
    exact hW.inj _ _ b (fun he => hij (hinj _ _ he)) h1 h2

/-- The caller's world behind the call. -/
theorem call_back (hW : WS E ρ B m W) (hc : CallOk l base is ws F B B1 E.pins) (hB : sameB (renOf l base) B1 B) {mb mn : Mem} {ρ' : Val} {B' : Ents} {W' : World} (hle : m.le mb) (hdis : mb.Disj mn)
    (hmbn : ∀ b o, mb b = some o → m b = some o ∨ ∃ i, i ∈ is ∧ blockOf ρ B i = some b)
    (hrd : noRdB B' = true) (h : WS (envX E.P [] 0 W mb (ρ.pull (renOf l base)) B1) ρ' B' (mb.join mn) W') :
    m.Disj mn ∧ WS E (ρ.back ρ' l base) (renB (renOf l base) B' ++ restB l B) (m.join mn) W' ∧ (∀ p ∈ l, ρ'.blk p.1 = ρ.blk p.2) ∧
      (∀ b, b ∈ ws → ∀ c t, look b B = some (.box c t) → W'.heap[ρ.blk b]? = W.heap[ρ.blk b]?) := by
  have hinj := renOf_inj hc.ren
  have hp : ∀ p ∈ l, ρ'.blk p.1 = ρ.blk p.2 := by
    intro p hpl
    obtain ⟨k, j⟩ := p
    obtain ⟨e, he⟩ := keysIn_spec hc.keys _ hpl
    have h1 := h.pin (k, (ρ.pull (renOf l base)).blk k) (pinsOf_mem he)
    simp only [Val.pull, renOf, look_of_mem hc.ren hpl] at h1
    exact h1
  have hdis' : m.Disj mn := fun b o hb => hdis b o (hle b o hb)
  have hjle : (m.join mn).le (mb.join mn) := by
    intro b o hb
    rcases Mem.join_some hb with h1 | ⟨_, h1⟩
    · exact Mem.le_join _ _ b o (hle b o h1)
    · exact Mem.join_right hdis b o h1
  -- the callee's blocks
  have hlent : ∀ b, (envX E.P [] 0 W mb (ρ.pull (renOf l base)) B1).lent b → ∃ j, notSnd j l = false ∧ blockOf ρ B j = some b := by
    rintro b ⟨i, hi⟩
    unfold blockOf at hi
    cases hk : look i B1 with
    | none => rw [hk] at hi; cases hi
    | some e =>
      rw [hk] at hi
      obtain ⟨j, hj⟩ := keysOf_spec hc.keys' hk
      refine ⟨j, ?_, ?_⟩
      · cases hns : notSnd j l with
        | false => rfl
        | true => exact absurd rfl (notSnd_spec.1 hns _ (look_some_mem hj))
      · have := sameB_spec hB hk
        have hf : renOf l base i = j := by simp [renOf, hj]
        rw [hf] at this
        unfold blockOf
        rw [this]
        have h2 := renE_block (f := renOf l base) (ρ := ρ) (k := i) (e := e)
        rw [hf] at h2
        simpa [h2] using hi
  have hsame : ∀ j b, notSnd j l = true → blockOf ρ B j = some b → W'.heap[b]? = W.heap[b]? := by
    intro j b hj hb
    refine h.old b (hW.block_lt hb) (fun hl => ?_)
    obtain ⟨j', hj', hb'⟩ := hlent b hl
    refine hW.inj j j' b (by rintro rfl; rw [hj] at hj'; cases hj') hb hb'
  have hmsame : ∀ b o, m b = some o → W'.heap[b]? = some o := fun b o hb => h.mem b o (Mem.le_join _ _ b o (hle b o hb))
  have hrestblk : ∀ j b, blockOf ρ (restB l B) j = some b → notSnd j l = true ∧ blockOf ρ B j = some b := by
    intro j b hj
    unfold blockOf at hj ⊢
    cases hk : look j (restB l B) with
    | none => rw [hk] at hj; cases hj
    | some e =>
      rw [hk] at hj
      obtain ⟨h1, h2⟩ := restB_look hk
      rw [h2]; exact ⟨h1, hj⟩
  have hrestlt : ∀ j e, look j (restB l B) = some e → j < base ∧ (∀ c t, e = .box c t → conL (ρ.back ρ' l base) c = conL ρ c) ∧ (ρ.back ρ' l base).blk j = ρ.blk j ∧ (ρ.back ρ' l base).sl j = ρ.sl j := by
    intro j e hj
    obtain ⟨h1, h2⟩ := entsStay_spec hc.rest hj
    exact ⟨h1, fun c t he => leavesStay_con hc.ren hp (h2 c t he), back_blk hc.ren hp h1, back_sl h1 (restB_look hj).1⟩
  have hpull := back_pull (ρ := ρ) (ρ' := ρ') (base := base) (l := l) hc.ren
  -- which entry a name has
  have hcases : ∀ j e, look j (renB (renOf l base) B' ++ restB l B) = some e → (∃ k e', look k B' = some e' ∧ j = renOf l base k ∧ e = renE (renOf l base) e') ∨ look j (restB l B) = some e := by
    intro j e hj
    rw [look_append] at hj
    split at hj
    · rename_i v hv
      cases hj
      exact .inl (renB_look hv hinj)
    · exact .inr hj
  have hblks : ∀ j b, blockOf (ρ.back ρ' l base) (renB (renOf l base) B' ++ restB l B) j = some b →
      (∃ k, j = renOf l base k ∧ blockOf ρ' B' k = some b) ∨ (notSnd j l = true ∧ blockOf ρ B j = some b) := by
    intro j b hj
    unfold blockOf at hj
    cases hk : look j (renB (renOf l base) B' ++ restB l B) with
    | none => rw [hk] at hj; cases hj
    | some e =>
      rw [hk] at hj
      rcases hcases j e hk with ⟨k, e', h1, rfl, rfl⟩ | h1
      · left
        refine ⟨k, rfl, ?_⟩
        unfold blockOf
        rw [h1]
        have h2 := renE_block (f := renOf l base) (ρ := ρ.back ρ' l base) (k := k) (e := e')
        rw [hpull] at h2
        simpa [h2] using hj
      · right
        have h2 := hrestlt j e h1
        have h3 := Ent.block_same (e := e) ⟨h2.2.2.1, h2.2.2.2⟩
        refine hrestblk j b ?_
        unfold blockOf
        rw [h1]
        simpa [h3] using hj
  have hcal : ∀ k b, blockOf ρ' B' k = some b → (mb.join mn) b = none ∧ (W.heap.size ≤ b ∨ ∃ j, notSnd j l = false ∧ blockOf ρ B j = some b) :=
    fun k b hk => ⟨(h.fresh k b hk).1, (h.fresh k b hk).2.imp id (hlent b)⟩
  refine ⟨hdis', ⟨?_, ?_, ?_, ?_, ?_, ?_, h.os.trans hW.os, h.tape.trans hW.tape, h.output.trans hW.output, Nat.le_trans hW.size h.size, ?_, ?_⟩, hp, ?_⟩
  · intro j e hj
    rcases hcases j e hj with ⟨k, e', h1, rfl, rfl⟩ | h1
    · refine renE_sat.2 ?_
      rw [hpull]
      exact noRdB_sat hrd h1 (h.ents k e' h1)
    · obtain ⟨h2, h3⟩ := restB_look h1
      obtain ⟨_, h4, h5, h6⟩ := hrestlt j e h1
      exact Ent.sat_same (hW.ents j e h3) (Mem.le_join _ _) ⟨h5, h6⟩ h4 (fun b hb => hsame j b h2 (by unfold blockOf; rw [h3]; exact hb))
  · intro j b hj
    rcases hblks j b hj with ⟨k, rfl, hk⟩ | ⟨h1, h2⟩
    · obtain ⟨h3, h4⟩ := hcal k b hk
      refine ⟨?_, ?_⟩
      · cases hx : (m.join mn) b with
        | none => rfl
        | some o => rw [hjle b o hx] at h3; cases h3
      · rcases h4 with h4 | ⟨j', _, h4⟩
        · exact .inl (Nat.le_trans hW.size h4)
        · exact (hW.fresh j' b h4).2
    · obtain ⟨h3, h4⟩ := hW.fresh j b h2
      refine ⟨?_, h4⟩
      cases hx : (m.join mn) b with
      | none => rfl
      | some o =>
        rcases Mem.join_some hx with h5 | ⟨_, h5⟩
        · rw [h3] at h5; cases h5
        · rcases h.new b o (Mem.join_right hdis b o h5) with h6 | h6 | h6
          · rw [hdis b o h6] at h5; cases h5
          · have := hW.block_lt h2; simp only [envX] at h6; omega
          · obtain ⟨j', hj', hb'⟩ := hlent b h6
            exact absurd hb' (hW.inj j j' b (by rintro rfl; rw [h1] at hj'; cases hj') h2)
  · intro i j b hij hi hj
    rcases hblks i b hi with ⟨k, rfl, hk⟩ | ⟨h1, h2⟩ <;> rcases hblks j b hj with ⟨k', rfl, hk'⟩ | ⟨h1', h2'⟩
    · exact h.inj k k' b (by rintro rfl; exact hij rfl) hk hk'
    · rcases (hcal k b hk).2 with h4 | ⟨j', hj', h4⟩
      · have := hW.block_lt h2'; omega
      · exact hW.inj j j' b (by rintro rfl; rw [h1'] at hj'; cases hj') h2' h4
    · rcases (hcal k' b hk').2 with h4 | ⟨j', hj', h4⟩
      · have := hW.block_lt h2; omega
      · exact hW.inj i j' b (by rintro rfl; rw [h1] at hj'; cases hj') h2 h4
    · exact hW.inj i j b hij h2 h2'
  · intro b o hb
    exact h.mem b o (hjle b o hb)
  · intro b o hb
    exact Mem.le_join _ _ b o (hW.le b o hb)
  · intro b o hb
    rcases Mem.join_some hb with h1 | ⟨h0, h1⟩
    · exact hW.new b o h1
    · rcases h.new b o (Mem.join_right hdis b o h1) with h6 | h6 | h6
      · have h6 : mb b = some o := h6
        rw [hdis b o h6] at h1; cases h1
      · exact .inr (.inl (Nat.le_trans hW.size h6))
      · obtain ⟨j', _, hb'⟩ := hlent b h6
        exact .inr (hW.fresh j' b hb').2
  · intro k hk hl
    have hlt : k < W.heap.size := Nat.lt_of_lt_of_le hk hW.size
    have : W'.heap[k]? = W.heap[k]? := by
      refine h.old k hlt (fun hle' => ?_)
      obtain ⟨j', _, hb'⟩ := hlent k hle'
      rcases (hW.fresh j' k hb').2 with h6 | h6
      · omega
      · exact hl h6
    rw [this]
    exact hW.old k hk hl
  · intro p hpp
    have hlt := pinsBelow_spec hc.pins p hpp
    rw [back_blk hc.ren hp hlt]
    exact hW.pin p hpp
  · intro b hb c t hbb
    exact hsame b _ (noneSnd_spec hc.kept b hb) (by unfold blockOf; rw [hbb]; rfl)
end

/-- **A call by its contract**: l says which of the caller's entries stand for which of the callee's; from base on new names; the rows 'is' are only read. -/
theorem callXK {E : Env} {f : FuncId} {args : List AV} {ws : List Nat} {d : Option Nat} {F : Fr} {B : Ents} {m : Mem} {K : Cont} {Q : SPost} (l : List (Nat × Nat)) (base : Nat) (is : List Nat) {B1 : Ents} {Φ : AV → Ents → Mem → Prop} {Ψ : List PanicEntry → Ents → Mem → Prop}
    (hc : callOk l base is ws F B B1 E.pins = true) (hB : sameB (renOf l base) B1 B)
    (h : Borrow is B m args fun args' mb => ∃ argsC, renAVs (renOf l base) argsC = args' ∧ FnX E.P f mb argsC B1 Φ Ψ)
    (hK : ∀ u B' mn, Mem.Disj m mn → Φ u B' mn → noRdAV u = true ∧ noRdB B' = true ∧ putK E d (renAV (renOf l base) u) F (renB (renOf l base) B' ++ restB l B) (m.join mn) K)
    (hP : ∀ ch B' mn, Mem.Disj m mn → Ψ ch B' mn → noRdB B' = true ∧ Q (.panic ch) F (renB (renOf l base) B' ++ restB l B) (m.join mn)) : KeptNode E f args ws d F B m K Q := by
  have hc := callOk_spec hc
  refine ⟨fun ρ W hW => ?_⟩
  obtain ⟨mb, args', hle, hh, hn, hargs, argsC, hren, hf⟩ := borrow_sound hW is (seen := []) hc.dup (fun _ _ h => by cases h) (Mem.le_refl m) hW.mem (fun b o hb => .inl hb) h
  have hn' : ∀ b o, mb b = some o → m b = some o ∨ ∃ i, i ∈ is ∧ blockOf ρ B i = some b := fun b o hb => (hn b o hb).imp id (fun ⟨i, h1, h2⟩ => ⟨i, h1.elim (fun h => by cases h) id, h2⟩)
  have hstart := call_start hW hc hB hle hh hn'
  have hcall := hf _ W hstart
  rw [← renAVs_con, hren, hargs] at hcall
  refine hcall.mono fun e W' he => ?_
  cases e with
  | returned v =>
    obtain ⟨ρ', u, B', mn, rfl, hdis, hok, hW', hΦ⟩ := he
    obtain ⟨h1, h2, h3⟩ := hK u B' mn (fun b o hb => hdis b o (hle b o hb)) hΦ
    obtain ⟨hd, hWn, hp, hkept⟩ := call_back hW hc hB hle hdis hn' h2 hW'
    refine ⟨hkept, ρ.back ρ' l base, _, _, renAV (renOf l base) u, ?_, renAV_ok.2 (noRdAV_ok h1 hok), Mem.le_join _ _, frStays_con hc.ren hp hc.fr, hWn, h3⟩
    rw [renAV_con, back_pull hc.ren]
  | panicked ch =>
    obtain ⟨ρ', B', mn, hdis, hW', hΨ⟩ := he
    obtain ⟨h2, h3⟩ := hP ch B' mn (fun b o hb => hdis b o (hle b o hb)) hΨ
    obtain ⟨hd, hWn, hp, hkept⟩ := call_back hW hc hB hle hdis hn' h2 hW'
    exact ⟨hkept, ρ.back ρ' l base, _, _, Mem.le_join _ _, frStays_con hc.ren hp hc.fr, hWn, h3⟩
  | outgrown => exact he.elim

theorem KeptNode.call {E : Env} {f : FuncId} {args : List AV} {ws : List Nat} {d : Option Nat} {F : Fr} {B : Ents} {m : Mem} {K : Cont} {Q : SPost} (h : KeptNode E f args ws d F B m K Q) : CallNode E f args d F B m K Q :=
  ⟨fun ρ W hW => (h.out ρ W hW).mono fun _ _ h => h.2⟩

/-- A call that only reads, rows of the caller's own among them. -/
theorem callSP {E : Env} {f : FuncId} {args : List AV} {d : Option Nat} {F : Fr} {B : Ents} {m : Mem} {K : Cont} (is : List Nat) {v : Value} (hd : noDup is = true)
    (h : Borrow is B m args fun args' mb => ∃ vals, avals args' = some vals ∧ FnS E.P f mb vals v) (ho : oneV v = true)
    (hK : putK E d (ofRes v) F B m K) : PureNode E f args d F B m K := by
  refine ⟨fun ρ W hW => ?_⟩
  obtain ⟨mb, args', hle, hh, hn, hargs, vals, hv, hf⟩ := borrow_sound hW is (seen := []) hd (fun _ _ h => by cases h) (Mem.le_refl m) hW.mem (fun b o hb => .inl hb) h
  have h1 := hf W hh
  rw [← avals_con (ρ := ρ) hv, hargs] at h1
  refine h1.mono fun e W' he => ?_
  obtain ⟨rfl, hb⟩ := he
  exact ⟨hb, ofRes v, by rw [ofRes_con], oneV_ok ho, hK⟩
theorem PureNode.kept {E : Env} {f : FuncId} {args : List AV} {ws : List Nat} {d : Option Nat} {F : Fr} {B : Ents} {m : Mem} {K : Cont} {Q : SPost} (h : PureNode E f args d F B m K) : KeptNode E f args ws d F B m K Q :=
  ⟨fun ρ W hW => (h.out ρ W hW).mono fun e W' he => by
    obtain ⟨hb, u, rfl, hok, hK⟩ := he
    have hlt : ∀ b o, m b = some o → b < W.heap.size := fun b o hbo => lt_of_heap (hW.mem b o hbo)
    exact ⟨fun b _ c t hbb => hb.block _ (hW.block_lt (i := b) (by unfold blockOf; rw [hbb]; rfl)), ρ, B, m, u, rfl, hok, fun _ _ h => h, fun _ _ _ => rfl, hW.call (fun _ _ h => h) (fun b o hbo => (hb.block b (hlt b o hbo)).trans (hW.mem b o hbo)) (fun _ _ h => .inl h) hb, hK⟩⟩

/-! ### A known Bool is a Bool -/
def unkbLeaf : Leaf → Leaf
  | .kb b => .v (.bool b)
  | l => l
def unkbL : List Leaf → List Leaf
  | [] => []
  | l :: r => unkbLeaf l :: unkbL r
def unkbP : List (Bool × List Leaf) → List (Bool × List Leaf)
  | [] => []
  | p :: r => (p.1, unkbL p.2) :: unkbP r
def unkb : AV → AV
  | .one l => .one (unkbLeaf l)
  | .agg ls => .agg (unkbL ls)
  | .tup vs => .tup (unkbP vs)
  | .bad => .bad
def unkbE : Ent → Ent
  | .box cells t => .box (unkbL cells) t
  | e => e
section
variable {ρ : Val} {m : Mem}
theorem unkbLeaf_con (l : Leaf) : (unkbLeaf l).con ρ = l.con ρ := by cases l <;> rfl
theorem unkbLeaf_ok (l : Leaf) : (unkbLeaf l).ok m ↔ l.ok m := by
  cases l <;> first | exact Iff.rfl | exact ⟨fun _ => trivial, fun _ => rfl⟩
theorem unkbL_con (l : List Leaf) : conL ρ (unkbL l) = conL ρ l := by
  induction l with
  | nil => rfl
  | cons x r ih => simp only [conL, unkbL, List.map_cons, unkbLeaf_con] at *; rw [ih]
theorem unkbL_ok (l : List Leaf) : okL m (unkbL l) ↔ okL m l := by
  induction l with
  | nil => exact Iff.rfl
  | cons x r ih => simp only [okL, unkbL, List.forall_mem_cons, unkbLeaf_ok] at *; rw [ih]
theorem unkbL_len (l : List Leaf) : (unkbL l).length = l.length := by
  induction l with
  | nil => rfl
  | cons x r ih => simp [unkbL, ih]
theorem partCon_unkb (b : Bool) (ls : List Leaf) : partCon ρ (b, unkbL ls) = partCon ρ (b, ls) := by
  cases b with
  | true => simp [partCon, unkbL_con]
  | false =>
    match ls with
    | [] => rfl
    | [l] => exact unkbLeaf_con l
    | x :: y :: z => simp only [partCon, unkbL]; have := unkbL_con (ρ := ρ) (x :: y :: z); simp only [unkbL] at this; rw [this]
theorem unkb_con (v : AV) : (unkb v).con ρ = v.con ρ := by
  cases v with
  | one l => exact unkbLeaf_con l
  | agg ls => simp [unkb, AV.con, unkbL_con]
  | tup vs =>
    simp only [unkb, AV.con]
    congr 2
    induction vs with
    | nil => rfl
    | cons p r ih => simp only [unkbP, List.map_cons, ih]; rw [partCon_unkb]
  | bad => rfl
theorem unkb_ok (v : AV) : (unkb v).ok m ↔ v.ok m := by
  cases v with
  | one l => exact unkbLeaf_ok l
  | agg ls => exact unkbL_ok ls
  | tup vs =>
    simp only [unkb, AV.ok]
    induction vs with
    | nil => exact Iff.rfl
    | cons p r ih => simp only [unkbP, List.forall_mem_cons, unkbL_ok, ih]
  | bad => exact Iff.rfl
theorem unkbE_sat {e : Ent} {W : World} {i : Nat} : (unkbE e).sat ρ m W i ↔ e.sat ρ m W i := by
  cases e with
  | box cells t => simp only [unkbE, Ent.sat, unkbL_con, unkbL_ok]
  | own _ _ _ _ => exact Iff.rfl
theorem unkbE_block {e : Ent} {i : Nat} : (unkbE e).block ρ i = e.block ρ i := by cases e <;> rfl
end
def mapO {α β : Type} (f : α → β) : Option α → Option β
  | some x => some (f x)
  | none => none

/-! ### Another state that holds too, by other names -/
def subF (g : Nat → Nat) : Fr → Fr → Prop
  | [], _ => True
  | (d, v) :: r, F => mapO unkb (look d F) = some (unkb (renAV g v)) ∧ subF g r F
theorem subF_spec {g : Nat → Nat} {F' F : Fr} (h : subF g F' F) {d : Nat} {v : AV} (hd : look d F' = some v) : ∃ v0, look d F = some v0 ∧ unkb v0 = unkb (renAV g v) := by
  induction F' with
  | nil => cases hd
  | cons p r ih =>
    obtain ⟨d', v'⟩ := p
    by_cases hk : d = d'
    · subst hk; rw [look_cons_eq] at hd; cases hd
      have h1 := h.1
      cases hl : look d F with
      | none => rw [hl] at h1; cases h1
      | some v0 => rw [hl] at h1; exact ⟨v0, rfl, by simpa [mapO] using h1⟩
    · rw [look_cons_ne _ _ hk] at hd; exact ih h.2 hd
def subB (g : Nat → Nat) : Ents → Ents → Prop
  | [], _ => True
  | (k, e) :: r, B => mapO unkbE (look (g k) B) = some (unkbE (renE g e)) ∧ subB g r B
theorem subB_spec {f : Nat → Nat} {B1 B : Ents} (h : subB f B1 B) {k : Nat} {e : Ent} (hk : look k B1 = some e) : ∃ e0, look (f k) B = some e0 ∧ unkbE e0 = unkbE (renE f e) := by
  induction B1 with
  | nil => cases hk
  | cons p r ih =>
    obtain ⟨k', e'⟩ := p
    by_cases hkk : k = k'
    · subst hkk; rw [look_cons_eq] at hk; cases hk
      have h1 := h.1
      cases hl : look (f k) B with
      | none => rw [hl] at h1; cases h1
      | some v0 => rw [hl] at h1; exact ⟨v0, rfl, by simpa [mapO] using h1⟩
    · rw [look_cons_ne _ _ hkk] at hk; exact ih h.2 hk
/-- The names are moved; l: (new, old). -/
def renS (l : List (Nat × Nat)) (k : Nat) : Nat := match look k l with
  | some j => j
  | none => k
def renSOk (l : List (Nat × Nat)) (B' : Ents) : Bool := match B' with
  | [] => true
  | (k, _) :: r => (match go k r with | true => renSOk l r | false => false)
 where
  go (k : Nat) : Ents → Bool
    | [] => true
    | (k', _) :: r => (match Nat.beq k k', Nat.beq (renS l k) (renS l k') with
      | false, true => false
      | _, _ => go k r)
theorem renSOk_spec {l : List (Nat × Nat)} {B' : Ents} (h : renSOk l B' = true) : ∀ {i j : Nat} {e e' : Ent}, look i B' = some e → look j B' = some e' → renS l i = renS l j → i = j := by
  have hgo : ∀ {k : Nat} {r : Ents}, renSOk.go l k r = true → ∀ {j : Nat} {e : Ent}, look j r = some e → renS l k = renS l j → k = j := by
    intro k r
    induction r with
    | nil => intro _ j e hj; cases hj
    | cons p s ih =>
      obtain ⟨k', e'⟩ := p
      intro h j e hj he
      simp only [renSOk.go] at h
      by_cases hjk : j = k'
      · subst hjk
        cases h1 : Nat.beq k j with
        | true => exact Nat.eq_of_beq_eq_true h1
        | false =>
          rw [h1, he] at h
          simp at h
      · rw [look_cons_ne _ _ hjk] at hj
        refine ih ?_ hj he
        split at h
        · cases h
        · exact h
  induction B' with
  | nil => intro i j e e' hi; cases hi
  | cons p r ih =>
    obtain ⟨k, e0⟩ := p
    simp only [renSOk] at h
    split at h
    · rename_i hg
      intro i j e e' hi hj he
      by_cases hik : i = k
      · subst hik
        by_cases hjk : j = i
        · exact hjk.symm
        · rw [look_cons_ne _ _ hjk] at hj
          exact hgo hg hj he
      · rw [look_cons_ne _ _ hik] at hi
        by_cases hjk : j = k
        · subst hjk
          exact (hgo hg hi he.symm).symm
        · rw [look_cons_ne _ _ hjk] at hj
          exact ih h hi hj he
    · cases h

def pinsFix (l : List (Nat × Nat)) : List (Nat × Nat) → Bool
  | [] => true
  | p :: r => (match Nat.beq (renS l p.1) p.1 with | true => pinsFix l r | false => false)
theorem pinsFix_spec {l pins : List (Nat × Nat)} (h : pinsFix l pins = true) : ∀ p ∈ pins, renS l p.1 = p.1 := by
  induction pins with
  | nil => intro p hp; cases hp
  | cons q r ih =>
    simp only [pinsFix] at h
    split at h
    · rename_i hq
      intro p hp
      rcases List.mem_cons.1 hp with rfl | hp
      · exact Nat.eq_of_beq_eq_true hq
      · exact ih h p hp
    · cases h

theorem entails_ren {E : Env} {F F' : Fr} {B B' : Ents} {m : Mem} (l : List (Nat × Nat)) (hF : subF (renS l) F' F) (hB : subB (renS l) B' B) (hi : renSOk l B' = true) (hp : pinsFix l E.pins = true) : Entails E F B m F' B' m := by
  intro ρ a W hW hFS
  have hblk : ∀ i b, blockOf (ρ.pull (renS l)) B' i = some b → blockOf ρ B (renS l i) = some b := by
    intro i b hib
    unfold blockOf at hib ⊢
    cases hk : look i B' with
    | none => rw [hk] at hib; cases hib
    | some e =>
      rw [hk] at hib
      obtain ⟨e0, h1, h2⟩ := subB_spec hB hk
      rw [h1]
      have h3 := congrArg (fun e => Ent.block ρ (renS l i) e) h2
      simp only [unkbE_block, renE_block] at h3
      simpa [h3] using hib
  refine ⟨ρ.pull (renS l), ⟨fun i e hi' => ?_, fun i b hib => hW.fresh _ b (hblk i b hib), fun i j b hij hib hjb => ?_, hW.mem, hW.le, hW.new, hW.os, hW.tape, hW.output, hW.size, hW.old, fun p hpp => by simp only [Val.pull, pinsFix_spec hp p hpp]; exact hW.pin p hpp⟩,
    ⟨hFS.size, fun d v hd => ?_, hFS.defers⟩⟩
  · obtain ⟨e0, h1, h2⟩ := subB_spec hB hi'
    have h3 := hW.ents _ _ h1
    rw [← unkbE_sat, h2, unkbE_sat] at h3
    exact renE_sat.1 h3
  · refine hW.inj _ _ b (fun he => ?_) (hblk i b hib) (hblk j b hjb)
    unfold blockOf at hib hjb
    cases hk : look i B' with
    | none => rw [hk] at hib; cases hib
    | some e =>
      cases hk' : look j B' with
      | none => rw [hk'] at hjb; cases hjb
      | some e' => exact hij (renSOk_spec hi hk hk' he)
  · obtain ⟨v0, h1, h2⟩ := subF_spec hF hd
    obtain ⟨h3, h4⟩ := hFS.vals d _ h1
    refine ⟨?_, ?_⟩
    · rw [h3, ← unkb_con, h2, unkb_con, renAV_con]
    · rw [← unkb_ok, h2, unkb_ok] at h4
      exact renAV_ok.1 h4
end Vc
end

section
open Go
namespace Vc

/-! ### == of structs of plain fields -/
def fitsF (fit : TypeId → List Value → Bool) (P : Program) : List Field → Nat → List Value → Bool
  | [], _, [] => true
  | [], _, _ :: _ => false
  | f :: fs, off, xs => Nat.beq f.offset off && (f.name != "_") && fit f.type (xs.take (P.cellsOf f.type)) && fitsF fit P fs (off + P.cellsOf f.type) (xs.drop (P.cellsOf f.type))
def fits (P : Program) : Nat → TypeId → List Value → Bool
  | 0, _, _ => false
  | n + 1, t, xs => match P.underlying t with
    | some .bool => (match xs with | [.bool _] => true | _ => false)
    | some (.int k) => (match xs with | [.int k' _] => kindEq k k' | _ => false)
    | some .string => (match xs with | [.string _] => true | _ => false)
    | some (.struct fs) => !P.stoodInHeld t && fitsF (fits P n) P fs.toList 0 xs
    | _ => false
def mkT (P : Program) (t : TypeId) (xs : List Value) : Value := match P.underlying t with
  | some (.struct _) => .agg xs.toArray
  | _ => xs.headD undef

section
variable {P : Program}
def EqT (P : Program) (n : Nat) : Prop := ∀ (t : TypeId) (d : Nat) (W : World) (xs ys : List Value), fits P n t xs = true → fits P n t ys = true →
  ∃ r : Bool, (Op.equalIn (d + n) t (mkT P t xs) (mkT P t ys)).run P W = .ok r W ∧ (r = true ↔ xs = ys)

theorem part_run {n : Nat} {t : TypeId} {full xs : List Value} {off : Nat} (W : World) (hx : full.drop off = xs) (hf : fits P n t (xs.take (P.cellsOf t)) = true) :
    (part t full.toArray off).run P W = .ok (mkT P t (xs.take (P.cellsOf t))) W := by
  subst hx
  cases n with
  | zero => cases hf
  | succ n =>
    have one : ∀ v, (full.drop off).take (P.cellsOf t) = [v] → full[off]? = some v := by
      intro v hv
      have : ((full.drop off).take (P.cellsOf t))[0]? = some v := by rw [hv]; rfl
      rw [List.getElem?_take] at this
      split at this
      · rw [List.getElem?_drop] at this; simpa using this
      · cases this
    unfold fits at hf
    cases hu : P.underlying t with
    | none => rw [hu] at hf; cases hf
    | some dsc =>
      rw [hu] at hf
      cases dsc <;> simp only [Bool.false_eq_true] at hf
      case bool =>
        split at hf
        · rename_i b hb
          simp [part, isAgg, run_underlying hu, one _ hb, mkT, hu, hb]
        · cases hf
      case int k =>
        split at hf
        · rename_i k' z hb
          simp [part, isAgg, run_underlying hu, one _ hb, mkT, hu, hb]
        · cases hf
      case string =>
        split at hf
        · rename_i s hb
          simp [part, isAgg, run_underlying hu, one _ hb, mkT, hu, hb]
        · cases hf
      case struct fs =>
        obtain ⟨i, hi⟩ := info_of_underlying hu
        simp only [part, isAgg, Sem.run_bind, run_underlying hu, Result.andThen_ok, Sem.run_pure, if_true, run_sizeOf W hi, mkT, hu]
        congr 2
        apply Array.ext'
        simp [List.extract_eq_take_drop]

theorem fields_run {n : Nat} (ih : EqT P n) (d : Nat) (fx fy : List Value) (W : World) : ∀ (fs : List Field) (off : Nat) (xs ys : List Value), fx.drop off = xs → fy.drop off = ys → fitsF (fits P n) P fs off xs = true → fitsF (fits P n) P fs off ys = true →
    ∃ r : Bool, (Op.eqFields (d + n) fx.toArray fy.toArray fs).run P W = .ok r W ∧ (r = true ↔ xs = ys) := by
  intro fs
  induction fs with
  | nil =>
    intro off xs ys _ _ h1 h2
    cases xs <;> cases ys <;> first | cases h1; done | cases h2; done | exact ⟨true, by simp [Op.eqFields], by simp⟩
  | cons f fs ihf =>
    intro off xs ys hx hy h1 h2
    simp only [fitsF, Bool.and_eq_true] at h1 h2
    obtain ⟨⟨⟨ho, hn⟩, hfx⟩, hrx⟩ := h1
    obtain ⟨⟨⟨_, _⟩, hfy⟩, hry⟩ := h2
    have ho := Nat.eq_of_beq_eq_true ho
    have hn : f.name ≠ "_" := by simpa using hn
    obtain ⟨r, hr, hiff⟩ := ih f.type d W _ _ hfx hfy
    obtain ⟨r', hr', hiff'⟩ := ihf (off + P.cellsOf f.type) _ _ (by rw [← hx, List.drop_drop]) (by rw [← hy, List.drop_drop]) hrx hry
    have p1 := part_run W hx hfx
    have p2 := part_run W hy hfy
    simp only [Op.eqFields, hn, ne_eq, not_false_eq_true, if_true, ho, Sem.run_bind, p1, p2, hr, Result.andThen_ok]
    have hsplit : xs = ys ↔ (xs.take (P.cellsOf f.type) = ys.take (P.cellsOf f.type) ∧ xs.drop (P.cellsOf f.type) = ys.drop (P.cellsOf f.type)) :=
      ⟨fun h => by rw [h]; exact ⟨rfl, rfl⟩, fun ⟨h3, h4⟩ => by rw [← List.take_append_drop (P.cellsOf f.type) xs, h3, h4, List.take_append_drop]⟩
    cases r with
    | false => exact ⟨false, by simp, by simp; intro h; exact absurd (hiff.2 (hsplit.1 h).1) (by simp)⟩
    | true => exact ⟨r', by simpa using hr', by rw [hiff', hsplit]; simp [hiff.1 rfl]⟩

theorem eqT (n : Nat) : EqT P n := by
  induction n with
  | zero => intro t d W xs ys h; cases h
  | succ n ih =>
    intro t d W xs ys hx hy
    unfold fits at hx hy
    cases hu : P.underlying t with
    | none => rw [hu] at hx; cases hx
    | some dsc =>
      rw [hu] at hx hy
      cases dsc <;> simp only [Bool.false_eq_true] at hx
      case bool =>
        split at hx
        · rename_i b
          have hy' : ∃ b', ys = [.bool b'] := by
            simp only at hy
            split at hy
            · rename_i b'; exact ⟨b', rfl⟩
            · cases hy
          obtain ⟨b', rfl⟩ := hy'
          · refine ⟨b == b', ?_, by simp⟩
            rw [show d + (n + 1) = (d + n) + 1 from rfl]
            simp [Op.equalIn, run_underlying hu, mkT, hu]
        · cases hx
      case int k =>
        split at hx
        · rename_i k1 z
          have hy' : ∃ k2 z', ys = [.int k2 z'] ∧ kindEq k k2 = true := by
            simp only at hy
            split at hy
            · rename_i k2 z'; exact ⟨k2, z', rfl, hy⟩
            · cases hy
          obtain ⟨k2, z', rfl, hy⟩ := hy'
          · have h1 := kindEq_spec hx
            have h2 := kindEq_spec hy
            subst h1 h2
            refine ⟨z == z', ?_, by simp⟩
            rw [show d + (n + 1) = (d + n) + 1 from rfl]
            simp [Op.equalIn, run_underlying hu, mkT, hu]
        · cases hx
      case string =>
        split at hx
        · rename_i b
          have hy' : ∃ b', ys = [.string b'] := by
            simp only at hy
            split at hy
            · rename_i b'; exact ⟨b', rfl⟩
            · cases hy
          obtain ⟨b', rfl⟩ := hy'
          · refine ⟨b == b', ?_, by rw [List.cons_eq_cons]; simp only [Value.string.injEq, and_true]; rw [beq_toListBytes, toList_eq_iff]; exact decide_eq_true_iff⟩
            rw [show d + (n + 1) = (d + n) + 1 from rfl]
            simp [Op.equalIn, run_underlying hu, mkT, hu]
        · cases hx
      case struct fs =>
        simp only [Bool.and_eq_true, Bool.not_eq_true'] at hx hy
        have hfo : P.fieldsOf t = fs := by simp [Program.fieldsOf, hu]
        obtain ⟨r, hr, hiff⟩ := fields_run ih d xs ys W fs.toList 0 xs ys rfl rfl hx.2 hy.2
        refine ⟨r, ?_, hiff⟩
        rw [show d + (n + 1) = (d + n) + 1 from rfl]
        simp only [mkT, hu]
        rw [run_equalIn_agg W (d + n) t _ _ (by rw [hfo]; exact hu) hx.1, hfo]
        exact hr

def isStructB : Option TypeDesc → Bool
  | some (.struct _) => true
  | _ => false
theorem run_eq {t : TypeId} {xs ys : List Value} (n : Nat) (hn : Nat.ble n 10000 = true) (hg : P.eqGuardType P.depth t = false) (hs : isStructB (P.underlying t) = true) (hx : fits P n t xs = true) (hy : fits P n t ys = true) {q : Prop} [Decidable q] (hq : xs = ys ↔ q) (W : World) :
    ((do eqGuard .eql t (.tmp 0) (.tmp 0) (.agg xs.toArray) (.agg ys.toArray); binOp .eql t (.agg xs.toArray) (.agg ys.toArray)) : Sem Value).run P W = .ok (.bool (decide q)) W ∧
    ((do eqGuard .neq t (.tmp 0) (.tmp 0) (.agg xs.toArray) (.agg ys.toArray); binOp .neq t (.agg xs.toArray) (.agg ys.toArray)) : Sem Value).run P W = .ok (.bool (!decide q)) W := by
  have hn := Nat.le_of_ble_eq_true hn
  obtain ⟨r, hr, hiff⟩ := eqT n t (10000 - n) W xs ys hx hy
  have hmk : ∀ l : List Value, mkT P t l = .agg l.toArray := by
    intro l
    unfold mkT
    cases hu : P.underlying t with
    | none => rw [hu] at hs; cases hs
    | some d => rw [hu] at hs; cases d <;> first | rfl | cases hs
  rw [hmk, hmk, show 10000 - n + n = 10000 from by omega] at hr
  have hrq : r = decide q := by
    cases r with
    | true => exact (decide_eq_true (hq.1 (hiff.1 rfl))).symm
    | false => exact (decide_eq_false (fun h => by have := hiff.2 (hq.2 h); cases this)).symm
  subst hrq
  refine ⟨?_, ?_⟩
  · rw [Sem.run_bind, run_eqGuard_agg W _ _ _ _ _ _ hg, Result.andThen_ok]
    simp [binOp, Op.equal, Op.maxDepth, hr]
  · rw [Sem.run_bind, run_eqGuard_agg W _ _ _ _ _ _ hg, Result.andThen_ok]
    simp [binOp, Op.equal, Op.maxDepth, hr]
end
end Vc
end

section
open Go
namespace Vc
set_option maxHeartbeats 1000000

/-! ### A drawn region whose operations look at nothing, but for the last one, which does whatever it does -/
def isNothing : Looks → Bool
  | .nothing => true
  | _ => false
def vc0 (E : Env) (ops : List Oper) (Q : SPost) (j : Nat) (K : Cont) : List Nat → Cont
  | [] => fun F B m => (match ops[j]? with
    | some o => guardK ops o (fun F => vcOp E o K Q F B m) (fun F => K (skipF o F) B m) F
    | none => False)
  | i :: r => fun F B m => (match ops[i]? with
    | some o => guardK ops o (fun F => (match isNothing (looksAt F o.op) with | true => vcOp E o (vc0 E ops Q j K r) Q F B m | false => False)) (fun F => vc0 E ops Q j K r (skipF o F) B m) F
    | none => False)
def sch0Ok (ops : Array Oper) (j : Nat) : Nat → List Nat → Array Bool → Bool
  | 0, _, _ => false
  | _ + 1, [], L => Region.ready .any ops L == [j] && (Region.ready .any ops (L.setIfInBounds j true)).isEmpty
  | n + 1, i :: r, L => Region.free .any ops L i && (Region.ready .any ops L).contains i && quietAt ops i && sch0Ok ops j n r (L.setIfInBounds i true)
def plan0Ok (ops : Array Oper) (is : List Nat) (j : Nat) : Bool := Region.noSelect ops && sch0Ok ops j ops.size is (Array.replicate ops.size false)

section
variable {E : Env} (hΓ : TypesOk E.P E.Γ) {ops : Array Oper} {Q : SPost} {K : Cont}
include hΓ
theorem vc0_sound (hsel : Region.noSelect ops = true) {j : Nat} (is : List Nat) :
    ∀ {n : Nat} {L : Array Bool} {ρ : Val} {B : Ents} {m : Mem} {F : Fr} {a : Act} {W : World}, sch0Ok ops j n is L = true → Closed ops L → WS E ρ B m W → FS E ρ m F a →
      vc0 E ops.toList (quietQ Q) j K is F B m → wpAnyG E.P ops (QN E K (quietQ Q)) (fun _ _ => True) n L a W := by
  have hpan : ∀ c (a a' : Act) w, a.tmps.size = a'.tmps.size → a.defers = a'.defers → QN E K (quietQ Q) (.panic c) a w → QN E K (quietQ Q) (.panic c) a' w := by
    rintro c a a' w hs hd ⟨ρ, F, B, m, hq, hW, hF⟩
    exact ⟨ρ, [], B, m, hq, hW, ⟨by rw [← hs]; exact hF.size, fun d v hv => (by cases hv), by rw [← hd]; exact hF.defers⟩⟩
  have hput : ∀ (a : Act) d v, (a.put d v).tmps.size = a.tmps.size ∧ (a.put d v).defers = a.defers := by
    intro a d v
    cases d with
    | none => exact ⟨rfl, rfl⟩
    | some d => simp [Act.put]
  induction is with
  | nil =>
    intro n L ρ B m F a W hs hcl hW hF h
    cases n with
    | zero => cases hs
    | succ n =>
      simp only [sch0Ok, Bool.and_eq_true, beq_iff_eq] at hs
      obtain ⟨hr, he⟩ := hs
      have hrdy : j ∈ Region.ready .any ops L := by rw [hr]; simp
      obtain ⟨_, o, ho, _⟩ := mem_ready.1 hrdy
      have hdone : Region.ready .any ops (L.setIfInBounds j true) = [] := by simpa using he
      refine wpAnyG_all hr (by simp) (fun k hk => ?_)
      have : k = j := by simpa using hk
      subst this
      simp only [vc0] at h
      have ho' : ops.toList[k]? = some o := by simpa using ho
      rw [ho'] at h
      unfold wpOp
      simp only [ho]
      obtain ⟨F', hF', ⟨hw, h⟩ | ⟨hw, h⟩⟩ := guardK_sound hF h
      · rw [if_pos hw]
        left
        have h1 := vcOp_sound hΓ hW hF' h
        refine wp_Q (Q1 := QQ E (quietQ Q)) (fun _ _ _ h => h) (fun ⟨a, w, h⟩ => ⟨a, w, h⟩) (Oper.wp_mono (fun a' W' hp => ?_) h1)
        exact ⟨trivial, wpAnyG_done hdone hp n⟩
      · rw [if_neg (by simp [hw])]
        exact ⟨trivial, wpAnyG_done hdone ⟨ρ, _, B, m, h, hW, hF'.skip o⟩ n⟩
  | cons i r ih =>
    intro n L ρ B m F a W hs hcl hW hF h
    cases n with
    | zero => cases hs
    | succ n =>
      simp only [sch0Ok, Bool.and_eq_true] at hs
      obtain ⟨⟨⟨hfree, hrdy⟩, hq⟩, hs⟩ := hs
      have hrdy' : i ∈ Region.ready .any ops L := by simpa using hrdy
      simp only [vc0] at h
      unfold quietAt at hq
      cases ho : ops[i]? with
      | none => rw [ho] at hq; cases hq
      | some o =>
        rw [ho] at hq
        have ho' : ops.toList[i]? = some o := by simpa using ho
        rw [ho'] at h
        have hcl' := hcl.set hrdy'
        obtain ⟨F', hF', ⟨hw, h⟩ | ⟨hw, h⟩⟩ := guardK_sound hF h
        · split at h
          · rename_i hlo
            obtain ⟨v, h1, h2, h3⟩ := vcOp_quiet hΓ hW hF' hq h rfl
            obtain ⟨F2, hK, hF2⟩ := putK_out hF' h1 h2
            refine wpAnyG_take (v := v.con ρ) ho hsel hfree hrdy hcl (fun c a w hp => hpan c _ a w (hput a o.dst _).1 (hput a o.dst _).2 hp) (fun L w => Iff.rfl) (.inl ⟨hw, fun w hw' => h3 w ?_⟩) trivial
              (ih hs hcl' hW hF2 hK)
            cases hlk : looksAt F' o.op with
            | nothing => trivial
            | _ => rw [hlk] at hlo; cases hlo
          · exact h.elim
        · exact wpAnyG_take (v := undef) ho hsel hfree hrdy hcl (fun c a w hp => hpan c _ a w (hput a o.dst _).1 (hput a o.dst _).2 hp) (fun L w => Iff.rfl) (.inr ⟨hw, rfl⟩) trivial
            (ih hs hcl' hW (hF'.skip o) h)

theorem draw0 {F : Fr} {B : Ents} {m : Mem} (is : List Nat) (j : Nat) (hs : plan0Ok ops is j = true) (h : vc0 E ops.toList (quietQ Q) j K is F B m) : DrawNode E ops K Q F B m := by
  refine ⟨fun ρ a W hW hF => ?_⟩
  simp only [plan0Ok, Bool.and_eq_true] at hs
  have h4 := wpAny_of_G _ _ _ _ (vc0_sound hΓ hs.1 is hs.2 (closed_start ops) hW hF h)
  refine wpAny_Q (fun e a w q => ?_) _ _ _ _ h4
  cases e with
  | panic c =>
    obtain ⟨ρ', F', B', m', hq, hW', hF'⟩ := q
    exact ⟨ρ', [], B', m', hq, hW', ⟨hF'.size, fun d v hv => (by cases hv), hF'.defers⟩⟩
  | _ => exact q
end
end Vc
end

section
open Go
namespace Vc
set_option maxHeartbeats 1000000

/-! ### A nil slice, wherever it lies, is taken for a row of one's own without room -/
def nilEnt : Ent → Bool
  | .own 0 [] _ _ => true
  | _ => false
def subFN (k : Nat) : Fr → Fr → Prop
  | [], _ => True
  | (d, v) :: r, F => mapO unkb (look d F) = some (unkb (substAV k ⟨none, 0, 0⟩ v)) ∧ subFN k r F
def subBN (k : Nat) : Ents → Ents → Prop
  | [], _ => True
  | (i, e) :: r, B => (match Nat.beq i k with | true => nilEnt e = true | false => mapO unkbE (look i B) = some (unkbE (substE k ⟨none, 0, 0⟩ e))) ∧ subBN k r B
theorem subFN_spec {k : Nat} {F' F : Fr} (h : subFN k F' F) {d : Nat} {v : AV} (hd : look d F' = some v) : ∃ v0, look d F = some v0 ∧ unkb v0 = unkb (substAV k ⟨none, 0, 0⟩ v) := by
  induction F' with
  | nil => cases hd
  | cons p r ih =>
    obtain ⟨d', v'⟩ := p
    by_cases hk : d = d'
    · subst hk; rw [look_cons_eq] at hd; cases hd
      have h1 := h.1
      cases hl : look d F with
      | none => rw [hl] at h1; cases h1
      | some v0 => rw [hl] at h1; exact ⟨v0, rfl, by simpa [mapO] using h1⟩
    · rw [look_cons_ne _ _ hk] at hd; exact ih h.2 hd
theorem subBN_spec {k : Nat} {B' B : Ents} (h : subBN k B' B) {i : Nat} {e : Ent} (hi : look i B' = some e) :
    (i = k ∧ nilEnt e = true) ∨ (i ≠ k ∧ ∃ e0, look i B = some e0 ∧ unkbE e0 = unkbE (substE k ⟨none, 0, 0⟩ e)) := by
  induction B' with
  | nil => cases hi
  | cons p r ih =>
    obtain ⟨i', e'⟩ := p
    by_cases hk : i = i'
    · subst hk; rw [look_cons_eq] at hi; cases hi
      have h1 := h.1
      cases hb : Nat.beq i k with
      | true => rw [hb] at h1; exact .inl ⟨Nat.eq_of_beq_eq_true hb, h1⟩
      | false =>
        rw [hb] at h1
        simp only at h1
        refine .inr ⟨by rintro rfl; simp at hb, ?_⟩
        cases hl : look i B with
        | none => rw [hl] at h1; cases h1
        | some v0 => rw [hl] at h1; exact ⟨v0, rfl, by simpa [mapO] using h1⟩
    · rw [look_cons_ne _ _ hk] at hi; exact ih h.2 hi
theorem substLeaf_ok' {k : Nat} {x : Sl} {m : Mem} {l : Leaf} (h : (substLeaf k x l).ok m) : l.ok m := by
  cases l with
  | own i => trivial
  | optr i off => trivial
  | _ => exact h
theorem substL_ok' {k : Nat} {x : Sl} {m : Mem} {ls : List Leaf} (h : okL m (substL k x ls)) : okL m ls := by
  induction ls with
  | nil => intro l hl; cases hl
  | cons c r ih =>
    intro l hl
    rcases List.mem_cons.1 hl with rfl | hl
    · exact substLeaf_ok' (k := k) (x := x) (h _ List.mem_cons_self)
    · exact ih (fun y hy => h y (List.mem_cons_of_mem _ hy)) l hl
theorem substAV_ok' {k : Nat} {x : Sl} {m : Mem} {v : AV} (h : (substAV k x v).ok m) : v.ok m := by
  cases v with
  | one l => exact substLeaf_ok' (k := k) (x := x) h
  | agg ls => exact substL_ok' (k := k) (x := x) h
  | bad => trivial
  | tup vs =>
    show ∀ p ∈ vs, okL m p.2
    replace h : ∀ p ∈ substP k x vs, okL m p.2 := h
    induction vs with
    | nil => intro p hp; cases hp
    | cons q r ih =>
      intro p hp
      rcases List.mem_cons.1 hp with rfl | hp
      · exact substL_ok' (k := k) (x := x) (h (p.1, substL k x p.2) List.mem_cons_self)
      · exact ih (fun y hy => h y (List.mem_cons_of_mem _ hy)) p hp

theorem nilCut {E : Env} {K : Cont} {F F' : Fr} {B B' : Ents} {m : Mem} (k : Nat) (hF : subFN k F' F) (hB : subBN k B' B) (hK : K F' B' m) : CutNode E K F B m := by
  refine ⟨fun ρ a W hW hFS => ?_⟩
  let ρ2 := ρ.setSl k (none, 0, 0)
  have hb : ∀ i, ρ.blk i = ρ2.blk i := fun _ => rfl
  have hs : ∀ i, i ≠ k → ρ.sl i = ρ2.sl i := fun i hi => by show _ = (if i = k then _ else _); rw [if_neg hi]
  have hk2 : ρ2.sl k = (none, 0, 0) := by show (if k = k then _ else _) = _; rw [if_pos rfl]
  have hx : (ρ2.sl k).1 = (⟨none, 0, 0⟩ : Sl).A ∧ ρ2.slv k = (⟨none, 0, 0⟩ : Sl).v := ⟨by rw [hk2], by unfold Val.slv; rw [hk2]; rfl⟩
  have hblk : ∀ i b, blockOf ρ2 B' i = some b → blockOf ρ B i = some b := by
    intro i b hbo
    unfold blockOf at hbo ⊢
    cases hl : look i B' with
    | none => rw [hl] at hbo; cases hbo
    | some e =>
      rw [hl] at hbo
      rcases subBN_spec hB hl with ⟨rfl, he⟩ | ⟨hik, e0, h0, he⟩
      · exfalso
        cases e with
        | box _ _ => cases he
        | own n cells t sz =>
          have : (Ent.own n cells t sz).block ρ2 i = none := by simp only [Ent.block, hx.2]; rfl
          rw [show (some (Ent.own n cells t sz)).bind (Ent.block ρ2 i) = (Ent.own n cells t sz).block ρ2 i from rfl, this] at hbo
          cases hbo
      · rw [h0]
        show e0.block ρ i = some b
        rw [← unkbE_block, he, unkbE_block]
        cases e with
        | box c t => exact hbo
        | own n c t sz =>
          have : ρ.slv i = ρ2.slv i := by unfold Val.slv; rw [hs i hik]
          show rowBlock (ρ.slv i) = some b
          rw [this]; exact hbo
  refine ⟨ρ2, F', B', m, hK, ⟨fun i e hi => ?_, fun i b hi => hW.fresh i b (hblk i b hi), fun i j b hij h1 h2 => hW.inj i j b hij (hblk i b h1) (hblk j b h2), hW.mem, hW.le, hW.new, hW.os, hW.tape, hW.output, hW.size, hW.old, hW.pin⟩, ⟨hFS.size, fun d v hd => ?_, hFS.defers⟩⟩
  · rcases subBN_spec hB hi with ⟨rfl, he⟩ | ⟨hik, e0, h0, he⟩
    · cases e with
      | box _ _ => cases he
      | own n cells t sz =>
        have : n = 0 ∧ cells = [] := by
          unfold nilEnt at he
          split at he
          · rename_i h; cases h; exact ⟨rfl, rfl⟩
          · cases he
        obtain ⟨rfl, rfl⟩ := this
        exact ⟨⟨by simp, .inl ⟨none, hx.2, rfl⟩⟩, by simp⟩
    · have h1 := hW.ents i e0 h0
      rw [← unkbE_sat, he, unkbE_sat] at h1
      cases e with
      | box c t =>
        obtain ⟨h2, h3⟩ := h1
        refine ⟨?_, substL_ok' h3⟩
        rw [substL_con (ρ := ρ2) (ρ' := ρ) hb hs hx] at h2
        exact h2
      | own n c t sz =>
        have : ρ2.slv i = ρ.slv i := by unfold Val.slv; rw [hs i hik]
        show OwnRow W t sz (ρ2.slv i) n c ∧ _
        rw [this]; exact h1
  · obtain ⟨v0, h0, he⟩ := subFN_spec hF hd
    obtain ⟨h1, h2⟩ := hFS.vals d v0 h0
    constructor
    · rw [h1, ← unkb_con (ρ := ρ) v0, he, unkb_con, substAV_con (ρ := ρ2) (ρ' := ρ) hb hs hx]
    · exact substAV_ok' ((unkb_ok _).1 (he ▸ (unkb_ok v0).2 h2))
end Vc
end

section
open Go
namespace Vc
set_option maxHeartbeats 1000000
/-- These entries are among those. -/
def ownB : Ents → Ents → Prop
  | [], _ => True
  | (k, e) :: r, B => look k B = some e ∧ ownB r B
theorem ownB_spec {B' B : Ents} (h : ownB B' B) {k : Nat} {e : Ent} (hk : look k B' = some e) : look k B = some e := by
  induction B' with
  | nil => cases hk
  | cons p r ih =>
    obtain ⟨k', e'⟩ := p
    by_cases hkk : k = k'
    · subst hkk; rw [look_cons_eq] at hk; cases hk; exact h.1
    · rw [look_cons_ne _ _ hkk] at hk; exact ih h.2 hk
/-- What comes back: the value u0, these entries. -/
theorem retXO {P : Program} {Γ : Types} {N : Nat} {W : World} {m0 m : Mem} {ρ0 : Val} {B0 : Ents} {u : AV} {B : Ents} {Φ : AV → Ents → Mem → Prop} {Ψ : List PanicEntry → Ents → Mem → Prop} (u0 : AV) (B' : Ents) (mn : Mem) (hu : unkb u = unkb u0) (hm : m = m0.join mn) (hd : Mem.Disj m0 mn) (hB : ownB B' B) (h : Φ u0 B' mn) :
    RetNode (envX P Γ N W m0 ρ0 B0) u B m (RX (envX P [] 0 W m0 ρ0 B0) Φ Ψ) := by
  subst hm
  refine ⟨fun ρ W' hW hok => ⟨ρ, u0, _, mn, ?_, hd, ?_, (WS.cast (E := envX P Γ N W m0 ρ0 B0) (E' := envX P [] 0 W m0 ρ0 B0) rfl rfl rfl rfl hW).sub (fun _ _ => ownB_spec hB), h⟩⟩
  · rw [← unkb_con (ρ := ρ) u, hu, unkb_con]
  · exact (unkb_ok u0).1 (hu ▸ (unkb_ok u).2 hok)
def Res (u : AV) (B' : Ents) : AV → Ents → Mem → Prop := fun u0 B0 mn => u0 = u ∧ B0 = B' ∧ mn = Mem.none
theorem retRes {P : Program} {Γ : Types} {N : Nat} {W : World} {m : Mem} {ρ0 : Val} {B0 : Ents} {u : AV} {B : Ents} {u0 : AV} {B' : Ents} (hu : unkb u = unkb u0) (hB : ownB B' B) :
    RetNode (envX P Γ N W m ρ0 B0) u B m (RX (envX P [] 0 W m ρ0 B0) (Res u0 B') noPanic) :=
  retXO u0 B' Mem.none hu (Mem.join_none m).symm (Mem.disj_none m) hB ⟨rfl, rfl, rfl⟩
/-- A call that turns nothing but its entries, with rows that it only reads. -/
theorem keptRes {E : Env} {f : FuncId} {args : List AV} {ws : List Nat} {d : Option Nat} {F : Fr} {B : Ents} {m : Mem} {K : Cont} {Q : SPost} (l : List (Nat × Nat)) (base : Nat) (is : List Nat) (B1 : Ents) (u : AV) (B' : Ents)
    (hf : Borrow is B m args fun args' mb => ∃ argsC, renAVs (renOf l base) argsC = args' ∧ FnX E.P f mb argsC B1 (Res u B') noPanic) (hc : callOk l base is ws F B B1 E.pins = true) (hB : sameB (renOf l base) B1 B) (hr : noRdAV u = true) (hr' : noRdB B' = true)
    (hK : putK E d (renAV (renOf l base) u) F (renB (renOf l base) B' ++ restB l B) m K) : KeptNode E f args ws d F B m K Q :=
  callXK l base is hc hB hf (fun u0 B0 mn _ h => by obtain ⟨rfl, rfl, rfl⟩ := h; rw [Mem.join_none]; exact ⟨hr, hr', hK⟩) (fun _ _ _ _ h => h.elim)
end Vc
end

section
open Go
namespace Vc
set_option maxHeartbeats 1000000

/-! ### By hand, block by block: no entries, whole blocks in the memory -/
/-- A contract whose condition begins from another state that holds too. -/
theorem fn_soundC {E : Env} (hΓ : TypesOk E.P E.Γ) (hmix : E.P.follows .mixedOrders = true) {f : FuncId} {fn : Func} {c : Code} (hf : E.P.funcs[f]? = some fn) (hb : fn.body = some c) (hN : fn.ntmps = E.N) (hname : (fn.name == "runtime.NumGoroutine") = false)
    {args : List AV} {ρ : Val} {B : Ents} {R : Ending → World → Prop} (hlen : args.length ≤ E.N) (hok : ∀ v ∈ args, v.ok E.m0) (hW : WS E ρ B E.m0 E.w0)
    (h : CutNode E (vc E c (retQ E fn.results.toList R)) (argFrame 0 args) B E.m0) : Invk E.P f (args.map (AV.con ρ)) E.w0 R := by
  left
  refine ⟨run_callFunc_enter' hf hname hb _ _, calls_of_wp hf hb ?_⟩
  have hF : FS E ρ E.m0 (argFrame 0 args) { tmps := (args.map (AV.con ρ)).toArray ++ Array.replicate (fn.ntmps - (args.map (AV.con ρ)).toArray.size) undef, defers := [] } := by
    refine ⟨by simp [hN]; omega, fun d v hd => ?_, rfl⟩
    obtain ⟨_, h2⟩ := argFrame_look hd
    simp only [Nat.sub_zero] at h2
    refine ⟨?_, hok v (List.mem_of_getElem? h2)⟩
    have hlt : d < args.length := (List.getElem?_eq_some_iff.1 h2).1
    rw [Array.getD_eq_getD_getElem?, Array.getElem?_append_left (by simpa using hlt)]
    simp [h2]
  obtain ⟨ρ1, F1, B1, m1, h1, hW1, hF1⟩ := h.out _ _ _ hW hF
  refine Code.wp_mono (fun e a w q => ?_) (vc_sound hΓ c hmix hW1 hF1 h1)
  cases e with
  | normal => obtain ⟨ρ', F', B', m', hK, hW', hF'⟩ := q; exact ret_sound hΓ hW' hF' hK
  | ret => obtain ⟨ρ', F', B', m', hK, hW', hF'⟩ := q; exact ret_sound hΓ hW' hF' hK
  | panic ch => obtain ⟨ρ', F', B', m', hK, hW', hF'⟩ := q; exact ⟨hF'.defers, hK.out ρ' w hW'⟩
  | exit i => obtain ⟨ρ', F', B', m', hK, hW', hF'⟩ := q; exact hK.elim
  | goto l => obtain ⟨ρ', F', B', m', hK, hW', hF'⟩ := q; exact hK.elim
  | outgrown => obtain ⟨ρ', F', B', m', hK, hW', hF'⟩ := q; exact hK.elim
theorem fnXC {P : Program} {Γ : Types} (hΓ : TypesOk P Γ) (hmix : P.follows .mixedOrders = true) {f : FuncId} {fn : Func} {c : Code} (hf : P.funcs[f]? = some fn) (hb : fn.body = some c) (hname : (fn.name == "runtime.NumGoroutine") = false) {N : Nat} (hN : fn.ntmps = N) {rs : List ResultVar} (hrs : fn.results.toList = rs)
    {m : Mem} {args : List AV} {B : Ents} (hlen : args.length ≤ N) (hok : ∀ v ∈ args, v.ok m) {Φ : AV → Ents → Mem → Prop} {Ψ : List PanicEntry → Ents → Mem → Prop}
    (h : ∀ ρ W, CutNode (envX P Γ N W m ρ B) (vc (envX P Γ N W m ρ B) c (retQ (envX P Γ N W m ρ B) rs (RX (envX P [] 0 W m ρ B) Φ Ψ))) (argFrame 0 args) B m) : FnX P f m args B Φ Ψ := by
  subst hN hrs
  intro ρ W hW
  exact fn_soundC (E := envX P Γ fn.ntmps W m ρ B) hΓ hmix hf hb rfl hname hlen hok (WS.cast (E := envX P [] 0 W m ρ B) (E' := envX P Γ fn.ntmps W m ρ B) rfl rfl rfl rfl hW) (h ρ W)

def Mem.set (M : Mem) (g : Nat) (o : Obj) : Mem := fun b => if b = g then some o else M b
theorem Mem.set_same (M : Mem) (g : Nat) (o : Obj) : M.set g o g = some o := by simp [Mem.set]
theorem Mem.set_other (M : Mem) {g b : Nat} (o : Obj) (h : b ≠ g) : M.set g o b = M b := by simp [Mem.set, h]
theorem blockOf_nil {ρ : Val} {i b : Nat} (h : blockOf ρ [] i = some b) : False := by cases h

/-- The entries' blocks go over to the memory. -/
theorem WS.conc {E : Env} {ρ : Val} {B : Ents} {m mm : Mem} {W : World} (hW : WS E ρ B m W) (hle : m.le mm) (hmm : ∀ b o, mm b = some o → m b = some o ∨ ((∃ i, blockOf ρ B i = some b) ∧ W.heap[b]? = some o)) : WS E ρ [] mm W := by
  refine ⟨fun _ _ h => (by cases h), fun _ _ h => (blockOf_nil h).elim, fun _ _ _ _ h => (blockOf_nil h).elim, fun b o hb => ?_, Mem.le_trans hW.le hle, fun b o hb => ?_, hW.os, hW.tape, hW.output, hW.size, hW.old, hW.pin⟩
  · rcases hmm b o hb with h | ⟨_, h⟩
    · exact hW.mem b o h
    · exact h
  · rcases hmm b o hb with h | ⟨⟨i, h⟩, _⟩
    · exact hW.new b o h
    · exact .inr (hW.fresh i b h).2
/-- A block that is written. -/
theorem WS.setB {E : Env} {ρ : Val} {mm : Mem} {W : World} (hW : WS E ρ [] mm W) {g : Nat} {o0 o : Obj} (hg : mm g = some o0) (hm : E.m0 g = none) : WS E ρ [] (mm.set g o) (setBlock W g o) := by
  have hlt := lt_of_heap (hW.mem g o0 hg)
  have hnew : E.w0.heap.size ≤ g ∨ E.lent g := (hW.new g o0 hg).elim (fun h => by rw [hm] at h; cases h) id
  refine ⟨fun _ _ h => (by cases h), fun _ _ h => (blockOf_nil h).elim, fun _ _ _ _ h => (blockOf_nil h).elim, fun b ob hb => ?_, fun b ob hb => ?_, fun b ob hb => ?_, hW.os, hW.tape, hW.output, by simp [setBlock]; exact hW.size, fun k hk hl => ?_, hW.pin⟩
  · by_cases h : b = g
    · subst h; rw [Mem.set_same] at hb; cases hb; exact setBlock_same _ _ _ hlt
    · rw [Mem.set_other _ _ h] at hb; rw [setBlock_other _ _ _ _ h]; exact hW.mem b ob hb
  · rw [Mem.set_other _ _ (by rintro rfl; rw [hm] at hb; cases hb)]; exact hW.le b ob hb
  · by_cases h : b = g
    · subst h; exact .inr hnew
    · rw [Mem.set_other _ _ h] at hb; exact hW.new b ob hb
  · have hne : k ≠ g := by
      rintro rfl
      rcases hnew with h | h
      · omega
      · exact hl h
    rw [setBlock_other _ _ _ _ hne]
    exact hW.old k hk hl
/-- A block that is new. -/
theorem WS.newB {E : Env} {ρ : Val} {mm : Mem} {W W' : World} (hW : WS E ρ [] mm W) {o : Obj} (hh : W'.heap = W.heap.push o) (hos : W'.os = W.os) (ht : W'.tape = W.tape) (ho : W'.output = W.output) : WS E ρ [] (mm.set W.heap.size o) W' ∧ mm W.heap.size = none := by
  have hno : mm W.heap.size = none := by
    cases h : mm W.heap.size with
    | none => rfl
    | some o => have := lt_of_heap (hW.mem _ _ h); omega
  refine ⟨⟨fun _ _ h => (by cases h), fun _ _ h => (blockOf_nil h).elim, fun _ _ _ _ h => (blockOf_nil h).elim, fun b ob hb => ?_, fun b ob hb => ?_, fun b ob hb => ?_, hos.trans hW.os, ht.trans hW.tape, ho.trans hW.output, ?_, fun k hk hl => ?_, hW.pin⟩, hno⟩
  · by_cases h : b = W.heap.size
    · subst h; rw [Mem.set_same] at hb; cases hb; rw [hh]; simp
    · rw [Mem.set_other _ _ h] at hb
      have h1 := hW.mem b ob hb
      have := lt_of_heap h1
      rw [hh, Array.getElem?_push_lt this]
      rw [Array.getElem?_eq_getElem this] at h1
      exact h1
  · rw [Mem.set_other _ _ (by rintro rfl; rw [hW.le _ _ hb] at hno; cases hno)]; exact hW.le b ob hb
  · by_cases h : b = W.heap.size
    · subst h; exact .inr (.inl hW.size)
    · rw [Mem.set_other _ _ h] at hb; exact hW.new b ob hb
  · rw [hh]; simp; have := hW.size; omega
  · have h1 := hW.old k hk hl
    have : k < W.heap.size := by have := hW.size; omega
    rw [← h1, hh, Array.getElem?_push_lt this, Array.getElem?_eq_getElem this]

/-- A slice value that owns its cells, its block in the memory. -/
def OwnIn (E : Env) (mm : Mem) (v : Value) (n : Nat) (cells : List Value) (t : TypeId) (size : Nat) : Prop :=
  cells.length = n * size ∧ (∀ u ∈ cells, u.oneCell' = true) ∧ ((∃ A, v = .slice A 0 0 ∧ n = 0) ∨
    ∃ g cap cur, v = .slice (some ⟨g, 0, none⟩) n (cap + 1) ∧ mm g = some (.cells cur t (0, 0)) ∧ E.m0 g = none ∧ n ≤ cap + 1 ∧ cap + 1 ≤ maxLen ∧ cur.size = (cap + 1) * size ∧ cur.toList.take (n * size) = cells)
theorem OwnIn.row {E : Env} {mm : Mem} {v : Value} {n : Nat} {cells : List Value} {t : TypeId} {size : Nat} {W : World} (h : OwnIn E mm v n cells t size) (hm : has W mm) : OwnRow W t size v n cells := by
  obtain ⟨h1, _, h2⟩ := h
  refine ⟨h1, h2.imp id ?_⟩
  rintro ⟨g, cap, cur, h3, h4, _, h5⟩
  exact ⟨g, cap, cur, h3, hm g _ h4, h5⟩
/-- Back to rows of one's own. -/
theorem WS.thaw {E : Env} {ρ : Val} {mm : Mem} {W : World} (hW : WS E ρ [] mm W) (ρ' : Val) (B' : Ents) (hblk : ∀ i, ρ'.blk i = ρ.blk i)
    (he : ∀ k e, look k B' = some e → ∃ n cells t size, e = .own n cells t size ∧ OwnIn E mm (ρ'.slv k) n cells t size) (hinj : ∀ i j b, i ≠ j → blockOf ρ' B' i = some b → blockOf ρ' B' j ≠ some b) : WS E ρ' B' E.m0 W := by
  have hb : ∀ i b, blockOf ρ' B' i = some b → E.m0 b = none ∧ ∃ o, mm b = some o := by
    intro i b hi
    unfold blockOf at hi
    cases hl : look i B' with
    | none => rw [hl] at hi; cases hi
    | some e =>
      rw [hl] at hi
      obtain ⟨n, cells, t, size, rfl, _, _, h⟩ := he i e hl
      replace hi : rowBlock (ρ'.slv i) = some b := hi
      rcases h with ⟨A, hv, _⟩ | ⟨g, cap, cur, hv, h1, h2, _⟩
      · rw [hv] at hi; cases A <;> cases hi
      · rw [hv] at hi; cases hi; exact ⟨h2, _, h1⟩
  refine ⟨fun k e hk => ?_, fun i b hi => ⟨(hb i b hi).1, ?_⟩, hinj, fun b o hbo => hW.mem b o (hW.le b o hbo), Mem.le_refl _, fun b o hbo => .inl hbo, hW.os, hW.tape, hW.output, hW.size, hW.old, fun p hp => (hblk p.1).trans (hW.pin p hp)⟩
  · obtain ⟨n, cells, t, size, rfl, h⟩ := he k e hk
    exact ⟨h.row hW.mem, h.2.1⟩
  · obtain ⟨h1, o, h2⟩ := hb i b hi
    exact (hW.new b o h2).elim (fun h => by rw [h1] at h; cases h) id

def noRdF : Fr → Bool
  | [] => true
  | (_, v) :: r => (match noRdAV v with | true => noRdF r | false => false)
theorem noRdF_look {F : Fr} (h : noRdF F = true) {d : Nat} {v : AV} (hd : look d F = some v) : noRdAV v = true := by
  induction F with
  | nil => cases hd
  | cons p r ih =>
    obtain ⟨d', v'⟩ := p
    simp only [noRdF] at h
    split at h
    · rename_i hv
      by_cases hk : d = d'
      · subst hk; rw [look_cons_eq] at hd; cases hd; exact hv
      · rw [look_cons_ne _ _ hk] at hd; exact ih h hd
    · cases h
theorem FS.noRd {E : Env} {ρ : Val} {m m' : Mem} {F : Fr} {a : Act} (hF : FS E ρ m F a) (h : noRdF F = true) : FS E ρ m' F a :=
  ⟨hF.size, fun d v hd => ⟨(hF.vals d v hd).1, noRdAV_ok (noRdF_look h hd) (hF.vals d v hd).2⟩, hF.defers⟩

section
variable {E : Env} (hΓ : TypesOk E.P E.Γ) {o : Oper} {F : Fr} {mm : Mem} {K : Cont} {Q : SPost} {c : Call} (ho : o.op = .call c) {x y : Operand} (hargs : c.args = #[x, y]) {t t2 : TypeId} (hty : c.argTypes = #[t, t2]) {e : TypeId} {te : TInfo} (hse : sliceElem E.Γ t = some (e, te))
include hΓ ho hargs hty hse

theorem handCopy (hc : c.callee = .builtin .copy) {g off dLen dCap sLen sCap : Nat} {A : Option Addr} (hx : ev F x = some (.one (.v (.slice (some ⟨g, off, none⟩) dLen dCap)))) (hy : ev F y = some (.one (.v (.slice A sLen sCap))))
    (cur : List Value) (ty : TypeId) (hg : mm g = some (.cells cur.toArray ty (0, 0))) (hm0 : E.m0 g = none) (cs : List Value) (hl : cs.length = Nat.min sLen dLen * te.size) (hsrc : 0 < cs.length → ∃ a, A = some a ∧ MemReads mm a cs) (hfit : off + cs.length ≤ cur.length) (hno : noRdF F = true)
    (hK : putK E o.dst (.one (.v (.int .i64 ((Nat.min sLen dLen : Nat) : Int)))) F [] (mm.set g (.cells (spliceV off cs cur).toArray ty (0, 0))) K) : HandNode E o F [] mm K Q := by
  refine ⟨fun ρ a W hW hF => ?_⟩
  obtain ⟨hex, _⟩ := ev_con hF hx
  obtain ⟨hey, _⟩ := ev_con hF hy
  obtain ⟨hu, hE, _⟩ := sliceElem_spec hΓ hse
  obtain ⟨d, i, z, hue, hk, hi, hs, hb, hz, hz2⟩ := hE.get
  have hgh := hW.mem g _ hg
  have hone : ∀ u ∈ cs, u.oneCell' = true := by
    intro u hu
    obtain ⟨a0, _, hr⟩ := hsrc (List.length_pos_of_mem hu)
    exact hr.one u hu
  have hf : (Builtin.firstCells i.size (Nat.min sLen dLen) (.slice A sLen sCap)).run E.P W = .ok cs.toArray W := by
    have h := run_firstCells (P := E.P) (W := W) (c := sCap) (A := A) (hs.symm ▸ hl) (fun hne => by
      obtain ⟨a0, h1, h2⟩ := hsrc (List.length_pos_iff.2 hne)
      exact ⟨a0, h1, fun j u hu => h2.cell hW j u hu⟩)
    cases A <;> exact h
  have hst := run_storeCells (P := E.P) cs W g ty cur off 0 hgh (by simpa using hfit) hone
  refine wp_value (W' := setBlock W g (.cells (spliceV off cs cur).toArray ty (0, 0))) (v := .int .i64 ((Nat.min sLen dLen : Nat) : Int)) ?_ (putK_sound (v := .one (.v (.int .i64 ((Nat.min sLen dLen : Nat) : Int)))) (hW.setB hg hm0) (hF.noRd hno) rfl hK)
  simp only [AV.con, Leaf.con] at hex hey
  simp [execOp, ho, resolve, hc, invoke, builtin, hargs, hex, hey, Builtin.copy_, hty, run_underlying hu, Builtin.lenOf, Go.sizeOf, typeInfo, hi, hf, hst, goInt]

theorem handGrow (hc : c.callee = .builtin .append) {kn : IntKind} (hkn : intKind E.Γ t2 = some kn) {A : Option Addr} {sLen sCap k : Nat} (hx : ev F x = some (.one (.v (.slice A sLen sCap)))) {kq : IntKind} (hy : ev F y = some (.one (.v (.int kq (k : Int)))))
    (olds : List Value) (hl : olds.length = sLen * te.size) (hsrc : 0 < olds.length → ∃ a, A = some a ∧ MemReads mm a olds) (h0 : 0 < k) (hg : sCap < sLen + k) (hmx : sLen + k ≤ maxLen) (hbytes : (sLen + k) * te.bytes ≤ 140737488355328) (hpos : 0 < te.size) (hno : noRdF F = true)
    (hK : ∀ g cap (zs : List Value), mm g = none → sLen + k ≤ cap → cap ≤ maxLen → zs.length = (cap - sLen) * te.size → putK E o.dst (.one (.v (.slice (some ⟨g, 0, none⟩) (sLen + k) cap))) F [] (mm.set g (.cells (olds ++ zs).toArray e (0, 0))) K) : HandNode E o F [] mm K Q := by
  refine ⟨fun ρ a W hW hF => ?_⟩
  obtain ⟨hex, _⟩ := ev_con hF hx
  obtain ⟨hey, _⟩ := ev_con hF hy
  obtain ⟨hu, hE, _⟩ := sliceElem_spec hΓ hse
  obtain ⟨d, i, z, hue, hk, hi, hs, hb, hz, hz2⟩ := hE.get
  have htn : E.P.underlying t2 = some (.int kn) := by
    unfold intKind at hkn
    split at hkn
    · rename_i ti hti
      split at hkn
      · rename_i kk hkk
        cases hkn
        exact (hΓ t2 ti hti).int_ hkk
      · cases hkn
    · cases hkn
  have hf : (Builtin.firstCells i.size sLen (.slice A sLen sCap)).run E.P W.drew = .ok olds.toArray W.drew := run_firstCells (hs.symm ▸ hl) (fun hne => by
    obtain ⟨a0, h1, h2⟩ := hsrc (List.length_pos_iff.2 hne)
    exact ⟨a0, h1, fun j u hu => h2.cell hW j u hu⟩)
  have hsz : 0 < i.size := by rw [hs]; exact hpos
  have hrun := Lib.run_append_grow_zeros (P := E.P) W t t2 o.type e i z kq kn hu htn hi hz A sLen sCap olds hf k h0 hsz hg (by simp only [maxLen] at hmx; omega) (by rw [hb]; have := Nat.mul_le_mul_right te.bytes (Nat.le_add_left k sLen); omega) (by rw [hb]; have := nextslicecap_le hg hbytes; omega)
  have hge := grownCap_ge W (sLen + k) sCap e
  have hle := grownCap_le_maxLen W (sLen + k) sCap e hmx
  generalize grownCap W (sLen + k) sCap e = cap at hrun hge hle
  have hzs : z.cells.size = te.size := by rw [← Array.length_toList, hz2, hE.zsize]
  have hzl : (Builtin.zeroCells z.cells k ++ Builtin.zeroCells z.cells (cap - (sLen + k))).toList.length = (cap - sLen) * te.size := by
    rw [Array.length_toList, Array.size_append, size_zeroCells, size_zeroCells, hzs, ← Nat.add_mul]
    congr 1
    omega
  have harr : olds.toArray ++ Builtin.zeroCells z.cells k ++ Builtin.zeroCells z.cells (cap - (sLen + k)) = (olds ++ (Builtin.zeroCells z.cells k ++ Builtin.zeroCells z.cells (cap - (sLen + k))).toList).toArray := by
    apply Array.ext'
    simp [List.append_assoc]
  rw [harr] at hrun
  obtain ⟨hW', hnone⟩ := hW.newB (W' := W.drew.alloc (.cells (olds ++ (Builtin.zeroCells z.cells k ++ Builtin.zeroCells z.cells (cap - (sLen + k))).toList).toArray e)) (o := .cells (olds ++ (Builtin.zeroCells z.cells k ++ Builtin.zeroCells z.cells (cap - (sLen + k))).toList).toArray e (0, 0)) rfl rfl rfl rfl
  refine wp_value (W' := W.drew.alloc (.cells (olds ++ (Builtin.zeroCells z.cells k ++ Builtin.zeroCells z.cells (cap - (sLen + k))).toList).toArray e)) (v := .slice (some ⟨W.heap.size, 0, none⟩) (sLen + k) cap) ?_ (putK_sound (v := .one (.v (.slice (some ⟨W.heap.size, 0, none⟩) (sLen + k) cap))) hW' (hF.noRd hno) rfl (hK _ _ _ hnone hge hle hzl))
  simp only [AV.con, Leaf.con] at hex hey
  simp only [execOp, ho, resolve, hc, invoke, builtin, hargs, Sem.run_bind, Sem.run_pure, Result.andThen_ok, List.map_toArray, List.map_cons, List.map_nil, hex, hey, hty, hrun]
end

def slT (v : Value) : Option Addr × Nat × Nat := match v with
  | .slice A n c => (A, n, c)
  | _ => (none, 0, 0)
theorem OwnIn.slT {E : Env} {mm : Mem} {v : Value} {n : Nat} {cells : List Value} {t : TypeId} {size : Nat} (h : OwnIn E mm v n cells t size) : Value.slice (slT v).1 (slT v).2.1 (slT v).2.2 = v := by
  rcases h.2.2 with ⟨A, hv, _⟩ | ⟨g, cap, cur, hv, _⟩ <;> rw [hv] <;> rfl
theorem setSl_slv (ρ : Val) (k : Nat) (s : Option Addr × Nat × Nat) : (ρ.setSl k s).slv k = .slice s.1 s.2.1 s.2.2 := by simp [Val.slv, Val.setSl]
theorem setSl_other (ρ : Val) {k i : Nat} (s : Option Addr × Nat × Nat) (h : i ≠ k) : (ρ.setSl k s).slv i = ρ.slv i := by simp [Val.slv, Val.setSl, h]

/-- One row of one's own, out of the memory. -/
theorem thawOne {E : Env} {K : Cont} {F : Fr} {mm : Mem} (d k : Nat) {v : Value} {n : Nat} {cells : List Value} {t : TypeId} {size : Nat} (hv : look d F = some (.one (.v v))) (ho : OwnIn E mm v n cells t size)
    (hK : K [(d, .one (.own k))] [(k, .own n cells t size)] E.m0) : CutNode E K F [] mm := by
  refine ⟨fun ρ a W hW hF => ⟨ρ.setSl k (slT v), _, _, _, hK, hW.thaw _ _ (fun _ => rfl) (fun j e hj => ?_) (fun i j b hij hi hj => ?_), ⟨hF.size, fun d' v' hd => ?_, hF.defers⟩⟩⟩
  · by_cases h : j = k
    · subst h; rw [look_cons_eq] at hj; cases hj
      exact ⟨n, cells, t, size, rfl, by rw [setSl_slv, ho.slT]; exact ho⟩
    · rw [look_cons_ne _ _ h] at hj; cases hj
  · have h1 : i = k := by
      by_cases h : i = k
      · exact h
      · unfold blockOf at hi; rw [look_cons_ne _ _ h] at hi; cases hi
    have h2 : j = k := by
      by_cases h : j = k
      · exact h
      · unfold blockOf at hj; rw [look_cons_ne _ _ h] at hj; cases hj
    exact hij (h1.trans h2.symm)
  · by_cases h : d' = d
    · subst h; rw [look_cons_eq] at hd; cases hd
      refine ⟨?_, trivial⟩
      rw [(hF.vals _ _ hv).1]
      show v = (ρ.setSl k (slT v)).slv k
      rw [setSl_slv, ho.slT]
    · rw [look_cons_ne _ _ h] at hd; cases hd
/-- Two of them. -/
theorem thawTwo {E : Env} {K : Cont} {F : Fr} {mm : Mem} (d k d2 k2 : Nat) (hd : d ≠ d2) (hk : k ≠ k2) {v v2 : Value} {n n2 : Nat} {cells cells2 : List Value} {t t2 : TypeId} {size size2 : Nat} (hv : look d F = some (.one (.v v))) (ho : OwnIn E mm v n cells t size)
    (hv2 : look d2 F = some (.one (.v v2))) (ho2 : OwnIn E mm v2 n2 cells2 t2 size2) (hne : ∀ b, rowBlock v = some b → rowBlock v2 ≠ some b)
    (hK : K [(d, .one (.own k)), (d2, .one (.own k2))] [(k, .own n cells t size), (k2, .own n2 cells2 t2 size2)] E.m0) : CutNode E K F [] mm := by
  refine ⟨fun ρ a W hW hF => ⟨(ρ.setSl k2 (slT v2)).setSl k (slT v), _, _, _, hK, ?_, ?_⟩⟩
  · have e1 : ((ρ.setSl k2 (slT v2)).setSl k (slT v)).slv k = v := by rw [setSl_slv, ho.slT]
    have e2 : ((ρ.setSl k2 (slT v2)).setSl k (slT v)).slv k2 = v2 := by rw [setSl_other _ _ (Ne.symm hk), setSl_slv, ho2.slT]
    have hb : ∀ i b, blockOf ((ρ.setSl k2 (slT v2)).setSl k (slT v)) [(k, .own n cells t size), (k2, .own n2 cells2 t2 size2)] i = some b → (i = k ∧ rowBlock v = some b) ∨ (i = k2 ∧ rowBlock v2 = some b) := by
      intro i b hi
      unfold blockOf at hi
      by_cases h : i = k
      · subst h; rw [look_cons_eq] at hi
        replace hi : rowBlock (((ρ.setSl k2 (slT v2)).setSl i (slT v)).slv i) = some b := hi
        rw [e1] at hi; exact .inl ⟨rfl, hi⟩
      · rw [look_cons_ne _ _ h] at hi
        by_cases h2 : i = k2
        · subst h2; rw [look_cons_eq] at hi
          replace hi : rowBlock (((ρ.setSl i (slT v2)).setSl k (slT v)).slv i) = some b := hi
          rw [e2] at hi; exact .inr ⟨rfl, hi⟩
        · rw [look_cons_ne _ _ h2] at hi; cases hi
    refine hW.thaw _ _ (fun _ => rfl) (fun j e hj => ?_) (fun i j b hij hi hj => ?_)
    · by_cases h : j = k
      · subst h; rw [look_cons_eq] at hj; cases hj
        exact ⟨n, cells, t, size, rfl, by rw [e1]; exact ho⟩
      · rw [look_cons_ne _ _ h] at hj
        by_cases h2 : j = k2
        · subst h2; rw [look_cons_eq] at hj; cases hj
          exact ⟨n2, cells2, t2, size2, rfl, by rw [e2]; exact ho2⟩
        · rw [look_cons_ne _ _ h2] at hj; cases hj
    · rcases hb i b hi with ⟨rfl, h1⟩ | ⟨rfl, h1⟩ <;> rcases hb j b hj with ⟨rfl, h2⟩ | ⟨rfl, h2⟩
      · exact hij rfl
      · exact hne b h1 h2
      · exact hne b h2 h1
      · exact hij rfl
  · refine ⟨hF.size, fun d' v' hd' => ?_, hF.defers⟩
    by_cases h : d' = d
    · subst h; rw [look_cons_eq] at hd'; cases hd'
      refine ⟨?_, trivial⟩
      rw [(hF.vals _ _ hv).1]
      show v = ((ρ.setSl k2 (slT v2)).setSl k (slT v)).slv k
      rw [setSl_slv, ho.slT]
    · rw [look_cons_ne _ _ h] at hd'
      by_cases h2 : d' = d2
      · subst h2; rw [look_cons_eq] at hd'; cases hd'
        refine ⟨?_, trivial⟩
        rw [(hF.vals _ _ hv2).1]
        show v2 = ((ρ.setSl k2 (slT v2)).setSl k (slT v)).slv k2
        rw [setSl_other _ _ (Ne.symm hk), setSl_slv, ho2.slT]
      · rw [look_cons_ne _ _ h2] at hd'; cases hd'

theorem slA {c l sz g off : Nat} (h : l < c) : (if c = l then (some ⟨g, off, none⟩ : Option Addr) else (some ⟨g, off, none⟩ : Option Addr).map (·.add (l * sz))) = some ⟨g, off + l * sz, none⟩ := by
  rw [if_neg (by omega)]
  show some (Addr.add ⟨g, off, none⟩ (l * sz)) = _
  rw [addr_add rfl]
theorem cellsReads {mm : Mem} {g off : Nat} {cur : List Value} {ty : TypeId} {fr : Nat × Nat} (hg : mm g = some (.cells cur.toArray ty fr)) {cs : List Value} (h : ∀ j u, cs[j]? = some u → cur[off + j]? = some u ∧ u.oneCell' = true) : MemReads mm ⟨g, off, none⟩ cs :=
  ⟨rfl, _, _, _, hg, fun j u hu => by simpa using h j u hu⟩

/-! ### what Insert makes of the cells -/
theorem ins_room (cur vc : List Value) (N I S : Nat) (hI : I ≤ N) (hN : N + S ≤ cur.length) (hv : vc.length = S) :
    (spliceV I vc (spliceV (I + S) ((cur.drop I).take (N - I)) cur)).take (N + S) = (cur.take N).take I ++ vc ++ (cur.take N).drop I := by
  subst hv
  apply List.ext_getElem?
  intro j
  simp only [spliceV, List.getElem?_take, List.getElem?_append, List.getElem?_drop, List.length_append, List.length_take, List.length_drop]
  grind
theorem ins_grow (cur vc zs : List Value) (N I S : Nat) (hI : I ≤ N) (hN : N ≤ cur.length) (hv : vc.length = S) (hz : N + S - I ≤ zs.length) :
    (spliceV (I + S) ((cur.drop I).take (N - I)) (spliceV I vc (cur.take I ++ zs))).take (N + S) = (cur.take N).take I ++ vc ++ (cur.take N).drop I := by
  subst hv
  apply List.ext_getElem?
  intro j
  simp only [spliceV, List.getElem?_take, List.getElem?_append, List.getElem?_drop, List.length_append, List.length_take, List.length_drop]
  grind
end Vc
end

section
open Go
namespace Vc
set_option maxHeartbeats 1000000

/-! ### A drawn region whose operations all only look: the world stays as it is -/
def vcQ (E : Env) (ops : List Oper) (Q : SPost) (K : Cont) : List Nat → Cont
  | [] => K
  | i :: r => fun F B m => (match ops[i]? with
    | some o => guardK ops o (fun F => vcOp E o (vcQ E ops Q K r) Q F B m) (fun F => vcQ E ops Q K r (skipF o F) B m) F
    | none => False)
def schQOk (ops : Array Oper) : Nat → List Nat → Array Bool → Bool
  | _, [], L => (Region.ready .any ops L).isEmpty
  | 0, _ :: _, _ => false
  | n + 1, i :: r, L => Region.free .any ops L i && (Region.ready .any ops L).contains i && quietAt ops i && schQOk ops n r (L.setIfInBounds i true)
def planQOk (ops : Array Oper) (is : List Nat) : Bool := Region.noSelect ops && schQOk ops ops.size is (Array.replicate ops.size false)

section
variable {E : Env} (hΓ : TypesOk E.P E.Γ) {ops : Array Oper} {Q : SPost} {K : Cont}
include hΓ
theorem vcQ_sound (hsel : Region.noSelect ops = true) {ρ : Val} {B : Ents} {m : Mem} {W : World} (hW : WS E ρ B m W) (is : List Nat) :
    ∀ {n : Nat} {L : Array Bool} {F : Fr} {a : Act}, schQOk ops n is L = true → Closed ops L → FS E ρ m F a →
      vcQ E ops.toList (quietQ Q) K is F B m → wpAnyG E.P ops (QN E K (quietQ Q)) (fun _ w => w = W) n L a W := by
  have hpan : ∀ c (a a' : Act) w, a.tmps.size = a'.tmps.size → a.defers = a'.defers → QN E K (quietQ Q) (.panic c) a w → QN E K (quietQ Q) (.panic c) a' w := by
    rintro c a a' w hs hd ⟨ρ, F, B, m, hq, hW, hF⟩
    exact ⟨ρ, [], B, m, hq, hW, ⟨by rw [← hs]; exact hF.size, fun d v hv => (by cases hv), by rw [← hd]; exact hF.defers⟩⟩
  have hput : ∀ (a : Act) d v, (a.put d v).tmps.size = a.tmps.size ∧ (a.put d v).defers = a.defers := by
    intro a d v
    cases d with
    | none => exact ⟨rfl, rfl⟩
    | some d => simp [Act.put]
  induction is with
  | nil =>
    intro n L F a hs hcl hF h
    have hr : Region.ready .any ops L = [] := by cases n <;> simpa [schQOk] using hs
    exact wpAnyG_done hr ⟨ρ, F, B, m, h, hW, hF⟩ n
  | cons i r ih =>
    intro n L F a hs hcl hF h
    cases n with
    | zero => cases hs
    | succ n =>
      simp only [schQOk, Bool.and_eq_true] at hs
      obtain ⟨⟨⟨hfree, hrdy⟩, hq⟩, hs⟩ := hs
      have hrdy' : i ∈ Region.ready .any ops L := by simpa using hrdy
      simp only [vcQ] at h
      unfold quietAt at hq
      cases ho : ops[i]? with
      | none => rw [ho] at hq; cases hq
      | some o =>
        rw [ho] at hq
        have ho' : ops.toList[i]? = some o := by simpa using ho
        rw [ho'] at h
        have hcl' := hcl.set hrdy'
        obtain ⟨F', hF', ⟨hw, h⟩ | ⟨hw, h⟩⟩ := guardK_sound hF h
        · obtain ⟨v, h1, h2, h3⟩ := vcOp_quiet hΓ hW hF' hq h rfl
          obtain ⟨F2, hK, hF2⟩ := putK_out hF' h1 h2
          refine wpAnyG_take (v := v.con ρ) ho hsel hfree hrdy hcl (fun c a w hp => hpan c _ a w (hput a o.dst _).1 (hput a o.dst _).2 hp) (fun L w => Iff.rfl) (.inl ⟨hw, fun w hw' => h3 w ?_⟩) rfl (ih hs hcl' hF2 hK)
          obtain ⟨_, _, _, rfl⟩ := hw'
          cases looksAt F' o.op with
          | nothing => trivial
          | mem => exact hW.mem
          | box b => exact fun c t hb => (hW.box hb).1
          | other => rfl
        · exact wpAnyG_take (v := undef) ho hsel hfree hrdy hcl (fun c a w hp => hpan c _ a w (hput a o.dst _).1 (hput a o.dst _).2 hp) (fun L w => Iff.rfl) (.inr ⟨hw, rfl⟩) rfl (ih hs hcl' (hF'.skip o) h)

theorem drawQ {F : Fr} {B : Ents} {m : Mem} (is : List Nat) (hs : planQOk ops is = true) (h : vcQ E ops.toList (quietQ Q) K is F B m) : DrawNode E ops K Q F B m := by
  refine ⟨fun ρ a W hW hF => ?_⟩
  simp only [planQOk, Bool.and_eq_true] at hs
  have h4 := wpAny_of_G _ _ _ _ (vcQ_sound hΓ hs.1 hW is hs.2 (closed_start ops) hF h)
  refine wpAny_Q (fun e a w q => ?_) _ _ _ _ h4
  cases e with
  | panic c =>
    obtain ⟨ρ', F', B', m', hq, hW', hF'⟩ := q
    exact ⟨ρ', [], B', m', hq, hW', ⟨hF'.size, fun d v hv => (by cases hv), hF'.defers⟩⟩
  | _ => exact q
end
end Vc
end

section
open Go
namespace Vc
set_option maxHeartbeats 1000000
/-- What the boxes say of the row k is put down as the slice that it is now. -/
theorem oldCut {E : Env} {K : Cont} {F : Fr} {B : Ents} {m : Mem} (k : Nat) {n : Nat} {cells : List Value} {t : TypeId} {sz : Nat} (hk : look k B = some (.own n cells t sz)) (hK : ∀ old : Sl, K F ((k, .own n cells t sz) :: substB k old B) m) : CutNode E K F B m := by
  refine ⟨fun ρ a W hW hF => ⟨ρ, F, _, m, hK ⟨(ρ.sl k).1, (ρ.sl k).2.1, (ρ.sl k).2.2⟩, ?_, hF⟩⟩
  have hx : (ρ.sl k).1 = (⟨(ρ.sl k).1, (ρ.sl k).2.1, (ρ.sl k).2.2⟩ : Sl).A ∧ ρ.slv k = (⟨(ρ.sl k).1, (ρ.sl k).2.1, (ρ.sl k).2.2⟩ : Sl).v := ⟨rfl, rfl⟩
  have hfo := hW.forget (k := k) (ρ' := ρ) (m' := m) (fun _ => rfl) (fun _ _ => rfl) hx (Mem.le_refl m) (fun b o hb => .inl hb)
  have hb : ∀ i b, blockOf ρ ((k, .own n cells t sz) :: substB k (⟨(ρ.sl k).1, (ρ.sl k).2.1, (ρ.sl k).2.2⟩ : Sl) B) i = some b → blockOf ρ B i = some b := by
    intro i b h
    unfold blockOf at h ⊢
    by_cases hi : i = k
    · subst hi; rw [look_cons_eq] at h; rw [hk]; exact h
    · rw [look_cons_ne _ _ hi] at h
      cases hl : look i (substB k (⟨(ρ.sl k).1, (ρ.sl k).2.1, (ρ.sl k).2.2⟩ : Sl) B) with
      | none => rw [hl] at h; cases h
      | some e =>
        rw [hl] at h
        obtain ⟨_, e', h2, rfl⟩ := substB_look hl
        rw [h2]
        cases e' <;> exact h
  refine ⟨fun i e hi => ?_, fun i b h => hW.fresh i b (hb i b h), fun i j b hij h1 h2 => hW.inj i j b hij (hb i b h1) (hb j b h2), hW.mem, hW.le, hW.new, hW.os, hW.tape, hW.output, hW.size, hW.old, hW.pin⟩
  by_cases hik : i = k
  · subst hik; rw [look_cons_eq] at hi; cases hi; exact hW.ents _ _ hk
  · rw [look_cons_ne _ _ hik] at hi; exact hfo.ents i e hi
end Vc
end

section
open Go
namespace Vc
set_option maxHeartbeats 1000000

/-! ### A drawn region with effects that are shown by hand (maps) -/
structure HandEff (E : Env) (o : Oper) (ws : List Nat) (K : Cont) (Q : SPost) (F : Fr) (B : Ents) (m : Mem) : Prop where
  out : ∀ ρ a W, WS E ρ B m W → FS E ρ m F a → o.wp E.P a W (fun a' W' => Post E K a' W' ∧ Kept ρ B ws W W' ∧ SameTmps o a a') (QQ E Q)
def handOp : Op → Bool
  | .lookup .. | .mapEntry .. | .entryStore .. | .mapUpdate .. => true
  | _ => false
def handEffK (E : Env) (o : Oper) (ws : List Nat) (K : Cont) (Q : SPost) (F : Fr) (B : Ents) (m : Mem) : Prop :=
  match handOp o.op with
  | true => HandEff E o ws K Q F B m
  | false => False
theorem handEffK_out {E : Env} {o : Oper} {ws : List Nat} {K : Cont} {Q : SPost} {F : Fr} {B : Ents} {m : Mem} (h : handEffK E o ws K Q F B m) : HandEff E o ws K Q F B m := by
  unfold handEffK at h
  split at h
  · exact h
  · exact h.elim
def lookH (ph : Bool) (tk : List (Nat × Nat)) (i : Nat) : Looks → Bool
  | .nothing => true
  | .mem => false
  | .box b => (match ph with | true => hasPair i b tk | false => false)
  | .other => false
def vcH (E : Env) (ops : List Oper) (tk : List (Nat × Nat)) (Q : SPost) : Bool → Sch → Cont → Cont
  | _, .done, K => K
  | ph, .take i r, K => fun F B m => (match ops[i]? with
    | some o => guardK ops o (fun F => (match lookH ph tk i (looksAt F o.op) with | true => vcOp E o (vcH E ops tk Q ph r K) Q F B m | false => False)) (fun F => vcH E ops tk Q ph r K (skipF o F) B m) F
    | none => False)
  | _, .pcall _ _, _ => fun _ _ _ => False
  | _, .one i ws r, K => fun F B m => (match ops[i]? with
    | some o => guardK ops o (fun F => (match allAnchored F B ws with | true => handEffK E o ws (vcH E ops tk Q false r K) Q F B m | false => False)) (fun F => vcH E ops tk Q false r K (skipF o F) B m) F
    | none => False)
  | _, .two i ws r j ws' r', K => fun F B m => (match ops[i]?, ops[j]? with
    | some o, some o' => guardK ops o (fun F => (match allAnchored F B ws with | true => handEffK E o ws (vcH E ops tk Q false r K) Q F B m | false => False)) (fun F => vcH E ops tk Q false r K (skipF o F) B m) F ∧
        guardK ops o' (fun F => (match allAnchored F B ws' with | true => handEffK E o' ws' (vcH E ops tk Q false r' K) Q F B m | false => False)) (fun F => vcH E ops tk Q false r' K (skipF o' F) B m) F
    | _, _ => False)

section
variable {E : Env} (hΓ : TypesOk E.P E.Γ) {ops : Array Oper} {tk : List (Nat × Nat)} {eff : List Nat} {Q : SPost} {K : Cont} {ρ0 : Val} {B0 : Ents} {a0 : Act}
include hΓ
theorem vcH_sound (hsel : Region.noSelect ops = true) (hdst : ∀ p ∈ tk, noDst ops p.2 = true) (h0 : ∀ p ∈ tk, ∃ off, a0.tmps.getD p.2 undef = .pointer (some ⟨ρ0.blk p.2, off, none⟩)) (s : Sch) :
    ∀ {n : Nat} {ph : Bool} {L : Array Bool} {ρ : Val} {B : Ents} {m : Mem} {F : Fr} {a : Act} {W : World}, schOk ops tk eff n ph s L = true → Closed ops L → WS E ρ B m W → FS E ρ m F a →
      (∀ p ∈ tk, a.tmps.getD p.2 undef = a0.tmps.getD p.2 undef) → GG ops tk eff ρ0 B0 Mem.none L W → (ph = true → ρ = ρ0 ∧ B = B0) → vcH E ops.toList tk (quietQ Q) ph s K F B m →
      wpAnyG E.P ops (QN E K (quietQ Q)) (GG ops tk eff ρ0 B0 Mem.none) n L a W := by
  have hpan : ∀ c (a a' : Act) w, a.tmps.size = a'.tmps.size → a.defers = a'.defers → QN E K (quietQ Q) (.panic c) a w → QN E K (quietQ Q) (.panic c) a' w := by
    rintro c a a' w hs hd ⟨ρ, F, B, m, hq, hW, hF⟩
    exact ⟨ρ, [], B, m, hq, hW, ⟨by rw [← hs]; exact hF.size, fun d v hv => (by cases hv), by rw [← hd]; exact hF.defers⟩⟩
  have hput : ∀ (a : Act) d v, (a.put d v).tmps.size = a.tmps.size ∧ (a.put d v).defers = a.defers := by
    intro a d v
    cases d with
    | none => exact ⟨rfl, rfl⟩
    | some d => simp [Act.put]
  have hnod : ∀ p ∈ tk, ∀ (i : Nat) (o : Oper), ops[i]? = some o → o.dst ≠ some p.2 := by
    intro p hp i o ho hd
    have := hdst p hp
    unfold noDst at this
    rw [Array.all_eq_true_iff_forall_mem] at this
    have := this o (Array.mem_of_getElem? ho)
    rw [hd] at this
    simp at this
  -- what one effect brings
  have heff : ∀ {i : Nat} {ws : List Nat} {r : Sch} {n : Nat} {L : Array Bool} {ρ : Val} {B : Ents} {m : Mem} {F : Fr} {a : Act} {W : World} {o : Oper}, ops[i]? = some o →
      (∀ {ph : Bool} {L : Array Bool} {ρ : Val} {B : Ents} {m : Mem} {F : Fr} {a : Act} {W : World}, schOk ops tk eff n ph r L = true → Closed ops L → WS E ρ B m W → FS E ρ m F a →
        (∀ p ∈ tk, a.tmps.getD p.2 undef = a0.tmps.getD p.2 undef) → GG ops tk eff ρ0 B0 Mem.none L W → (ph = true → ρ = ρ0 ∧ B = B0) → vcH E ops.toList tk (quietQ Q) ph r K F B m →
        wpAnyG E.P ops (QN E K (quietQ Q)) (GG ops tk eff ρ0 B0 Mem.none) n L a W) →
      keepOk ops tk eff (L.setIfInBounds i true) ws = true → schOk ops tk eff n false r (L.setIfInBounds i true) = true → Closed ops (L.setIfInBounds i true) → WS E ρ B m W → FS E ρ m F a →
      (∀ p ∈ tk, a.tmps.getD p.2 undef = a0.tmps.getD p.2 undef) → GG ops tk eff ρ0 B0 Mem.none L W →
      guardK ops.toList o (fun F => (match allAnchored F B ws with | true => handEffK E o ws (vcH E ops.toList tk (quietQ Q) false r K) (quietQ Q) F B m | false => False)) (fun F => vcH E ops.toList tk (quietQ Q) false r K (skipF o F) B m) F →
      wpOp E.P ops (QN E K (quietQ Q)) i (fun a' w' => GG ops tk eff ρ0 B0 Mem.none (L.setIfInBounds i true) w' ∧ wpAnyG E.P ops (QN E K (quietQ Q)) (GG ops tk eff ρ0 B0 Mem.none) n (L.setIfInBounds i true) a' w') a W := by
    intro i ws r n L ρ B m F a W o ho ih hk hs hcl hW hF hanch hG h
    unfold wpOp
    simp only [ho]
    obtain ⟨F', hF', ⟨hw, h⟩ | ⟨hw, h⟩⟩ := guardK_sound hF h
    · rw [if_pos hw]
      left
      split at h
      · rename_i hws
        have h1 := (handEffK_out h).out ρ a W hW hF'
        refine wp_Q (Q1 := QQ E (quietQ Q)) (fun _ _ _ h => h) (fun ⟨a, w, h⟩ => ⟨a, w, h⟩) (Oper.wp_mono (fun a' W' hp => ?_) h1)
        obtain ⟨⟨ρ', F2, B2, m2, hK, hW2, hF2⟩, hkept, hsame⟩ := hp
        have hanch' : ∀ p ∈ tk, a'.tmps.getD p.2 undef = a0.tmps.getD p.2 undef := fun p hp => (hsame p.2 (hnod p hp i o ho)).trans (hanch p hp)
        have hG' := GG_eff (i := i) (m := m) (m0 := Mem.none) (fun _ _ h => by cases h) hF' hanch h0 hws hk hkept (fun b o hb => by cases hb) hG
        exact ⟨hG', ih hs hcl hW2 hF2 hanch' hG' (fun h => by cases h) hK⟩
      · exact h.elim
    · rw [if_neg (by simp [hw])]
      have hG' := GG_more (i := i) hG
      exact ⟨hG', ih hs hcl hW (hF'.skip o) (fun p hp => (sameTmps_put o a undef p.2 (hnod p hp i o ho)).trans (hanch p hp)) hG' (fun h => by cases h) h⟩
  induction s with
  | done =>
    intro n ph L ρ B m F a W hs hcl hW hF hanch hG hph h
    have hr : Region.ready .any ops L = [] := by
      cases n <;> simpa [schOk] using hs
    exact wpAnyG_done hr ⟨ρ, F, B, m, h, hW, hF⟩ n
  | take i r ih =>
    intro n ph L ρ B m F a W hs hcl hW hF hanch hG hph h
    cases n with
    | zero => cases hs
    | succ n =>
      simp only [schOk, Bool.and_eq_true, Bool.not_eq_true'] at hs
      obtain ⟨⟨⟨⟨hfree, hrdy⟩, hne⟩, hq⟩, hs⟩ := hs
      have hni : i ∉ eff := by simpa using hne
      have hrdy' : i ∈ Region.ready .any ops L := by simpa using hrdy
      unfold vcH at h
      unfold quietAt at hq
      cases ho : ops[i]? with
      | none => rw [ho] at hq; cases hq
      | some o =>
        rw [ho] at hq
        have ho' : ops.toList[i]? = some o := by simpa using ho
        rw [ho'] at h
        have hcl' := hcl.set hrdy'
        have hanch' : ∀ v, ∀ p ∈ tk, (a.put o.dst v).tmps.getD p.2 undef = a0.tmps.getD p.2 undef := fun v p hp => (sameTmps_put o a v p.2 (hnod p hp i o ho)).trans (hanch p hp)
        obtain ⟨F', hF', ⟨hw, h⟩ | ⟨hw, h⟩⟩ := guardK_sound hF h
        · split at h
          · rename_i hlo
            obtain ⟨v, h1, h2, h3⟩ := vcOp_quiet hΓ hW hF' hq h rfl
            obtain ⟨F2, hK, hF2⟩ := putK_out hF' h1 h2
            refine wpAnyG_take (v := v.con ρ) ho hsel hfree hrdy hcl (fun c a w hp => hpan c _ a w (hput a o.dst _).1 (hput a o.dst _).2 hp) (fun L w => GG_set hni) (.inl ⟨hw, fun w hw' => h3 w ?_⟩) hG
              (ih hs hcl' hW hF2 (hanch' _) ((GG_set hni).2 hG) hph hK)
            obtain ⟨L', hcl2, hi2, hG2⟩ := hw'
            cases hlk : looksAt F' o.op with
            | nothing => trivial
            | other => rw [hlk] at hlo; cases hlo
            | mem => rw [hlk] at hlo; cases hlo
            | box b =>
              rw [hlk] at hlo
              cases ph with
              | false => cases hlo
              | true =>
                obtain ⟨rfl, rfl⟩ := hph rfl
                have hpair := hasPair_spec hlo
                intro c t hb
                refine hG2.2 (i, b) hpair (fun j hj hL => ?_) c t hb
                cases hwt : waitsB ops ops.size j i with
                | false => rfl
                | true =>
                  have := closed_waits hcl2 ops.size j hwt hL
                  rw [hi2] at this
                  cases this
          · exact h.elim
        · exact wpAnyG_take (v := undef) ho hsel hfree hrdy hcl (fun c a w hp => hpan c _ a w (hput a o.dst _).1 (hput a o.dst _).2 hp) (fun L w => GG_set hni) (.inr ⟨hw, rfl⟩) hG
            (ih hs hcl' hW (hF'.skip o) (hanch' _) ((GG_set hni).2 hG) hph h)
  | pcall i r ih =>
    intro n ph L ρ B m F a W hs hcl hW hF hanch hG hph h
    exact (show False from h).elim
  | one i ws r ih =>
    intro n ph L ρ B m F a W hs hcl hW hF hanch hG hph h
    cases n with
    | zero => cases hs
    | succ n =>
      simp only [schOk, Bool.and_eq_true, beq_iff_eq] at hs
      obtain ⟨⟨hr, hk⟩, hs⟩ := hs
      have hrdy' : i ∈ Region.ready .any ops L := by rw [hr]; simp
      obtain ⟨_, o, ho, _⟩ := mem_ready.1 hrdy'
      refine wpAnyG_all hr (by simp) (fun k hk' => ?_)
      have : k = i := by simpa using hk'
      subst this
      unfold vcH at h
      have ho' : ops.toList[k]? = some o := by simpa using ho
      rw [ho'] at h
      exact heff ho ih hk hs (hcl.set hrdy') hW hF hanch hG h
  | two i ws r j ws' r' ih ih' =>
    intro n ph L ρ B m F a W hs hcl hW hF hanch hG hph h
    cases n with
    | zero => cases hs
    | succ n =>
      simp only [schOk, Bool.and_eq_true, beq_iff_eq] at hs
      obtain ⟨⟨⟨⟨hr, hk⟩, hs⟩, hk2⟩, hs2⟩ := hs
      have hi : i ∈ Region.ready .any ops L := by rw [hr]; simp
      have hj : j ∈ Region.ready .any ops L := by rw [hr]; simp
      obtain ⟨_, o, ho, _⟩ := mem_ready.1 hi
      obtain ⟨_, o2, ho2, _⟩ := mem_ready.1 hj
      unfold vcH at h
      have ho' : ops.toList[i]? = some o := by simpa using ho
      have ho2' : ops.toList[j]? = some o2 := by simpa using ho2
      rw [ho', ho2'] at h
      refine wpAnyG_all hr (by simp) (fun k hk' => ?_)
      have : k = i ∨ k = j := by simpa using hk'
      rcases this with rfl | rfl
      · exact heff ho ih hk hs (hcl.set hi) hW hF hanch hG h.1
      · exact heff ho2 ih' hk2 hs2 (hcl.set hj) hW hF hanch hG h.2


theorem drawH {F : Fr} {B : Ents} {m : Mem} (tk : List (Nat × Nat)) (eff : List Nat) (s : Sch) (hs : planOk ops tk eff s = true) (h : (match allAnchored F B (sndL tk) with | true => vcH E ops.toList tk (quietQ Q) true s K F B m | false => False)) :
    DrawNode E ops K Q F B m := by
  refine ⟨fun ρ a W hW hF => ?_⟩
  split at h
  · rename_i hanch
    simp only [planOk, Bool.and_eq_true, List.all_eq_true] at hs
    obtain ⟨⟨h1, h2⟩, h3⟩ := hs
    have hsnd : ∀ p ∈ tk, p.2 ∈ sndL tk := by
      clear h hanch h2 h3
      induction tk with
      | nil => intro p hp; cases hp
      | cons x r ih =>
        intro p hp
        rcases List.mem_cons.1 hp with rfl | hp
        · exact List.mem_cons_self
        · exact List.mem_cons_of_mem _ (ih p hp)
    have := vcH_sound (K := K) (Q := Q) (ρ0 := ρ) (B0 := B) (a0 := a) hΓ h1 h2 (fun p hp => by
      obtain ⟨⟨off, hl⟩, _⟩ := anchored_spec (allAnchored_spec hanch p.2 (hsnd p hp))
      exact ⟨off, (hF.vals _ _ hl).1⟩) s h3 (closed_start ops) hW hF (fun _ _ => rfl) ⟨fun _ _ h => (by cases h), fun p _ _ c t hb => (hW.box hb).1⟩ (fun _ => ⟨rfl, rfl⟩) h
    have h4 := wpAny_of_G _ _ _ _ this
    refine wpAny_Q (fun e a w q => ?_) _ _ _ _ h4
    cases e with
    | panic c =>
      obtain ⟨ρ', F', B', m', hq, hW', hF'⟩ := q
      exact ⟨ρ', [], B', m', hq, hW', ⟨hF'.size, fun d v hv => (by cases hv), hF'.defers⟩⟩
    | _ => exact q
  · exact h.elim
end
end Vc
end

section
open Go Go.MapKept
namespace Vc
set_option maxHeartbeats 1000000

/-! ### A map of one's own, its block in the memory -/
section
variable {P : Program}
theorem check_run (em : Bool) (d n : Nat) : ∀ (t : TypeId) (W : World) (xs : List Value), fits P n t xs = true → (Instr.checkKey em (d + n) t (mkT P t xs)).run P W = .ok () W := by
  induction n with
  | zero => intro t W xs h; cases h
  | succ n ih =>
    intro t W xs hx
    unfold fits at hx
    cases hu : P.underlying t with
    | none => rw [hu] at hx; cases hx
    | some dsc =>
      rw [hu] at hx
      cases dsc <;> simp only [Bool.false_eq_true] at hx
      case bool =>
        split at hx
        · rw [show d + (n + 1) = (d + n) + 1 from rfl]
          simp [Instr.checkKey, run_underlying hu, mkT, hu]
        · cases hx
      case int k =>
        split at hx
        · rw [show d + (n + 1) = (d + n) + 1 from rfl]
          simp [Instr.checkKey, run_underlying hu, mkT, hu]
        · cases hx
      case string =>
        split at hx
        · rw [show d + (n + 1) = (d + n) + 1 from rfl]
          simp [Instr.checkKey, run_underlying hu, mkT, hu]
        · cases hx
      case struct fs =>
        simp only [Bool.and_eq_true, Bool.not_eq_true'] at hx
        rw [show d + (n + 1) = (d + n) + 1 from rfl]
        simp only [mkT, hu, Instr.checkKey, Sem.run_bind, run_underlying hu, Result.andThen_ok]
        rw [← Array.forIn_toList]
        generalize fs.toList = L at hx ⊢
        obtain ⟨off, ys, hoff, hys⟩ : ∃ off ys, xs.drop off = ys ∧ fitsF (fits P n) P L off ys = true := ⟨0, xs, rfl, hx.2⟩
        clear hx
        induction L generalizing off ys with
        | nil => simp
        | cons f L ihf =>
          have h' : (Nat.beq f.offset off && (f.name != "_") && fits P n f.type (ys.take (P.cellsOf f.type)) && fitsF (fits P n) P L (off + P.cellsOf f.type) (ys.drop (P.cellsOf f.type))) = true := by
            cases ys <;> exact hys
          simp only [Bool.and_eq_true] at h'
          obtain ⟨⟨⟨ho, hn⟩, hfx⟩, hrx⟩ := h'
          have ho := Nat.eq_of_beq_eq_true ho
          have hn : f.name ≠ "_" := by simpa using hn
          have p1 := part_run W hoff hfx
          have p2 := ih f.type W _ hfx
          simp only [List.forIn_cons, Sem.run_bind, hn, ne_eq, not_false_eq_true, if_true, ho, p1, p2, Result.andThen_ok, Sem.run_pure]
          exact ihf (off + P.cellsOf f.type) _ (by rw [← List.drop_drop, hoff]) hrx

variable {α : Type} [DecidableEq α] (kc : α → List Value)
def entM (i : Nat) (p : α × Int) : MapEntry := { key := .agg (kc p.1).toArray, val := .int .i64 p.2, born := i }
def entsM : Nat → List (α × Int) → List MapEntry
  | _, [] => []
  | i, p :: l => entM kc i p :: entsM (i + 1) l
def mapOb (l : List (α × Int)) : Obj := .map (entsM kc 0 l).toArray l.length
def findM (a : α) : Nat → List (α × Int) → Option (Nat × Int)
  | _, [] => none
  | i, p :: l => if a = p.1 then some (i, p.2) else findM a (i + 1) l
def valM (a : α) (l : List (α × Int)) : Int := ((findM a 0 l).map (·.2)).getD 0

theorem entsM_length (l : List (α × Int)) (i : Nat) : (entsM kc i l).length = l.length := by
  induction l generalizing i with
  | nil => rfl
  | cons p l ih => simp [entsM, ih]
theorem entsM_get (l : List (α × Int)) (i j : Nat) : (entsM kc i l)[j]? = (l[j]?).map (entM kc (i + j)) := by
  induction l generalizing i j with
  | nil => simp [entsM]
  | cons p l ih =>
    cases j with
    | zero => simp [entsM]
    | succ j => simp only [entsM, List.getElem?_cons_succ, ih]; rw [show i + 1 + j = i + (j + 1) from by omega]
theorem entsM_push (l : List (α × Int)) (i : Nat) (p : α × Int) : entsM kc i (l ++ [p]) = entsM kc i l ++ [entM kc (i + l.length) p] := by
  induction l generalizing i with
  | nil => rfl
  | cons q l ih => simp only [List.cons_append, entsM, ih, List.length_cons]; rw [show i + 1 + l.length = i + (l.length + 1) from by omega]
theorem entsM_set (l : List (α × Int)) (j : Nat) (a : α) (v0 v : Int) (h : l[j]? = some (a, v0)) : entsM kc 0 (l.set j (a, v)) = (entsM kc 0 l).modify j (fun e => { e with val := .int .i64 v }) := by
  apply List.ext_getElem?
  intro i
  rw [entsM_get, List.getElem?_modify, entsM_get, List.getElem?_set]
  by_cases hij : j = i
  · subst hij
    rw [if_pos rfl, if_pos (List.getElem?_eq_some_iff.1 h).1, h]
    simp [entM]
  · rw [if_neg hij]
    cases l[i]? <;> simp [hij]
theorem findM_spec (a : α) (l : List (α × Int)) (i : Nat) : match findM a i l with
    | none => ∀ p ∈ l, p.1 ≠ a
    | some (j, v) => i ≤ j ∧ l[j - i]? = some (a, v) := by
  induction l generalizing i with
  | nil => simp [findM]
  | cons p l ih =>
    unfold findM
    split
    · rename_i _ h
      split at h
      · cases h
      · rename_i hne
        have := ih (i + 1)
        rw [h] at this
        intro q hq
        rcases List.mem_cons.1 hq with rfl | hq
        · exact Ne.symm hne
        · exact this q hq
    · rename_i _ j v h
      split at h
      · rename_i he
        cases h
        subst he
        simp
      · have := ih (i + 1)
        rw [h] at this
        simp only at this
        refine ⟨by omega, ?_⟩
        obtain ⟨j', rfl⟩ : ∃ j', j = i + 1 + j' := ⟨j - (i + 1), by omega⟩
        rw [show i + 1 + j' - i = j' + 1 from by omega, List.getElem?_cons_succ]
        rw [show i + 1 + j' - (i + 1) = j' from by omega] at this
        exact this.2

structure KeyOk (P : Program) (mt k e : TypeId) (n : Nat) : Prop where
  map : P.underlying mt = some (.map k e)
  str : isStructB (P.underlying k) = true
  dep : n ≤ 10000
  fit : ∀ a, fits P n k (kc a) = true
  inj : ∀ a b, kc a = kc b → a = b
  zero : ∀ W, (zeroValue e).run P W = .ok (.int .i64 0) W
variable {kc} {mt k e : TypeId} {n : Nat} (hk : KeyOk kc P mt k e n)
include hk
theorem KeyOk.mk' (a : α) : mkT P k (kc a) = .agg (kc a).toArray := by
  unfold mkT
  have hs := hk.str
  cases hu : P.underlying k with
  | none => rw [hu] at hs; cases hs
  | some d => rw [hu] at hs; cases d <;> first | rfl | cases hs
theorem KeyOk.check (em : Bool) (a : α) (W : World) : (Instr.checkKey em 10000 k (.agg (kc a).toArray)).run P W = .ok () W := by
  have := check_run em (10000 - n) n k W (kc a) (hk.fit a)
  rwa [Nat.sub_add_cancel hk.dep, hk.mk'] at this
theorem KeyOk.ask (a : α) (W : World) : ∀ (l : List (α × Int)) (i : Nat), (Instr.findAsking k (.agg (kc a).toArray) (entsM kc i l) i).run P W = .ok ((findM a i l).map fun p => (p.1, .int .i64 p.2)) W := by
  intro l
  induction l with
  | nil => intro i; simp [entsM, Instr.findAsking, findM]
  | cons p l ih =>
    intro i
    obtain ⟨r, hr, hiff⟩ := eqT n k (10000 - n) W _ _ (hk.fit a) (hk.fit p.1)
    rw [Nat.sub_add_cancel hk.dep, hk.mk', hk.mk'] at hr
    have hd : r = decide (a = p.1) := by
      cases r with
      | true => exact (decide_eq_true (hk.inj _ _ (hiff.1 rfl))).symm
      | false => exact (decide_eq_false (fun h => by subst h; have := hiff.2 rfl; cases this)).symm
    subst hd
    simp only [entsM, Instr.findAsking, entM, Op.equal, Op.maxDepth, Sem.run_bind, hr, Result.andThen_ok, findM]
    by_cases h : a = p.1
    · simp [h]
    · simp only [h, decide_false, Bool.false_eq_true, if_false]
      exact ih (i + 1)
theorem KeyOk.find (a : α) (W : World) (l : List (α × Int)) : (Instr.findKey k (.agg (kc a).toArray) (entsM kc 0 l)).run P W = .ok ((findM a 0 l).map fun p => (p.1, .int .i64 p.2)) W := by
  have hs := hk.str
  cases hu : P.underlying k with
  | none => rw [hu] at hs; cases hs
  | some d =>
    rw [hu] at hs
    cases d <;> first | (cases hs; done) | skip
    cases l with
    | nil => simp [Instr.findKey, run_underlying hu, entsM, Instr.findNow, findM]
    | cons p l =>
      have := hk.ask a W (p :: l) 0
      simp only [entsM] at this
      simp only [Instr.findKey, Sem.run_bind, run_underlying hu, Result.andThen_ok, entsM, Instr.findNow, Instr.sameNow]
      exact this
theorem KeyOk.look {W : World} {r : Nat} {l : List (α × Int)} (hb : W.heap[r]? = some (mapOb kc l)) (a : α) : (Instr.lookup mt (.map (some r)) (.agg (kc a).toArray) false).run P W = .ok (.int .i64 (valM a l)) W := by
  simp only [Instr.lookup, Sem.run_bind, run_underlying hk.map, Result.andThen_ok, run_getObj_map hb, Sem.run_pure, hk.check, hk.find, valM]
  cases findM a 0 l with
  | none => simp [hk.zero]
  | some p => simp
theorem sameBits_refl_fit : ∀ (n : Nat) (t : TypeId) (xs : List Value), fits P n t xs = true → ∀ u ∈ xs, ∀ d, Instr.sameBits d u u = true := by
  intro n
  induction n with
  | zero => intro t xs h; cases h
  | succ n ih =>
    intro t xs hx
    unfold fits at hx
    cases hu : P.underlying t with
    | none => rw [hu] at hx; cases hx
    | some dsc =>
      rw [hu] at hx
      cases dsc <;> simp only [Bool.false_eq_true] at hx
      case bool => split at hx <;> first | (cases hx; done) | (intro u hm d; simp at hm; subst hm; cases d <;> simp [Instr.sameBits])
      case int k => split at hx <;> first | (cases hx; done) | (intro u hm d; simp at hm; subst hm; cases d <;> simp [Instr.sameBits])
      case string => split at hx <;> first | (cases hx; done) | (intro u hm d; simp at hm; subst hm; cases d <;> simp [Instr.sameBits, beq_toListBytes])
      case struct fs =>
        simp only [Bool.and_eq_true, Bool.not_eq_true'] at hx
        have key : ∀ (fs : List Field) (off : Nat) (xs : List Value), fitsF (fits P n) P fs off xs = true → ∀ u ∈ xs, ∀ d, Instr.sameBits d u u = true := by
          intro fs
          induction fs with
          | nil => intro off xs h u hu; cases xs with
            | nil => cases hu
            | cons => cases h
          | cons f fs ihf =>
            intro off xs h u hu
            have h' : (Nat.beq f.offset off && (f.name != "_") && fits P n f.type (xs.take (P.cellsOf f.type)) && fitsF (fits P n) P fs (off + P.cellsOf f.type) (xs.drop (P.cellsOf f.type))) = true := by
              cases xs <;> exact h
            simp only [Bool.and_eq_true] at h'
            rw [← List.take_append_drop (P.cellsOf f.type) xs] at hu
            rcases List.mem_append.1 hu with hu | hu
            · exact ih f.type _ h'.1.2 u hu
            · exact ihf _ _ h'.2 u hu
        exact key fs.toList 0 xs hx.2
theorem KeyOk.stays (a : α) (W : World) : (Instr.keyThatStays (.agg (kc a).toArray) (.agg (kc a).toArray)).run P W = .ok (.agg (kc a).toArray) W := by
  have h : Instr.sameBits 10000 (.agg (kc a).toArray) (.agg (kc a).toArray) = true := by
    simp only [Instr.sameBits, beq_self_eq_true, Bool.true_and, List.all_eq_true]
    rintro ⟨x, y⟩ hm
    have hxy : x = y ∧ x ∈ kc a := by
      rw [List.mem_iff_getElem?] at hm
      obtain ⟨i, hi⟩ := hm
      rw [List.getElem?_zip_eq_some] at hi
      obtain ⟨h1, h2⟩ := hi
      simp only at h1 h2
      rw [h1] at h2
      exact ⟨Option.some.inj h2, List.mem_of_getElem? h1⟩
    obtain ⟨rfl, hm2⟩ := hxy
    exact sameBits_refl_fit hk n k _ (hk.fit a) x hm2 9999
  simp [Instr.keyThatStays, h]
def putM (a : α) (l : List (α × Int)) : List (α × Int) := match findM a 0 l with
  | none => l ++ [(a, 0)]
  | some _ => l
def posM (a : α) (l : List (α × Int)) : Nat := match findM a 0 l with
  | none => l.length
  | some (j, _) => j
theorem KeyOk.entry {W : World} {r : Nat} {l : List (α × Int)} (hb : W.heap[r]? = some (mapOb kc l)) (a : α) :
    (Instr.mapEntry mt (.map (some r)) (.agg (kc a).toArray)).run P W = .ok (.tuple #[.int .i64 (valM a l), .int .i64 (posM a l : Nat)]) (setBlock W r (mapOb kc (putM a l))) := by
  have hspec := findM_spec a l 0
  simp only [Instr.mapEntry, Sem.run_bind, run_underlying hk.map, Result.andThen_ok, run_getObj_map hb, hk.check, hk.find, valM, posM, putM]
  cases hf : findM a 0 l with
  | none =>
    simp only [Option.map_none, hk.zero, Sem.run_bind, Result.andThen_ok, run_setObj_map _ hb, Sem.run_pure, Option.getD_none, goInt]
    congr 1
    simp only [setBlock, mapOb, List.length_append, List.length_cons, List.length_nil, entsM_push, Nat.zero_add]
    congr 2
    rw [← List.push_toArray]
    rfl
  | some p =>
    obtain ⟨j, v⟩ := p
    rw [hf] at hspec
    simp only [Nat.sub_zero] at hspec
    have hj : (entsM kc 0 l).toArray[j]? = some (entM kc j (a, v)) := by
      rw [List.getElem?_toArray, entsM_get, hspec.2]; simp
    simp only [Option.map_some, hj, Option.getD_some, entM, Sem.run_bind, hk.stays, Result.andThen_ok, run_setObj_map _ hb, Sem.run_pure, goInt]
    congr 1
    simp only [setBlock, mapOb]
    congr 3
    apply Array.ext'
    rw [Array.toList_modify]
    apply List.ext_getElem?
    intro i
    rw [List.getElem?_modify]
    by_cases hij : j = i
    · subst hij
      rw [entsM_get, hspec.2]; simp [entM]
    · cases (entsM kc 0 l)[i]? <;> simp [hij]
omit hk in
theorem entry_store {W : World} {r : Nat} {l : List (α × Int)} (hb : W.heap[r]? = some (mapOb kc l)) {j : Nat} {a : α} {v0 : Int} (hj : l[j]? = some (a, v0)) (v : Int) :
    (Instr.entryStore mt (.map (some r)) (.int .i64 (j : Nat)) (.int .i64 v)).run P W = .ok () (setBlock W r (mapOb kc (l.set j (a, v)))) := by
  have hlt : j < l.length := (List.getElem?_eq_some_iff.1 hj).1
  have hfi : (entsM kc 0 l).toArray.findIdx? (fun e => (e.born : Int) == (j : Int)) = some j := by
    rw [List.findIdx?_toArray, List.findIdx?_eq_some_iff_getElem]
    have hg : ∀ (i : Nat) (hi : i < (entsM kc 0 l).length), (entsM kc 0 l)[i].born = i := by
      intro i hi
      have h1 := entsM_get kc l 0 i
      rw [List.getElem?_eq_getElem hi] at h1
      rw [entsM_length] at hi
      rw [List.getElem?_eq_getElem hi] at h1
      simp only [Option.map_some, Option.some.injEq] at h1
      rw [h1]; simp [entM]
    refine ⟨by rw [entsM_length]; exact hlt, by rw [hg]; simp, fun i hi => ?_⟩
    rw [hg]
    simp only [beq_iff_eq, Int.natCast_inj, Bool.not_eq_true, beq_eq_false_iff_ne, ne_eq]
    omega
  simp only [Instr.entryStore, Sem.run_bind, run_getObj_map hb, Result.andThen_ok, asInt, asIntOf, Sem.run_pure, hfi, run_setObj_map _ hb]
  congr 1
  simp only [setBlock, mapOb, List.length_set, entsM_set kc l j a v0 v hj]
  congr 3
  apply Array.ext'
  rw [Array.toList_modify]
end
end Vc
end

section
open Go Go.MapKept
namespace Vc
set_option maxHeartbeats 1000000

/-- A block of the memory that is written while boxes and rows of one's own stand beside it. -/
theorem WS.setM {E : Env} {ρ : Val} {B : Ents} {mm : Mem} {W : World} (hW : WS E ρ B mm W) (hB : noRdB B = true) {g : Nat} {o0 o : Obj} (hg : mm g = some o0) (hm : E.m0 g = none) : WS E ρ B (mm.set g o) (setBlock W g o) := by
  have hlt := lt_of_heap (hW.mem g o0 hg)
  have hnew : E.w0.heap.size ≤ g ∨ E.lent g := (hW.new g o0 hg).elim (fun h => by rw [hm] at h; cases h) id
  have hne : ∀ i b, blockOf ρ B i = some b → b ≠ g := by
    rintro i b hb rfl
    rw [(hW.fresh i b hb).1] at hg; cases hg
  refine ⟨fun i e hi => ?_, fun i b hi => ⟨?_, (hW.fresh i b hi).2⟩, hW.inj, fun b ob hb => ?_, fun b ob hb => ?_, fun b ob hb => ?_, hW.os, hW.tape, hW.output, by simp [setBlock]; exact hW.size, fun k hk hl => ?_, hW.pin⟩
  · refine noRdB_sat (m := mm) hB hi ?_
    refine Ent.sat_same (hW.ents i e hi) (Mem.le_refl _) ⟨rfl, rfl⟩ (fun _ _ _ => rfl) (fun b hb => ?_)
    exact setBlock_other _ _ _ _ (hne i b (by unfold blockOf; rw [hi]; exact hb))
  · rw [Mem.set_other _ _ (hne i b hi)]; exact (hW.fresh i b hi).1
  · by_cases h : b = g
    · subst h; rw [Mem.set_same] at hb; cases hb; exact setBlock_same _ _ _ hlt
    · rw [Mem.set_other _ _ h] at hb; rw [setBlock_other _ _ _ _ h]; exact hW.mem b ob hb
  · rw [Mem.set_other _ _ (by rintro rfl; rw [hm] at hb; cases hb)]; exact hW.le b ob hb
  · by_cases h : b = g
    · subst h; exact .inr hnew
    · rw [Mem.set_other _ _ h] at hb; exact hW.new b ob hb
  · have hne : k ≠ g := by
      rintro rfl
      rcases hnew with h | h
      · omega
      · exact hl h
    rw [setBlock_other _ _ _ _ hne]
    exact hW.old k hk hl

section
variable {E : Env} {α : Type} [DecidableEq α] {kc : α → List Value} {mt k e : TypeId} {n : Nat} (hk : KeyOk kc E.P mt k e n) {o : Oper} {F : Fr} {B : Ents} {mm : Mem} {K : Cont} {Q : SPost}

theorem handMake {t : TypeId} (ho : o.op = .makeMap t none) (hno : noRdF F = true) (hB : B = [])
    (hK : ∀ g, mm g = none → putK E o.dst (.one (.v (.map (some g)))) F [] (mm.set g (mapOb kc [])) K) : HandNode E o F B mm K Q := by
  subst hB
  refine ⟨fun ρ a W hW hF => ?_⟩
  obtain ⟨hW', hnone⟩ := hW.newB (W' := W.alloc (mapOb kc [])) (o := mapOb kc []) rfl rfl rfl rfl
  refine wp_value (W' := W.alloc (mapOb kc [])) (v := .map (some W.heap.size)) ?_ (putK_sound (v := .one (.v (.map (some W.heap.size)))) hW' (hF.noRd hno) rfl (hK _ hnone))
  have hrun : (Instr.makeMap t none).run E.P W = .ok (.map (some W.heap.size)) (W.alloc (.map #[] 0)) := rfl
  simp only [execOp, ho, Option.map_none, Sem.run_bind, hrun, Result.andThen_ok, Sem.run_pure]
  rfl

include hk
theorem handLook (ho : ∃ x y, o.op = .lookup mt x y false ∧ ∃ g, ev F x = some (.one (.v (.map (some g)))) ∧ ∃ a, ev F y = some (.agg (vmap (kc a))) ∧ ∃ l, mm g = some (mapOb kc l) ∧ putK E o.dst (.one (.v (.int .i64 (valM a l)))) F B mm K) : HandNode E o F B mm K Q := by
  obtain ⟨x, y, ho, g, hx, a0, hy, l, hg, hK⟩ := ho
  refine ⟨fun ρ a W hW hF => ?_⟩
  obtain ⟨hex, _⟩ := ev_con hF hx
  obtain ⟨hey, _⟩ := ev_con hF hy
  have hrun := hk.look (hW.mem g _ hg) a0
  refine wp_value (W' := W) (v := .int .i64 (valM a0 l)) ?_ (putK_sound (v := .one (.v (.int .i64 (valM a0 l)))) hW hF rfl hK)
  simp only [AV.con, Leaf.con, conL_vmap] at hex hey
  simp [execOp, ho, hex, hey, hrun]
theorem effLook (ho : ∃ x y, o.op = .lookup mt x y false ∧ ∃ g, ev F x = some (.one (.v (.map (some g)))) ∧ ∃ a, ev F y = some (.agg (vmap (kc a))) ∧ ∃ l, mm g = some (mapOb kc l) ∧ putK E o.dst (.one (.v (.int .i64 (valM a l)))) F B mm K) (ws : List Nat) : HandEff E o ws K Q F B mm := by
  obtain ⟨x, y, ho, g, hx, a0, hy, l, hg, hK⟩ := ho
  refine ⟨fun ρ a W hW hF => ?_⟩
  obtain ⟨hex, _⟩ := ev_con hF hx
  obtain ⟨hey, _⟩ := ev_con hF hy
  have hrun := hk.look (hW.mem g _ hg) a0
  refine wp_value (W' := W) (v := .int .i64 (valM a0 l)) ?_ ⟨putK_sound (v := .one (.v (.int .i64 (valM a0 l)))) hW hF rfl hK, fun _ _ _ _ _ => rfl, sameTmps_put _ _ _⟩
  simp only [AV.con, Leaf.con, conL_vmap] at hex hey
  simp [execOp, ho, hex, hey, hrun]
omit hk [DecidableEq α] in
theorem kept_set {ρ : Val} {W : World} (hW : WS E ρ B mm W) {g : Nat} {o0 : Obj} (hg : mm g = some o0) (o : Obj) (ws : List Nat) : Kept ρ B ws W (setBlock W g o) := by
  intro b _ c t hl
  refine setBlock_other _ _ _ _ ?_
  rintro rfl
  have := (hW.fresh b (ρ.blk b) (by unfold blockOf; rw [hl]; rfl)).1
  rw [this] at hg; cases hg
theorem effEntry (ho : ∃ x y, o.op = .mapEntry mt x y ∧ ∃ g, ev F x = some (.one (.v (.map (some g)))) ∧ ∃ a, ev F y = some (.agg (vmap (kc a))) ∧ ∃ l, mm g = some (mapOb kc l) ∧ E.m0 g = none ∧ noRdF F = true ∧ noRdB B = true ∧
    putK E o.dst (.tup [(false, [.v (.int .i64 (valM a l))]), (false, [.v (.int .i64 (posM a l : Nat))])]) F B (mm.set g (mapOb kc (putM a l))) K) (ws : List Nat) : HandEff E o ws K Q F B mm := by
  obtain ⟨x, y, ho, g, hx, a0, hy, l, hg, hm0, hF0, hB0, hK⟩ := ho
  refine ⟨fun ρ a W hW hF => ?_⟩
  obtain ⟨hex, _⟩ := ev_con hF hx
  obtain ⟨hey, _⟩ := ev_con hF hy
  have hrun := hk.entry (hW.mem g _ hg) a0
  refine wp_value (W' := setBlock W g (mapOb kc (putM a0 l))) (v := .tuple #[.int .i64 (valM a0 l), .int .i64 (posM a0 l : Nat)]) ?_ ⟨putK_sound (v := .tup [(false, [.v (.int .i64 (valM a0 l))]), (false, [.v (.int .i64 (posM a0 l : Nat))])]) (hW.setM hB0 hg hm0) (hF.noRd hF0) ?_ hK, kept_set hW hg _ ws, sameTmps_put _ _ _⟩
  · simp only [AV.con, Leaf.con, conL_vmap] at hex hey
    simp [execOp, ho, hex, hey, hrun]
  · intro p hp
    rcases List.mem_cons.1 hp with rfl | hp
    · intro u hu; rcases List.mem_cons.1 hu with rfl | hu
      · rfl
      · cases hu
    · rcases List.mem_cons.1 hp with rfl | hp
      · intro u hu; rcases List.mem_cons.1 hu with rfl | hu
        · rfl
        · cases hu
      · cases hp
omit hk in
theorem effStore (ho : ∃ x s y, o.op = .entryStore mt x s y ∧ ∃ g, ev F x = some (.one (.v (.map (some g)))) ∧ ∃ j, ev F s = some (.one (.v (.int .i64 (j : Nat)))) ∧ ∃ v, ev F y = some (.one (.v (.int .i64 v))) ∧ ∃ l a v0, mm g = some (mapOb kc l) ∧ l[j]? = some (a, v0) ∧ E.m0 g = none ∧ noRdF F = true ∧ noRdB B = true ∧ o.dst = none ∧
    K F B (mm.set g (mapOb kc (l.set j (a, v))))) (ws : List Nat) : HandEff E o ws K Q F B mm := by
  obtain ⟨x, s, y, ho, g, hx, j, hs, v, hy, l, a0, v0, hg, hj, hm0, hF0, hB0, hd, hK⟩ := ho
  refine ⟨fun ρ a W hW hF => ?_⟩
  obtain ⟨hex, _⟩ := ev_con hF hx
  obtain ⟨hey, _⟩ := ev_con hF hy
  obtain ⟨hes, _⟩ := ev_con hF hs
  have hrun := entry_store (P := E.P) (mt := mt) (hW.mem g _ hg) hj v
  refine wp_skip' (W' := setBlock W g (mapOb kc (l.set j (a0, v)))) ?_ ⟨?_, kept_set hW hg _ ws, sameTmps_put _ _ _⟩
  · simp only [AV.con, Leaf.con] at hex hey hes
    simp [execOp, ho, hex, hey, hes, hrun]
  · rw [hd]
    exact ⟨ρ, F, B, _, hK, hW.setM hB0 hg hm0, hF.noRd hF0⟩
end
end Vc
namespace Vc
theorem draw_from {E : Env} {ops : Array Oper} {K : Cont} {Q : SPost} {F : Fr} {B : Ents} {m : Mem} (F' : Fr) (B' : Ents) (m' : Mem) (he : Entails E F B m F' B' m') (h : DrawNode E ops K Q F' B' m') : DrawNode E ops K Q F B m :=
  ⟨fun ρ a W hW hF => by obtain ⟨ρ', hW', hF'⟩ := he ρ a W hW hF; exact h.out ρ' a W hW' hF'⟩
theorem run_zero_of {P : Program} {t : TypeId} {z : Value} (h : (P.info? t).bind (·.zero) = some z) (W : World) : (zeroValue t).run P W = .ok z W := by
  cases hi : P.info? t with
  | none => rw [hi] at h; cases h
  | some i =>
    rw [hi] at h
    replace h : i.zero = some z := h
    simp [zeroValue, typeInfo, hi, h]
theorem Mem.set_set (M : Mem) (g : Nat) (o o' : Obj) : (M.set g o).set g o' = M.set g o' := by
  funext b; simp only [Mem.set]; split <;> rfl
theorem Mem.le_set {M : Mem} {g : Nat} (h : M g = Option.none) (o : Obj) : M.le (M.set g o) := by
  intro b o' hb
  rw [Mem.set_other _ _ (by rintro rfl; rw [h] at hb; cases hb)]; exact hb
end Vc
namespace Vc
section
variable {α : Type} [DecidableEq α]
theorem findM_append {a : α} {l : List (α × Int)} {i : Nat} (h : findM a i l = none) (v : Int) : findM a i (l ++ [(a, v)]) = some (i + l.length, v) := by
  induction l generalizing i with
  | nil => simp [findM]
  | cons p l ih =>
    unfold findM at h
    split at h
    · cases h
    · rename_i hne
      simp only [List.cons_append, findM, hne, if_false, ih h, List.length_cons]
      rw [show i + 1 + l.length = i + (l.length + 1) from by omega]
theorem findM_set {a : α} {l : List (α × Int)} {i j : Nat} {v0 : Int} (h : findM a i l = some (j, v0)) (v : Int) : findM a i (l.set (j - i) (a, v)) = some (j, v) := by
  induction l generalizing i with
  | nil => cases h
  | cons p l ih =>
    have hs := findM_spec a (p :: l) i
    rw [h] at hs
    unfold findM at h
    split at h
    · cases h
      simp [findM]
    · rename_i hne
      have hs2 := findM_spec a l (i + 1)
      rw [h] at hs2
      simp only at hs2
      obtain ⟨j', rfl⟩ : ∃ j', j = i + 1 + j' := ⟨j - (i + 1), by omega⟩
      have := ih h
      rw [show i + 1 + j' - (i + 1) = j' from by omega] at this
      rw [show i + 1 + j' - i = j' + 1 from by omega, List.set_cons_succ]
      simp only [findM, hne, if_false, this]
theorem putM_get (a : α) (l : List (α × Int)) : (putM a l)[posM a l]? = some (a, valM a l) := by
  have hs := findM_spec a l 0
  unfold putM posM valM
  cases h : findM a 0 l with
  | none => simp
  | some p =>
    obtain ⟨j, v⟩ := p
    rw [h] at hs
    simpa using hs.2
theorem valM_put (a : α) (l : List (α × Int)) : valM a (putM a l) = valM a l := by
  unfold putM
  cases h : findM a 0 l with
  | none => simp [valM, h, findM_append h]
  | some p => rfl
theorem valM_set (a : α) (l : List (α × Int)) (v : Int) : valM a ((putM a l).set (posM a l) (a, v)) = v := by
  unfold putM posM
  cases h : findM a 0 l with
  | none =>
    have : (l ++ [(a, (0 : Int))]).set l.length (a, v) = l ++ [(a, v)] := by simp
    simp only [this, valM, findM_append h]
    rfl
  | some p =>
    obtain ⟨j, v0⟩ := p
    have := findM_set h v
    rw [Nat.sub_zero] at this
    simp only [valM, this]
    rfl
end
end Vc
end

section
open Go
namespace Vc
/-! ### The order of strings -/
theorem bl_irr : ∀ x : List UInt8, Op.bytesLess x x = false
  | [] => rfl
  | a :: x => by simp [Op.bytesLess, bl_irr x]
theorem bl_trans : ∀ x y z : List UInt8, Op.bytesLess x y = true → Op.bytesLess y z = true → Op.bytesLess x z = true
  | [], [], _ => fun h _ => by simp [Op.bytesLess] at h
  | [], _ :: _, [] => fun _ h => by simp [Op.bytesLess] at h
  | [], _ :: _, _ :: _ => fun _ _ => by simp [Op.bytesLess]
  | _ :: _, [], _ => fun h _ => by simp [Op.bytesLess] at h
  | _ :: _, _ :: _, [] => fun _ h => by simp [Op.bytesLess] at h
  | a :: x, b :: y, c :: z => fun h1 h2 => by
    simp only [Op.bytesLess, Bool.or_eq_true, decide_eq_true_eq, Bool.and_eq_true, beq_iff_eq] at h1 h2 ⊢
    rcases h1 with h1 | ⟨rfl, h1⟩
    · rcases h2 with h2 | ⟨rfl, h2⟩
      · exact .inl (UInt8.lt_trans h1 h2)
      · exact .inl h1
    · rcases h2 with h2 | ⟨rfl, h2⟩
      · exact .inl h2
      · exact .inr ⟨rfl, bl_trans x y z h1 h2⟩
theorem bl_tri : ∀ x y : List UInt8, Op.bytesLess x y = false → Op.bytesLess y x = false → x = y
  | [], [] => fun _ _ => rfl
  | [], _ :: _ => fun h _ => by simp [Op.bytesLess] at h
  | _ :: _, [] => fun _ h => by simp [Op.bytesLess] at h
  | a :: x, b :: y => fun h1 h2 => by
    simp only [Op.bytesLess, Bool.or_eq_false_iff, decide_eq_false_iff_not] at h1 h2
    have hab : a = b := UInt8.le_antisymm (UInt8.not_lt.1 h2.1) (UInt8.not_lt.1 h1.1)
    subst hab
    simp at h1 h2
    rw [bl_tri x y h1 h2]
theorem cmp_bl : ∀ x y : List UInt8, Lib.compareBytes x y = if Op.bytesLess x y = true then -1 else if Op.bytesLess y x = true then 1 else 0
  | [], [] => rfl
  | [], _ :: _ => by simp [Lib.compareBytes, Op.bytesLess]
  | _ :: _, [] => by simp [Lib.compareBytes, Op.bytesLess]
  | a :: x, b :: y => by
    have ih := cmp_bl x y
    simp only [Lib.compareBytes, Op.bytesLess, Bool.or_eq_true, decide_eq_true_eq, Bool.and_eq_true, beq_iff_eq]
    by_cases h1 : a < b
    · simp [h1]
    · by_cases h2 : b < a
      · have hne : a ≠ b := fun h => by subst h; exact UInt8.lt_irrefl _ h2
        simp [h1, h2, hne]
      · have hab : a = b := UInt8.le_antisymm (UInt8.not_lt.1 h2) (UInt8.not_lt.1 h1)
        subst hab
        simp [h1, ih]
theorem sLt_irr (a : ByteArray) : sLt a a = false := bl_irr _
theorem sLt_trans {a b c : ByteArray} (h1 : sLt a b = true) (h2 : sLt b c = true) : sLt a c = true := bl_trans _ _ _ h1 h2
theorem sLt_tri {a b : ByteArray} (h1 : sLt a b = false) (h2 : sLt b a = false) : a = b := by
  have := bl_tri _ _ h1 h2
  rw [ByteArray.toList_eq, ByteArray.toList_eq] at this
  exact WideShapes.bytes_inj this
theorem sLt_asym {a b : ByteArray} (h : sLt a b = true) : sLt b a = false := by
  cases hb : sLt b a with
  | false => rfl
  | true => have := sLt_trans h hb; rw [sLt_irr] at this; cases this
def cmpS (a b : ByteArray) : Int := Lib.compareBytes a.data.toList b.data.toList
theorem cmpS_eq (a b : ByteArray) : cmpS a b = if sLt a b = true then -1 else if sLt b a = true then 1 else 0 := by
  unfold cmpS sLt
  rw [cmp_bl, ByteArray.toList_eq, ByteArray.toList_eq]
theorem cmpS_neg (a b : ByteArray) : decide (cmpS a b < 0) = sLt a b := by
  rw [cmpS_eq]
  cases h : sLt a b <;> cases h2 : sLt b a <;> simp
theorem cmpS_zero (a b : ByteArray) : decide (cmpS a b = 0) = decide (a = b) := by
  rw [cmpS_eq]
  cases h : sLt a b <;> cases h2 : sLt b a <;> simp
  · exact sLt_tri h h2
  · rintro rfl; rw [sLt_irr] at h2; cases h2
  · rintro rfl; rw [sLt_irr] at h; cases h
  · rintro rfl; rw [sLt_irr] at h; cases h
end Vc
end
