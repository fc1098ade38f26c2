/-
  Proved: Rows.PartAllSaid: for every input antipodelaw23.PartAll returns true and its arguments read as before. No condition.
-/
import Derived.ProofKit
import Derived.OpenShut
import Derived.Test.YtohghogmgnommaaRows
import Derived.Test.YtohghogmgnommaaW3
set_option linter.all false
set_option linter.unusedVariables false
set_option linter.unusedSimpArgs false
set_option linter.unusedSectionVars false
section
open Go Go.Proofs Vc
namespace Vc
set_option maxHeartbeats 1000000

theorem callRef {E : Env} {f : FuncId} {args : List AV} {d : Option Nat} {F : Fr} {B : Ents} {m : Mem} {K : Cont} {Q : SPost} {o : Part × Rep} (base : Nat) (hf : FnX E.P f m args [] (RefOut m o) noPanic) (hrd : renAVs (renOf [] base) args = args)
    (hc : callOk [] base [] [] F B [] E.pins = true)
    (hK : ∀ xc xr xd xp mn, Mem.Disj m mn → PartRow (m.join mn) o.1 xc xr xd → PairRow (m.join mn) xp o.2.pairs → putK E d (refU o xc xr xd xp) F (restB [] B) (m.join mn) K) : CallNode E f args d F B m K Q :=
  KeptNode.call (callXK [] base [] hc trivial ⟨args, hrd, hf⟩ (fun u0 B0 mn hd h => by
    obtain ⟨xc, xr, xd, xp, h1, h2, rfl, rfl⟩ := h
    exact ⟨rfl, rfl, hK xc xr xd xp mn hd h1 h2⟩) (fun _ _ _ _ h => h.elim))

theorem f4 (m : Mem) (p : Part) (xc xr xd : Sl) (k : Cmd) (xs xw : Sl) (o : Bool) (y : Tri) (hp : PartRow m p xc xr xd) (hk : CmdRow m k xs xw) : FnS Try.prog 4 m [av (p.c xc xr xd), av (k.c xs xw), .bool o, av y.c] (.bool true) := by
  refine fnS (args := [.agg (vmap (p.c xc xr xd)), .agg (vmap (k.c xs xw)), .one (.v (.bool o)), .agg (vmap y.c)]) Γok mix Try.func4 rfl (by kernel_rfl) Try.ntmps4 rfl rfl (by simp) (okv_cons (okL_v rfl) (okv_cons (okL_v rfl) (okv_cons rfl (okv_cons (okL_v rfl) okv_nil)))) ?_
  intro W
  refine ⟨[], callS (f5 m) rfl rfl ?_⟩
  refine ⟨fun h => absurd h (by simp), fun _ => ?_⟩
  refine ⟨[], callS (f15 m p xc xr xd hp) rfl rfl ?_⟩
  refine ⟨fun h1 => ?_, fun h1 => ?_⟩
  · exact ⟨[], retS fun ρ => rfl⟩
  have h1 : lightPart p = true := by simpa using h1
  refine ⟨[], ⟨[.freeze 24], fun A c m1 hd1 a1 a2 a3 a4 => ?_⟩⟩
  have hl : CmdsRow (m.join m1) ⟨A, 1, c⟩ [k] := ⟨[(k, xs, xw)], rfl, flat_row (f := fun p : Cmd × Sl × Sl => p.1.c p.2.1 p.2.2) (sz := 14) (l := [(k, xs, xw)]) hd1 a1 a2 a3 a4, fun q hq => by
    have : q = (k, xs, xw) := by simpa using hq
    subst this; exact hk.mono (Mem.le_join _ _)⟩
  have hp := hp.mono (Mem.le_join m m1)
  have hk := hk.mono (Mem.le_join m m1)
  generalize m.join m1 = mA at hl hp hk
  refine callS (f6 mA ⟨A, 1, c⟩ [k] 1 hl) rfl rfl ?_
  refine ⟨fun h2 => ?_, fun h2 => ?_⟩
  · exact ⟨[], retS fun ρ => rfl⟩
  have h2 : lightsR [k] 1 = true := by simpa using h2
  have hkl : lightR k = true := by
    unfold lightsR at h2
    simp only [List.all_cons, List.all_nil, Bool.and_true, Bool.and_eq_true] at h2
    exact h2.2
  refine draw_from [(4, .one (.ptr 4 0)), (5, .one (.ptr 5 0)), (7, .one (.ptr 7 0)), (2, .one (.v (.bool o)))] [(4, .box (vmap (p.c xc xr xd)) 31), (5, .box (vmap (k.c xs xw)) 37), (7, .box (vmap y.c) 33)] mA (entails_ren [] ⟨rfl, rfl, rfl, rfl, trivial⟩ ⟨rfl, rfl, rfl, trivial⟩ rfl rfl) ?_
  refine draw Γok [(0, 4), (2, 4)] [1, 3] (.take 0 (.take 2 (.pcall 1 (.pcall 3 (.take 4 .done))))) (by kernel_rfl) ?_
  refine pureS (f13 mA p xc xr xd hp) rfl rfl (pureS (f14 mA p xc xr xd hp) rfl rfl ?_)
  refine ⟨fun h => absurd h (by simp), fun _ => ?_⟩
  refine ⟨[], callS (f14 mA p xc xr xd hp) rfl rfl ?_⟩
  refine ⟨fun h3 => ?_, fun h3 => ?_⟩
  · exact ⟨[], retS fun ρ => rfl⟩
  have h3 : mayR p = true := by simpa using h3
  obtain ⟨hup, he0, he1⟩ := mayR_up h3
  obtain ⟨hsm, hc60⟩ := light_small h1
  have hwl := lightR_writes hkl
  refine ⟨[], callS (f7 mA p xc xr xd k xs xw o) rfl rfl ?_⟩
  have hkw := ownR_writes p k o
  have hk' : CmdRow mA (ownR p k o) xs xw := ⟨by have : (ownR p k o).spans = k.spans := (by unfold ownR; split <;> rfl); rw [this]; exact hk.spans, by rw [hkw]; exact hk.writes⟩
  generalize ownR p k o = q at hkw hk'
  have c9 := fun (m : Mem) xc xr xd xs xw (hp : PartRow m p xc xr xd) (hk : CmdRow m q xs xw) => f9 m p xc xr xd q xs xw hp hk hup hsm (by rw [hkw]; omega) he0 he1
  have c10 := fun (m : Mem) xc xr xd xs xw (hp : PartRow m p xc xr xd) (hk : CmdRow m q xs xw) => f10 m p xc xr xd q xs xw hp hk hup hsm (by rw [hkw]; omega) he0 he1
  generalize applyR p q = r at c9 c10
  refine ⟨[.cut], cutR [] (F' := [(41, .agg (vmap (p.c xc xr xd))), (42, .agg (vmap (q.c xs xw))), (4, .one (.ptr 4 0)), (5, .one (.ptr 5 0)), (7, .one (.ptr 7 0))]) (B' := [(4, .box (vmap (p.c xc xr xd)) 31), (5, .box (vmap (q.c xs xw)) 37), (7, .box (vmap y.c) 33)]) ⟨rfl, rfl, rfl, rfl, rfl, trivial⟩ ⟨rfl, rfl, rfl, trivial⟩ rfl rfl ?_⟩
  refine callApply 10000 (o := r) (c9 _ _ _ _ _ _ hp hk') rfl rfl (fun g mn hd hg => ?_)
  refine ⟨[.freeze 10001, .freeze 10002, .freeze 10003, .freeze 10014, .cut], fun A c m1 hd1 a1 a2 a3 a4 A2 k2 m2 hd2 b1 b2 b3 b4 A3 k3 m3 hd3 d1 d2 d3 d4 A4 k4 m4 hd4 f1 f2 f3 f4 => ?_⟩
  have hle : mA.le (((((mA.join mn).join m1).join m2).join m3).join m4) := Mem.le_trans (Mem.le_join _ _) (Mem.le_trans (Mem.le_join _ _) (Mem.le_trans (Mem.le_join _ _) (Mem.le_trans (Mem.le_join _ _) (Mem.le_join _ _))))
  have hp1 := (part_fz hg hd1 a1 a2 a3 a4 hd2 b1 b2 b3 b4 hd3 d1 d2 d3 d4).mono (Mem.le_join _ m4)
  have hq1 : PairRow (((((mA.join mn).join m1).join m2).join m3).join m4) ⟨A4, r.2.pairs.length, k4⟩ r.2.pairs := flat_row hd4 f1 f2 f3 f4
  refine cutR [] (F' := [(47, .agg (vmap (p.c xc xr xd))), (48, .agg (vmap (q.c xs xw))), (4, .one (.ptr 4 0)), (5, .one (.ptr 5 0)), (7, .one (.ptr 7 0)), (9, .one (.ptr 9 0)), (10, .one (.ptr 10 0))])
    (B' := [(4, .box (vmap (p.c xc xr xd)) 31), (5, .box (vmap (q.c xs xw)) 37), (7, .box (vmap y.c) 33), (9, .box (vmap (r.1.c ⟨A, g.length, c⟩ ⟨A2, r.1.records.length, k2⟩ ⟨A3, r.1.done.length, k3⟩)) 31), (10, .box (vmap (r.2.c ⟨A4, r.2.pairs.length, k4⟩)) 43)]) ⟨rfl, rfl, rfl, rfl, rfl, rfl, rfl, trivial⟩ ⟨rfl, rfl, rfl, rfl, rfl, trivial⟩ rfl rfl ?_
  have hp2 := hp.mono hle
  have hk2 := hk'.mono hle
  generalize ((((mA.join mn).join m1).join m2).join m3).join m4 = mB at hp1 hq1 hp2 hk2
  generalize (⟨A, g.length, c⟩ : Sl) = yc at hp1
  generalize (⟨A2, r.1.records.length, k2⟩ : Sl) = yr at hp1
  generalize (⟨A3, r.1.done.length, k3⟩ : Sl) = yd at hp1
  generalize (⟨A4, r.2.pairs.length, k4⟩ : Sl) = yp at hq1
  refine callRef 20000 (o := r) (c10 _ _ _ _ _ _ hp2 hk2) rfl rfl (fun zc zr zd zp mn2 hd2 hp4 hq4 => ?_)
  have hp5 := hp1.mono (Mem.le_join mB mn2)
  have hq5 := hq1.mono (Mem.le_join mB mn2)
  have hp6 := hp2.mono (Mem.le_join mB mn2)
  generalize mB.join mn2 = mC at hp4 hq4 hp5 hq5 hp6
  have h11 : FnS Try.prog 11 mC [av (r.1.c yc yr yd), av (r.1.c zc zr zd)] (.bool true) := by
    have := f11 mC r.1 r.1 yc yr yd zc zr zd hp5 hp4
    rwa [decide_eq_true rfl] at this
  have h12 : FnS Try.prog 12 mC [av (r.2.c yp), av (r.2.c zp)] (.bool true) := by
    have := f12 mC r.2 r.2 yp zp hq5 hq4
    rwa [decide_eq_true rfl] at this
  refine ⟨[], callS (f16 mC xr p.records y hp6.records) rfl rfl ?_⟩
  refine ⟨[], callS (f17 mC xr p.records y hp6.records) rfl rfl ?_⟩
  generalize findR y p.records = fr
  refine ⟨[], callS h11 rfl rfl ?_⟩
  refine ⟨fun _ => ?_, fun h => absurd h (by simp)⟩
  refine ⟨[], callS h12 rfl rfl ?_⟩
  refine ⟨fun _ => ?_, fun h => absurd h (by simp)⟩
  refine eq58 (a := fr.1) (b := fr.1) rfl ⟨fun _ => ?_, fun h => absurd rfl (of_decide_eq_false h)⟩
  exact ⟨[], retS fun ρ => by simp [AV.con, Leaf.con]⟩
end Vc
end

section
open Go Go.Proofs Vc
open Go.ChangeShapes Go.WideShapes Go.ChangeAt
namespace Vc
set_option maxHeartbeats 1000000

/-! ### What an argument's reading says of its cells -/
def memW (W : World) : Mem := fun b => W.heap[b]?
theorem has_memW (W : World) : has W (memW W) := fun _ _ h => h
section
variable {H : Type} {enc : TypeId × Value → H} {P : Program} {W : World}
def Rd {H : Type} (enc : TypeId × Value → H) (P : Program) (W : World) (t : TypeId) (cs : List Value) : Prop := ∃ fuel y, DataW.trod enc P W 0 (fun _ => true) true fuel t cs = some y
variable {t : TypeId} {cs : List Value}
theorem rd_int {k : IntKind} (hu : P.underlying t = some (.int k)) (h : Rd enc P W t cs) : ∃ z, cs = [.int k z] := by
  obtain ⟨fuel, y, h⟩ := h
  cases fuel with
  | zero => cases h
  | succ n =>
    unfold DataW.trod at h
    rw [hu] at h
    split at h <;> simp_all
theorem rd_bool (hu : P.underlying t = some .bool) (h : Rd enc P W t cs) : ∃ z, cs = [.bool z] := by
  obtain ⟨fuel, y, h⟩ := h
  cases fuel with
  | zero => cases h
  | succ n =>
    unfold DataW.trod at h
    rw [hu] at h
    split at h <;> simp_all
theorem rd_string (hu : P.underlying t = some .string) (h : Rd enc P W t cs) : ∃ z, cs = [.string z] := by
  obtain ⟨fuel, y, h⟩ := h
  cases fuel with
  | zero => cases h
  | succ n =>
    unfold DataW.trod at h
    rw [hu] at h
    split at h <;> simp_all
theorem rd_struct {fs : Array Field} (hu : P.underlying t = some (.struct fs)) (h : Rd enc P W t cs) : cs.length = P.cellsOf t ∧ ∀ (i : Nat) (f : Field), fs[i]? = some f → Rd enc P W f.type ((cs.drop f.offset).take (P.cellsOf f.type)) := by
  obtain ⟨fuel, y, h⟩ := h
  obtain ⟨xs, n, _, _, h1, h2, h3⟩ := DataW.trod_struct hu h
  refine ⟨h1, fun i f hf => ?_⟩
  have hlt : i < xs.length := by rw [h2]; exact (Array.getElem?_eq_some_iff.1 hf).1
  exact ⟨n, xs[i], (h3 i f hf).trans (List.getElem?_eq_getElem hlt)⟩
theorem list_ex {α : Type} {p : Nat → α → Prop} (n : Nat) (h : ∀ i, i < n → ∃ x, p i x) : ∃ l : List α, l.length = n ∧ ∀ i x, l[i]? = some x → p i x := by
  induction n with
  | zero => exact ⟨[], rfl, fun i x h => by simp at h⟩
  | succ n ih =>
    obtain ⟨l, hl, hp⟩ := ih (fun i hi => h i (by omega))
    obtain ⟨x, hx⟩ := h n (by omega)
    refine ⟨l ++ [x], by simp [hl], fun i y hy => ?_⟩
    rw [List.getElem?_append] at hy
    split at hy
    · exact hp i y hy
    · rename_i hge
      have : i - l.length = 0 := by
        cases hk : i - l.length with
        | zero => rfl
        | succ k => rw [hk] at hy; simp at hy
      rw [this] at hy
      simp at hy
      subst hy
      have : i = n := by omega
      subst this; exact hx
theorem cells_get {a : Addr} {n : Nat} {es : List Value} (h : W.cells? 0 a n = some es) {r : Nat} {u : Value} (hr : es[r]? = some u) : W.cell? (a.add r) = some u := by
  unfold World.cells? at h
  rw [if_pos (Nat.zero_le _)] at h
  have hl := mapM_some_length h
  have hlt : r < es.length := (List.getElem?_eq_some_iff.1 hr).1
  rw [List.length_range] at hl
  rw [mapM_some_get h r r (by rw [List.getElem?_range (by omega)])]
  exact hr
theorem rd_slice {α : Type} (f : α → List Value) (sz : Nat) (ok : α → Prop) {e : TypeId} (hu : P.underlying t = some (.slice e)) (hsz : P.cellsOf e = sz) (hpos : 0 < sz) (hf : ∀ x, (f x).length = sz) (h1 : ∀ x, ∀ u ∈ f x, u.oneCell' = true)
    (hel : ∀ es, Rd enc P W e es → ∃ x, es = f x ∧ ok x) (h : Rd enc P W t cs) : ∃ (s : Sl) (l : List α), cs = [.slice s.A s.n s.c] ∧ Flat f sz (memW W) s l ∧ ∀ x ∈ l, ok x := by
  obtain ⟨fuel, y, h⟩ := h
  rcases DataW.trod_slice hu h with ⟨rfl, _⟩ | ⟨a, len, cap, elems, rest, n, _, rfl, _, _, hlc, hcm, hel2, hget, _⟩
  · exact ⟨Sl.nil, [], rfl, flatNil f sz _, fun x hx => by cases hx⟩
  · have hone : ∀ i, i < len → ∃ x, W.cells? 0 (a.add (i * sz)) sz = some (f x) ∧ ok x := by
      intro i hi
      have hg := hget i hi
      rw [hsz, List.getElem?_eq_getElem (by omega)] at hg
      cases hc : W.cells? 0 (a.add (i * sz)) sz with
      | none => rw [hc] at hg; cases hg
      | some es =>
        rw [hc] at hg
        obtain ⟨x, rfl, hx⟩ := hel es ⟨n, _, hg⟩
        exact ⟨x, rfl, hx⟩
    obtain ⟨l, hl, hp⟩ := list_ex len hone
    refine ⟨⟨some a, len, cap⟩, l, rfl, ⟨⟨by rw [flat_length hf, hl], hlc, hcm, fun hlen => ⟨a, rfl, ?_⟩⟩, hl.symm⟩, fun x hx => ?_⟩
    · replace hlen : 0 < len := hlen
      have hcell : ∀ i r y u, l[i]? = some y → (f y)[r]? = some u → W.cell? ((a.add (i * sz)).add r) = some u := fun i r y u hi hr => cells_get (hp i y hi).1 hr
      have h0 : ∃ y u, l[0]? = some y ∧ (f y)[0]? = some u := by
        refine ⟨l[0], (f l[0])[0]'(by rw [hf]; exact hpos), List.getElem?_eq_getElem (by omega), List.getElem?_eq_getElem _⟩
      obtain ⟨y0, u0, hy0, hu0⟩ := h0
      have hc0 := hcell 0 0 y0 u0 hy0 hu0
      have hs : a.spot = none := by
        have := World.cell?_spot hc0
        simpa [Addr.add] using this
      have hadd : ∀ i r, (a.add (i * sz)).add r = ⟨a.block, a.off + (i * sz + r), none⟩ := by
        intro i r
        rw [addr_add hs, addr_add rfl]; simp [Nat.add_assoc]
      have hblk : ∃ c t fr, W.heap[a.block]? = some (.cells c t fr) := by
        rw [hadd] at hc0
        unfold World.cell? at hc0
        split at hc0
        · rename_i c t fr hh; exact ⟨c, t, fr, hh⟩
        · cases hc0
      obtain ⟨c, ty, fr, hh⟩ := hblk
      refine ⟨hs, c, ty, fr, hh, fun j u hj => ?_⟩
      have hjl : j < len * sz := by
        have := (List.getElem?_eq_some_iff.1 hj).1
        rwa [flat_length hf, hl] at this
      have hi : j / sz < l.length := by rw [hl]; exact Nat.div_lt_of_lt_mul (by rwa [Nat.mul_comm])
      have hyi : l[j / sz]? = some l[j / sz] := List.getElem?_eq_getElem hi
      have hr : j % sz < (f l[j / sz]).length := by rw [hf]; exact Nat.mod_lt _ hpos
      have hur : (f l[j / sz])[j % sz]? = some (f l[j / sz])[j % sz] := List.getElem?_eq_getElem hr
      have hfl := flat_get hf l (j / sz) _ hyi (j % sz) _ hur
      have hdm : j / sz * sz + j % sz = j := by rw [Nat.mul_comm]; exact Nat.div_add_mod j sz
      rw [hdm, hj] at hfl
      have hc := hcell (j / sz) (j % sz) _ _ hyi hur
      rw [hadd, hdm] at hc
      unfold World.cell? at hc
      simp only [hh] at hc
      cases hfl
      exact ⟨hc, h1 _ _ (List.getElem_mem hr)⟩
    · obtain ⟨i, hi⟩ := List.mem_iff_getElem?.1 hx
      exact (hp i x hi).2
end
end Vc
end

section
open Go Go.Proofs Vc
open Go.ChangeShapes Go.WideShapes Go.ChangeAt
namespace Vc
set_option maxHeartbeats 1000000
theorem piece {cs p : List Value} {n k : Nat} (h : (cs.drop n).take k = p) : cs.drop n = p ++ cs.drop (n + k) := by
  rw [← h, ← List.drop_drop, List.take_append_drop]
section
variable {H : Type} {enc : TypeId × Value → H} {W : World} {cs : List Value}
theorem co2 : Try.prog.cellsOf 2 = 1 := by kernel_rfl
theorem co3 : Try.prog.cellsOf 3 = 1 := by kernel_rfl
theorem co4 : Try.prog.cellsOf 4 = 1 := by kernel_rfl
theorem co9 : Try.prog.cellsOf 9 = 1 := by kernel_rfl
theorem co27 : Try.prog.cellsOf 27 = 2 := by kernel_rfl
theorem co28 : Try.prog.cellsOf 28 = 1 := by kernel_rfl
theorem co29 : Try.prog.cellsOf 29 = 1 := by kernel_rfl
theorem co31 : Try.prog.cellsOf 31 = 9 := by kernel_rfl
theorem co33 : Try.prog.cellsOf 33 = 4 := by kernel_rfl
theorem co34 : Try.prog.cellsOf 34 = 1 := by kernel_rfl
theorem co35 : Try.prog.cellsOf 35 = 1 := by kernel_rfl
theorem co37 : Try.prog.cellsOf 37 = 14 := by kernel_rfl
theorem co51 : Try.prog.cellsOf 51 = 1 := by kernel_rfl
theorem co53 : Try.prog.cellsOf 53 = 9 := by kernel_rfl
theorem co55 : Try.prog.cellsOf 55 = 12 := by kernel_rfl
theorem co58 : Try.prog.cellsOf 58 = 7 := by kernel_rfl
theorem co63 : Try.prog.cellsOf 63 = 3 := by kernel_rfl
theorem co65 : Try.prog.cellsOf 65 = 2 := by kernel_rfl
theorem co84 : Try.prog.cellsOf 84 = 4 := by kernel_rfl
theorem open_stamp (h : Rd enc Try.prog W 27 cs) : ∃ x : Stamp, cs = x.c := by
  obtain ⟨hl, hf⟩ := rd_struct Try.underlying27 h
  rw [co27] at hl
  have h0 := hf 0 _ rfl
  replace h0 : Rd enc Try.prog W 2 ((cs.drop 0).take (Try.prog.cellsOf 2)) := h0
  rw [co2] at h0
  obtain ⟨a0, e0⟩ := rd_int Try.underlying2 h0
  replace e0 := piece e0
  have h1 := hf 1 _ rfl
  replace h1 : Rd enc Try.prog W 2 ((cs.drop 1).take (Try.prog.cellsOf 2)) := h1
  rw [co2] at h1
  obtain ⟨a1, e1⟩ := rd_int Try.underlying2 h1
  replace e1 := piece e1
  have en : cs.drop 2 = [] := List.drop_eq_nil_of_le (by omega)
  simp only [Nat.reduceAdd, List.drop_zero] at e0 e1
  refine ⟨⟨a0, a1⟩, ?_⟩
  rw [e0, e1, en]
  rfl
theorem open_tri (h : Rd enc Try.prog W 33 cs) : ∃ x : Tri, cs = x.c := by
  obtain ⟨hl, hf⟩ := rd_struct Try.underlying33 h
  rw [co33] at hl
  have h0 := hf 0 _ rfl
  replace h0 : Rd enc Try.prog W 3 ((cs.drop 0).take (Try.prog.cellsOf 3)) := h0
  rw [co3] at h0
  obtain ⟨a0, e0⟩ := rd_int Try.underlying3 h0
  replace e0 := piece e0
  have h1 := hf 1 _ rfl
  replace h1 : Rd enc Try.prog W 3 ((cs.drop 1).take (Try.prog.cellsOf 3)) := h1
  rw [co3] at h1
  obtain ⟨a1, e1⟩ := rd_int Try.underlying3 h1
  replace e1 := piece e1
  have h2 := hf 2 _ rfl
  replace h2 : Rd enc Try.prog W 3 ((cs.drop 2).take (Try.prog.cellsOf 3)) := h2
  rw [co3] at h2
  obtain ⟨a2, e2⟩ := rd_int Try.underlying3 h2
  replace e2 := piece e2
  have h3 := hf 3 _ rfl
  replace h3 : Rd enc Try.prog W 3 ((cs.drop 3).take (Try.prog.cellsOf 3)) := h3
  rw [co3] at h3
  obtain ⟨a3, e3⟩ := rd_int Try.underlying3 h3
  replace e3 := piece e3
  have en : cs.drop 4 = [] := List.drop_eq_nil_of_le (by omega)
  simp only [Nat.reduceAdd, List.drop_zero] at e0 e1 e2 e3
  refine ⟨⟨a0, a1, a2, a3⟩, ?_⟩
  rw [e0, e1, e2, e3, en]
  rfl
theorem open_lk (h : Rd enc Try.prog W 53 cs) : ∃ x : Lk, cs = x.c := by
  obtain ⟨hl, hf⟩ := rd_struct Try.underlying53 h
  rw [co53] at hl
  have h0 := hf 0 _ rfl
  replace h0 : Rd enc Try.prog W 33 ((cs.drop 0).take (Try.prog.cellsOf 33)) := h0
  rw [co33] at h0
  obtain ⟨a0, e0⟩ := open_tri h0
  replace e0 := piece e0
  have h1 := hf 1 _ rfl
  replace h1 : Rd enc Try.prog W 3 ((cs.drop 4).take (Try.prog.cellsOf 3)) := h1
  rw [co3] at h1
  obtain ⟨a1, e1⟩ := rd_int Try.underlying3 h1
  replace e1 := piece e1
  have h2 := hf 2 _ rfl
  replace h2 : Rd enc Try.prog W 27 ((cs.drop 5).take (Try.prog.cellsOf 27)) := h2
  rw [co27] at h2
  obtain ⟨a2, e2⟩ := open_stamp h2
  replace e2 := piece e2
  have h3 := hf 3 _ rfl
  replace h3 : Rd enc Try.prog W 4 ((cs.drop 7).take (Try.prog.cellsOf 4)) := h3
  rw [co4] at h3
  obtain ⟨a3, e3⟩ := rd_bool Try.underlying4 h3
  replace e3 := piece e3
  have h4 := hf 4 _ rfl
  replace h4 : Rd enc Try.prog W 9 ((cs.drop 8).take (Try.prog.cellsOf 9)) := h4
  rw [co9] at h4
  obtain ⟨a4, e4⟩ := rd_string Try.underlying9 h4
  replace e4 := piece e4
  have en : cs.drop 9 = [] := List.drop_eq_nil_of_le (by omega)
  simp only [Nat.reduceAdd, List.drop_zero] at e0 e1 e2 e3 e4
  refine ⟨⟨a0, a1, a2, a3, a4⟩, ?_⟩
  rw [e0, e1, e2, e3, e4, en]
  rfl
theorem open_ver (h : Rd enc Try.prog W 84 cs) : ∃ x : Ver, cs = x.c := by
  obtain ⟨hl, hf⟩ := rd_struct Try.underlying84 h
  rw [co84] at hl
  have h0 := hf 0 _ rfl
  replace h0 : Rd enc Try.prog W 27 ((cs.drop 0).take (Try.prog.cellsOf 27)) := h0
  rw [co27] at h0
  obtain ⟨a0, e0⟩ := open_stamp h0
  replace e0 := piece e0
  have h1 := hf 1 _ rfl
  replace h1 : Rd enc Try.prog W 4 ((cs.drop 2).take (Try.prog.cellsOf 4)) := h1
  rw [co4] at h1
  obtain ⟨a1, e1⟩ := rd_bool Try.underlying4 h1
  replace e1 := piece e1
  have h2 := hf 2 _ rfl
  replace h2 : Rd enc Try.prog W 9 ((cs.drop 3).take (Try.prog.cellsOf 9)) := h2
  rw [co9] at h2
  obtain ⟨a2, e2⟩ := rd_string Try.underlying9 h2
  replace e2 := piece e2
  have en : cs.drop 4 = [] := List.drop_eq_nil_of_le (by omega)
  simp only [Nat.reduceAdd, List.drop_zero] at e0 e1 e2
  refine ⟨⟨a0, a1, a2⟩, ?_⟩
  rw [e0, e1, e2, en]
  rfl
theorem open_outc (h : Rd enc Try.prog W 58 cs) : ∃ x : Outc, cs = x.c := by
  obtain ⟨hl, hf⟩ := rd_struct Try.underlying58 h
  rw [co58] at hl
  have h0 := hf 0 _ rfl
  replace h0 : Rd enc Try.prog W 33 ((cs.drop 0).take (Try.prog.cellsOf 33)) := h0
  rw [co33] at h0
  obtain ⟨a0, e0⟩ := open_tri h0
  replace e0 := piece e0
  have h1 := hf 1 _ rfl
  replace h1 : Rd enc Try.prog W 27 ((cs.drop 4).take (Try.prog.cellsOf 27)) := h1
  rw [co27] at h1
  obtain ⟨a1, e1⟩ := open_stamp h1
  replace e1 := piece e1
  have h2 := hf 2 _ rfl
  replace h2 : Rd enc Try.prog W 4 ((cs.drop 6).take (Try.prog.cellsOf 4)) := h2
  rw [co4] at h2
  obtain ⟨a2, e2⟩ := rd_bool Try.underlying4 h2
  replace e2 := piece e2
  have en : cs.drop 7 = [] := List.drop_eq_nil_of_le (by omega)
  simp only [Nat.reduceAdd, List.drop_zero] at e0 e1 e2
  refine ⟨⟨a0, a1, a2⟩, ?_⟩
  rw [e0, e1, e2, en]
  rfl
theorem open_span (h : Rd enc Try.prog W 65 cs) : ∃ x : Span, cs = x.c := by
  obtain ⟨hl, hf⟩ := rd_struct Try.underlying65 h
  rw [co65] at hl
  have h0 := hf 0 _ rfl
  replace h0 : Rd enc Try.prog W 9 ((cs.drop 0).take (Try.prog.cellsOf 9)) := h0
  rw [co9] at h0
  obtain ⟨a0, e0⟩ := rd_string Try.underlying9 h0
  replace e0 := piece e0
  have h1 := hf 1 _ rfl
  replace h1 : Rd enc Try.prog W 9 ((cs.drop 1).take (Try.prog.cellsOf 9)) := h1
  rw [co9] at h1
  obtain ⟨a1, e1⟩ := rd_string Try.underlying9 h1
  replace e1 := piece e1
  have en : cs.drop 2 = [] := List.drop_eq_nil_of_le (by omega)
  simp only [Nat.reduceAdd, List.drop_zero] at e0 e1
  refine ⟨⟨a0, a1⟩, ?_⟩
  rw [e0, e1, en]
  rfl
theorem open_wr (h : Rd enc Try.prog W 63 cs) : ∃ x : Wr, cs = x.c := by
  obtain ⟨hl, hf⟩ := rd_struct Try.underlying63 h
  rw [co63] at hl
  have h0 := hf 0 _ rfl
  replace h0 : Rd enc Try.prog W 9 ((cs.drop 0).take (Try.prog.cellsOf 9)) := h0
  rw [co9] at h0
  obtain ⟨a0, e0⟩ := rd_string Try.underlying9 h0
  replace e0 := piece e0
  have h1 := hf 1 _ rfl
  replace h1 : Rd enc Try.prog W 4 ((cs.drop 1).take (Try.prog.cellsOf 4)) := h1
  rw [co4] at h1
  obtain ⟨a1, e1⟩ := rd_bool Try.underlying4 h1
  replace e1 := piece e1
  have h2 := hf 2 _ rfl
  replace h2 : Rd enc Try.prog W 9 ((cs.drop 2).take (Try.prog.cellsOf 9)) := h2
  rw [co9] at h2
  obtain ⟨a2, e2⟩ := rd_string Try.underlying9 h2
  replace e2 := piece e2
  have en : cs.drop 3 = [] := List.drop_eq_nil_of_le (by omega)
  simp only [Nat.reduceAdd, List.drop_zero] at e0 e1 e2
  refine ⟨⟨a0, a1, a2⟩, ?_⟩
  rw [e0, e1, e2, en]
  rfl
theorem open_vers (h : Rd enc Try.prog W 51 cs) : ∃ (s : Sl) (l : List Ver), cs = [.slice s.A s.n s.c] ∧ VerRow (memW W) s l := by
  obtain ⟨s, l, h1, h2, _⟩ := rd_slice Ver.c 4 (fun _ => True) Try.underlying51 co84 (by decide) (fun _ => rfl) (fun x u hu => by simp only [Ver.c, List.mem_cons, List.not_mem_nil, or_false] at hu; rcases hu with rfl | rfl | rfl | rfl <;> rfl) (fun es he => by obtain ⟨x, hx⟩ := open_ver he; exact ⟨x, hx, trivial⟩) h
  exact ⟨s, l, h1, h2⟩
theorem open_outs (h : Rd enc Try.prog W 29 cs) : ∃ (s : Sl) (l : List Outc), cs = [.slice s.A s.n s.c] ∧ OutRow (memW W) s l := by
  obtain ⟨s, l, h1, h2, _⟩ := rd_slice Outc.c 7 (fun _ => True) Try.underlying29 co58 (by decide) (fun _ => rfl) (fun x u hu => by simp only [Outc.c, List.mem_cons, List.not_mem_nil, or_false] at hu; rcases hu with rfl | rfl | rfl | rfl | rfl | rfl | rfl <;> rfl) (fun es he => by obtain ⟨x, hx⟩ := open_outc he; exact ⟨x, hx, trivial⟩) h
  exact ⟨s, l, h1, h2⟩
theorem open_spans (h : Rd enc Try.prog W 34 cs) : ∃ (s : Sl) (l : List Span), cs = [.slice s.A s.n s.c] ∧ SpanRow (memW W) s l := by
  obtain ⟨s, l, h1, h2, _⟩ := rd_slice Span.c 2 (fun _ => True) Try.underlying34 co65 (by decide) (fun _ => rfl) (fun x u hu => by simp only [Span.c, List.mem_cons, List.not_mem_nil, or_false] at hu; rcases hu with rfl | rfl <;> rfl) (fun es he => by obtain ⟨x, hx⟩ := open_span he; exact ⟨x, hx, trivial⟩) h
  exact ⟨s, l, h1, h2⟩
theorem open_wrs (h : Rd enc Try.prog W 35 cs) : ∃ (s : Sl) (l : List Wr), cs = [.slice s.A s.n s.c] ∧ WrRow (memW W) s l := by
  obtain ⟨s, l, h1, h2, _⟩ := rd_slice Wr.c 3 (fun _ => True) Try.underlying35 co63 (by decide) (fun _ => rfl) (fun x u hu => by simp only [Wr.c, List.mem_cons, List.not_mem_nil, or_false] at hu; rcases hu with rfl | rfl | rfl <;> rfl) (fun es he => by obtain ⟨x, hx⟩ := open_wr he; exact ⟨x, hx, trivial⟩) h
  exact ⟨s, l, h1, h2⟩
theorem open_cell (h : Rd enc Try.prog W 55 cs) : ∃ (x : Cell) (s : Sl), cs = x.c s ∧ VerRow (memW W) s x.vers := by
  obtain ⟨hl, hf⟩ := rd_struct Try.underlying55 h
  rw [co55] at hl
  have h0 := hf 0 _ rfl
  replace h0 : Rd enc Try.prog W 9 ((cs.drop 0).take (Try.prog.cellsOf 9)) := h0
  rw [co9] at h0
  obtain ⟨a0, e0⟩ := rd_string Try.underlying9 h0
  replace e0 := piece e0
  have h1 := hf 1 _ rfl
  replace h1 : Rd enc Try.prog W 51 ((cs.drop 1).take (Try.prog.cellsOf 51)) := h1
  rw [co51] at h1
  obtain ⟨s1, a1, e1, r1⟩ := open_vers h1
  replace e1 := piece e1
  have h2 := hf 2 _ rfl
  replace h2 : Rd enc Try.prog W 4 ((cs.drop 2).take (Try.prog.cellsOf 4)) := h2
  rw [co4] at h2
  obtain ⟨a2, e2⟩ := rd_bool Try.underlying4 h2
  replace e2 := piece e2
  have h3 := hf 3 _ rfl
  replace h3 : Rd enc Try.prog W 53 ((cs.drop 3).take (Try.prog.cellsOf 53)) := h3
  rw [co53] at h3
  obtain ⟨a3, e3⟩ := open_lk h3
  replace e3 := piece e3
  have en : cs.drop 12 = [] := List.drop_eq_nil_of_le (by omega)
  simp only [Nat.reduceAdd, List.drop_zero] at e0 e1 e2 e3
  refine ⟨⟨a0, a1, a2, a3⟩, s1, ?_, r1⟩
  rw [e0, e1, e2, e3, en]
  rfl
theorem open_cells (h : Rd enc Try.prog W 28 cs) : ∃ (s : Sl) (l : List Cell), cs = [.slice s.A s.n s.c] ∧ CellRow (memW W) s l := by
  obtain ⟨s, g, h1, h2, h3⟩ := rd_slice (fun p : Cell × Sl => p.1.c p.2) 12 (fun p => VerRow (memW W) p.2 p.1.vers) Try.underlying28 co55 (by decide) (fun _ => rfl) (fun x u hu => by simp only [Cell.c, List.mem_cons, List.not_mem_nil, or_false] at hu; rcases hu with rfl | rfl | rfl | rfl | rfl | rfl | rfl | rfl | rfl | rfl | rfl | rfl <;> rfl) (fun es he => by obtain ⟨x, s, hx, hr⟩ := open_cell he; exact ⟨(x, s), hx, hr⟩) h
  exact ⟨s, g.map (·.1), h1, g, rfl, h2, h3⟩
theorem open_part (h : Rd enc Try.prog W 31 cs) : ∃ (p : Part) (xc xr xd : Sl), cs = p.c xc xr xd ∧ PartRow (memW W) p xc xr xd := by
  obtain ⟨hl, hf⟩ := rd_struct Try.underlying31 h
  rw [co31] at hl
  have h0 := hf 0 _ rfl
  replace h0 : Rd enc Try.prog W 3 ((cs.drop 0).take (Try.prog.cellsOf 3)) := h0
  rw [co3] at h0
  obtain ⟨a0, e0⟩ := rd_int Try.underlying3 h0
  replace e0 := piece e0
  have h1 := hf 1 _ rfl
  replace h1 : Rd enc Try.prog W 3 ((cs.drop 1).take (Try.prog.cellsOf 3)) := h1
  rw [co3] at h1
  obtain ⟨a1, e1⟩ := rd_int Try.underlying3 h1
  replace e1 := piece e1
  have h2 := hf 2 _ rfl
  replace h2 : Rd enc Try.prog W 27 ((cs.drop 2).take (Try.prog.cellsOf 27)) := h2
  rw [co27] at h2
  obtain ⟨a2, e2⟩ := open_stamp h2
  replace e2 := piece e2
  have h3 := hf 3 _ rfl
  replace h3 : Rd enc Try.prog W 2 ((cs.drop 4).take (Try.prog.cellsOf 2)) := h3
  rw [co2] at h3
  obtain ⟨a3, e3⟩ := rd_int Try.underlying2 h3
  replace e3 := piece e3
  have h4 := hf 4 _ rfl
  replace h4 : Rd enc Try.prog W 2 ((cs.drop 5).take (Try.prog.cellsOf 2)) := h4
  rw [co2] at h4
  obtain ⟨a4, e4⟩ := rd_int Try.underlying2 h4
  replace e4 := piece e4
  have h5 := hf 5 _ rfl
  replace h5 : Rd enc Try.prog W 28 ((cs.drop 6).take (Try.prog.cellsOf 28)) := h5
  rw [co28] at h5
  obtain ⟨s5, a5, e5, r5⟩ := open_cells h5
  replace e5 := piece e5
  have h6 := hf 6 _ rfl
  replace h6 : Rd enc Try.prog W 29 ((cs.drop 7).take (Try.prog.cellsOf 29)) := h6
  rw [co29] at h6
  obtain ⟨s6, a6, e6, r6⟩ := open_outs h6
  replace e6 := piece e6
  have h7 := hf 7 _ rfl
  replace h7 : Rd enc Try.prog W 29 ((cs.drop 8).take (Try.prog.cellsOf 29)) := h7
  rw [co29] at h7
  obtain ⟨s7, a7, e7, r7⟩ := open_outs h7
  replace e7 := piece e7
  have en : cs.drop 9 = [] := List.drop_eq_nil_of_le (by omega)
  simp only [Nat.reduceAdd, List.drop_zero] at e0 e1 e2 e3 e4 e5 e6 e7
  refine ⟨⟨a0, a1, a2, a3, a4, a5, a6, a7⟩, s5, s6, s7, ?_, ⟨r5, r6, r7⟩⟩
  rw [e0, e1, e2, e3, e4, e5, e6, e7, en]
  rfl
theorem open_cmd (h : Rd enc Try.prog W 37 cs) : ∃ (k : Cmd) (xs xw : Sl), cs = k.c xs xw ∧ CmdRow (memW W) k xs xw := by
  obtain ⟨hl, hf⟩ := rd_struct Try.underlying37 h
  rw [co37] at hl
  have h0 := hf 0 _ rfl
  replace h0 : Rd enc Try.prog W 3 ((cs.drop 0).take (Try.prog.cellsOf 3)) := h0
  rw [co3] at h0
  obtain ⟨a0, e0⟩ := rd_int Try.underlying3 h0
  replace e0 := piece e0
  have h1 := hf 1 _ rfl
  replace h1 : Rd enc Try.prog W 3 ((cs.drop 1).take (Try.prog.cellsOf 3)) := h1
  rw [co3] at h1
  obtain ⟨a1, e1⟩ := rd_int Try.underlying3 h1
  replace e1 := piece e1
  have h2 := hf 2 _ rfl
  replace h2 : Rd enc Try.prog W 3 ((cs.drop 2).take (Try.prog.cellsOf 3)) := h2
  rw [co3] at h2
  obtain ⟨a2, e2⟩ := rd_int Try.underlying3 h2
  replace e2 := piece e2
  have h3 := hf 3 _ rfl
  replace h3 : Rd enc Try.prog W 3 ((cs.drop 3).take (Try.prog.cellsOf 3)) := h3
  rw [co3] at h3
  obtain ⟨a3, e3⟩ := rd_int Try.underlying3 h3
  replace e3 := piece e3
  have h4 := hf 4 _ rfl
  replace h4 : Rd enc Try.prog W 33 ((cs.drop 4).take (Try.prog.cellsOf 33)) := h4
  rw [co33] at h4
  obtain ⟨a4, e4⟩ := open_tri h4
  replace e4 := piece e4
  have h5 := hf 5 _ rfl
  replace h5 : Rd enc Try.prog W 27 ((cs.drop 8).take (Try.prog.cellsOf 27)) := h5
  rw [co27] at h5
  obtain ⟨a5, e5⟩ := open_stamp h5
  replace e5 := piece e5
  have h6 := hf 6 _ rfl
  replace h6 : Rd enc Try.prog W 2 ((cs.drop 10).take (Try.prog.cellsOf 2)) := h6
  rw [co2] at h6
  obtain ⟨a6, e6⟩ := rd_int Try.underlying2 h6
  replace e6 := piece e6
  have h7 := hf 7 _ rfl
  replace h7 : Rd enc Try.prog W 4 ((cs.drop 11).take (Try.prog.cellsOf 4)) := h7
  rw [co4] at h7
  obtain ⟨a7, e7⟩ := rd_bool Try.underlying4 h7
  replace e7 := piece e7
  have h8 := hf 8 _ rfl
  replace h8 : Rd enc Try.prog W 34 ((cs.drop 12).take (Try.prog.cellsOf 34)) := h8
  rw [co34] at h8
  obtain ⟨s8, a8, e8, r8⟩ := open_spans h8
  replace e8 := piece e8
  have h9 := hf 9 _ rfl
  replace h9 : Rd enc Try.prog W 35 ((cs.drop 13).take (Try.prog.cellsOf 35)) := h9
  rw [co35] at h9
  obtain ⟨s9, a9, e9, r9⟩ := open_wrs h9
  replace e9 := piece e9
  have en : cs.drop 14 = [] := List.drop_eq_nil_of_le (by omega)
  simp only [Nat.reduceAdd, List.drop_zero] at e0 e1 e2 e3 e4 e5 e6 e7 e8 e9
  refine ⟨⟨a0, a1, a2, a3, a4, a5, a6, a7, a8, a9⟩, s8, s9, ?_, ⟨r8, r9⟩⟩
  rw [e0, e1, e2, e3, e4, e5, e6, e7, e8, e9, en]
  rfl
theorem open_cmds (h : Rd enc Try.prog W 22 cs) : ∃ (s : Sl) (l : List Cmd), cs = [.slice s.A s.n s.c] ∧ CmdsRow (memW W) s l := by
  obtain ⟨s, g, h1, h2, h3⟩ := rd_slice (fun p : Cmd × Sl × Sl => p.1.c p.2.1 p.2.2) 14 (fun p => CmdRow (memW W) p.1 p.2.1 p.2.2) Try.underlying22 co37 (by decide) (fun _ => rfl) (fun x u hu => by simp only [Cmd.c, List.mem_cons, List.not_mem_nil, or_false] at hu; rcases hu with rfl | rfl | rfl | rfl | rfl | rfl | rfl | rfl | rfl | rfl | rfl | rfl | rfl | rfl <;> rfl) (fun es he => by obtain ⟨x, s, t, hx, hr⟩ := open_cmd he; exact ⟨(x, s, t), hx, hr⟩) h
  exact ⟨s, g.map (·.1), h1, g, rfl, h2, h3⟩
theorem open_bools (h : Rd enc Try.prog W 23 cs) : ∃ (s : Sl) (l : List Bool), cs = [.slice s.A s.n s.c] ∧ Flat (fun b => [Value.bool b]) 1 (memW W) s l := by
  obtain ⟨s, l, h1, h2, _⟩ := rd_slice (fun b : Bool => [Value.bool b]) 1 (fun _ => True) Try.underlying23 co4 (by decide) (fun _ => rfl) (fun x u hu => by simp only [List.mem_cons, List.not_mem_nil, or_false] at hu; subst hu; rfl) (fun es he => by obtain ⟨x, hx⟩ := rd_bool Try.underlying4 he; exact ⟨x, hx, trivial⟩) h
  exact ⟨s, l, h1, h2⟩
end
end Vc
end

section
open Go Go.Proofs Vc
open Go.ChangeShapes Go.WideShapes Go.ChangeAt
open Go.RowKit (ok_one okWide_bool_mk shut_bool)
namespace Vc
theorem Invk.calls {P : Program} {f : FuncId} {fn : Func} {c : Code} {args : List Value} {W : World} {R : Ending → World → Prop} (hf : P.funcs[f]? = some fn) (hname : (fn.name == "runtime.NumGoroutine") = false) (hb : fn.body = some c) (h : Invk P f args W R) : Calls P f args.toArray W R := by
  rcases h with ⟨_, h⟩ | ⟨v, W', h, _⟩
  · exact h
  · rw [run_callFunc_enter' hf hname hb] at h; cases h

theorem agg_of {P : Program} {W : World} {t : TypeId} {v : Value} {fs : Array Field} (hu : P.underlying t = some (.struct fs)) (h : Value.okWide P W .any 0 t v) : v = .agg v.cells := by
  unfold Value.okWide at h
  rw [hu] at h
  obtain ⟨cs, rfl, _⟩ := h
  rfl
theorem agg_val {v : Value} {cs : List Value} (h : v = .agg v.cells) (hc : v.cells.toList = cs) : v = av cs := by
  subst hc
  rw [h]
  rfl
section
variable {H : Type} {enc : TypeId × Value → H} {P : Program}
theorem trodAll_stays (hl : laidOutB P = true) {W W' : World} {sp : Nat → Bool} (hb : Below W W') : ∀ (ts : List TypeId) (vs : List Value) (ds : List (DataW H)) (ps : List MemPlace), (∀ t ∈ ts, P.readableRec t = true ∧ t < P.types.size) →
    DataW.TrodAll enc P W 0 (fun _ => true) true ts vs ds ps → (∀ p ∈ ps, p.block < W.heap.size) → (∀ p ∈ ps, sp p.block = true) → DataW.TrodAll enc P W' 0 sp true ts vs ds ps := by
  intro ts
  induction ts with
  | nil =>
    intro vs ds ps _ h _ _
    obtain ⟨rfl, rfl, rfl⟩ := trodAll_nil h
    exact trodAll_mk0
  | cons t ts ih =>
    intro vs ds ps ht h hlt hsp
    obtain ⟨v, vs', d, ds', p, q, rfl, rfl, rfl, h1, h2⟩ := trodAll_cons h
    obtain ⟨hr, hrow⟩ := ht t List.mem_cons_self
    exact ⟨p, q, WideElems.Trod_stays hl hr hrow h1 (fun x hx => Go.RowKit.Below.same hb (hlt x (List.mem_append_left _ hx))) (fun x hx => hsp x (List.mem_append_left _ hx)),
      ih vs' ds' q (fun t h => ht t (List.mem_cons_of_mem _ h)) h2 (fun x hx => hlt x (List.mem_append_right _ hx)) (fun x hx => hsp x (List.mem_append_right _ hx)), rfl⟩

/-- The arguments read as they did, and true comes back. -/
theorem post_true (hl : laidOutB P = true) {f : Func} {s : ChangeSpec} {apart fresh handsOn again : Bool} {W W' : World} {args : Array Value} {ds gs : List (DataW H)} {before : List MemPlace} {t0 : TypeId}
    (hv : s.vars = []) (hps : ∀ t ∈ f.params.toList, P.readableRec t = true ∧ t < P.types.size) (hr : f.resultTypes = #[t0]) (ht0 : P.underlying t0 = some .bool)
    (hres : (s.fn H ds).results = [.lit (.bool true)]) (harg : (s.fn H ds).args = ds) (hvar : (s.fn H ds).vars = [])
    (hW : DataW.Whole enc P f.params.toList s.vars apart W args.toList ds gs before) (hb : Below W W') : s.post enc P f apart fresh handsOn again W args (.bool true) W' := by
  have hW' := hW
  obtain ⟨p, q, hA, hV, rfl, hz, hn⟩ := hW
  rw [hv] at hV
  obtain ⟨rfl, rfl⟩ := trodVars_none hV
  rw [List.append_nil] at hz hn hW'
  have hlt : ∀ x ∈ p, x.block < W.heap.size := fun x hx => by simpa using hW'.lt x hx
  have hst : ∀ sp : Nat → Bool, (∀ x ∈ p, sp x.block = true) → DataW.TrodAll enc P W' 0 sp true f.params.toList args.toList (s.fn H (ds ++ [])).args p := fun sp hsp => by
    rw [List.append_nil, harg]; exact trodAll_stays hl hb _ _ _ _ hps hA hlt hsp
  have hrs : ∀ (b : Nat) (sp : Nat → Bool) (hd : Bool), DataW.TrodAll enc P W' b sp hd f.resultTypes.toList ((Value.bool true).resultList f.resultTypes.size) (s.fn H (ds ++ [])).results [] := fun b sp hd => by
    rw [List.append_nil, hres, hr]; exact trodAll_cons_mk (shut_bool ht0 _) trodAll_mk0
  have hvs : ∀ sp : Nat → Bool, DataW.TrodVars enc P W' sp s.vars (s.fn H (ds ++ [])).vars [] := fun sp => by
    rw [List.append_nil, hv, hvar]; rfl
  have hold : ∀ x ∈ p, (fun b => decide (b < W.heap.size)) x.block = true := fun x hx => by simpa using hlt x hx
  refine ⟨ds, [], p, [], p, [], hW', hrs _ _ _, hst _ hold, hvs _, Go.RowKit.Below.frame hb _, fun _ => ?_⟩
  refine ⟨ok_one hr rfl (okWide_bool_mk ht0 _), _, _, ([] ++ p) ++ [], ⟨[] ++ p, [], trodAll_append (hst _ (fun _ _ => rfl)) (hrs _ _ _), hvs _, rfl, ?_, ?_⟩, ?_⟩
  · intro b off hp
    have hp : MemPlace.cell b off ∈ p := by simpa using hp
    rw [Go.RowKit.Below.frozen hb (p := ⟨b, off, none⟩) (hlt _ hp)]
    exact hz b off hp
  · intro ha
    simpa using hn ha
  · intro x hp _
    simpa using hp
end
end Vc

namespace Go.Proofs.Ytohghogmgnommaa
open Go.ChangeShapes Go.WideShapes Go.ChangeAt Go.RowKit
theorem own : ownKnob Try.prog.godebug = none := by kernel_rfl
theorem laidOut : laidOutB Try.prog = true := by kernel_rfl
theorem partAny_ps : ∀ t ∈ Try.f4.params.toList, Try.prog.readableRec t = true ∧ t < Try.prog.types.size := by
  rw [Try.params4]
  intro t ht
  simp only [List.mem_cons, List.not_mem_nil, or_false] at ht
  rcases ht with rfl | rfl | rfl | rfl
  · exact ⟨by kernel_rfl, of_decide_eq_true (by kernel_rfl)⟩
  · exact ⟨by kernel_rfl, of_decide_eq_true (by kernel_rfl)⟩
  · exact ⟨by kernel_rfl, of_decide_eq_true (by kernel_rfl)⟩
  · exact ⟨by kernel_rfl, of_decide_eq_true (by kernel_rfl)⟩
set_option maxRecDepth 100000 in
theorem partAny_contract (H : Type) (enc : TypeId × Value → H) (W : World) (args : Array Value) (ds gs : List (DataW H)) (before : List MemPlace)
    (hval : ∀ (j : Nat) t v, Try.f4.params[j]? = some t → args[j]? = some v → Value.okWide Try.prog W .any 0 t v)
    (hW : DataW.Whole enc Try.prog Try.f4.params.toList Rows.partAnySpec.vars false W args.toList ds gs before) :
    Calls Try.prog 4 args W fun e W' => ∃ v, e = .returned v ∧ Rows.partAnySpec.post enc Try.prog Try.f4 false true false false W args v W' := by
  have hW' := hW
  obtain ⟨p, q, hA0, hV, rfl, hfz, hnd⟩ := hW
  have hA : DataW.TrodAll enc Try.prog W 0 (fun _ => true) true Try.f4.params.toList args.toList ds p := hA0
  rw [Try.params4] at hA hval
  obtain ⟨v0, vs0, d0, ds0, p0, q0, hargs, rfl, rfl, h0, r0⟩ := trodAll_cons hA
  obtain ⟨v1, vs1, d1, ds1, p1, q1, rfl, rfl, rfl, h1, r1⟩ := trodAll_cons r0
  obtain ⟨v2, vs2, d2, ds2, p2, q2, rfl, rfl, rfl, h2, r2⟩ := trodAll_cons r1
  obtain ⟨v3, vs3, d3, ds3, p3, q3, rfl, rfl, rfl, h3, r3⟩ := trodAll_cons r2
  obtain ⟨rfl, rfl, rfl⟩ := trodAll_nil r3
  obtain rfl : args = #[v0, v1, v2, v3] := by cases args; simp_all
  have k0 := hval 0 31 v0 rfl rfl
  have k1 := hval 1 37 v1 rfl rfl
  have k2 := hval 2 4 v2 rfl rfl
  have k3 := hval 3 33 v3 rfl rfl
  have a0 := agg_of Try.underlying31 k0
  have a1 := agg_of Try.underlying37 k1
  have a3 := agg_of Try.underlying33 k3
  obtain ⟨b, rfl, _⟩ := open_bool Try.underlying4 k2 h2
  obtain ⟨pt, xc, xr, xd, e0, hpt⟩ := open_part (cs := v0.cells.toList) (h0.imp fun _ h => ⟨_, h⟩)
  obtain ⟨k, xs, xw, e1, hk⟩ := open_cmd (cs := v1.cells.toList) (h1.imp fun _ h => ⟨_, h⟩)
  obtain ⟨y, e3⟩ := open_tri (cs := v3.cells.toList) (h3.imp fun _ h => ⟨_, h⟩)
  have b0 := agg_val a0 e0
  have b1 := agg_val a1 e1
  have b3 := agg_val a3 e3
  have hcall : Calls Try.prog 4 #[v0, v1, .bool b, v3] W (RS W (.bool true)) := by
    rw [b0, b1, b3]
    exact (f4 (memW W) pt xc xr xd k xs xw b y hpt hk W (has_memW W)).calls Try.func4 (by kernel_rfl) rfl
  refine hcall.mono fun e W' ⟨he, hb⟩ => ?_
  subst he
  exact ⟨_, rfl, post_true laidOut rfl partAny_ps (by kernel_rfl) Try.underlying4 rfl rfl rfl hW' hb⟩

set_option maxRecDepth 100000 in
theorem partAny_lifted (os : Os) (started : os.Started) (H : Type) (enc : TypeId × Value → H) :
    ReturnsInHanded {} Try.checked os 4 .any (Rows.partAnySpec.pre6 enc Try.prog Try.f4 Rows.partAnyRow.domain false) (Rows.partAnySpec.post enc Try.prog Try.f4 false true false false) := by
  refine returnsInHanded_of_change (C := Try.checked) own started (by kernel_rfl) Try.func4
    (ChangeSpec.witness6 (enc := enc) (C := Try.checked) false ⟨#[], #[.agg #[.int .i64 0, .int .i64 0, .int .i64 0, .int .i64 0, .int .i64 0, .int .i64 0, .slice Option.none 0 0, .slice Option.none 0 0, .slice Option.none 0 0], .agg #[.int .i64 0, .int .i64 0, .int .i64 0, .int .i64 0, .int .i64 0, .int .i64 0, .int .i64 0, .int .i64 0, .int .i64 0, .int .i64 0, .int .i64 0, .bool false, .slice Option.none 0 0, .slice Option.none 0 0], .bool false, .agg #[.int .i64 0, .int .i64 0, .int .i64 0, .int .i64 0]], []⟩ 8 (by kernel_rfl) (by kernel_rfl) (by kernel_rfl) (by kernel_rfl)) ?_
  intro W base args ds gs before hval hW _ _
  exact partAny_contract H enc W args ds gs before hval hW

theorem partAny_holds : Rows.PartAnySaid :=
  OpenClaim.holds_of_wide 4 Try.f4 rfl rfl rfl rfl rfl rfl rfl ⟨rfl, rfl, rfl, rfl, rfl⟩ rfl rfl rfl rfl rfl (by kernel_rfl) Try.func4 (by kernel_rfl)
    (of_decide_eq_true (by kernel_rfl)) (by unfold Func.isWrapper; first | (rw [if_pos (by decide +kernel)]; kernel_rfl) | (rw [if_neg (by decide +kernel)]; exact ⟨rfl, rfl⟩))
    (fun os started H enc _ => partAny_lifted os started H enc)
end Go.Proofs.Ytohghogmgnommaa
end

section
open Go Go.Proofs Vc
namespace Vc
set_option maxHeartbeats 1000000

theorem Mem.join_le {m' m mn : Mem} (hle : m'.le m) (hd : Mem.Disj m mn) : (m'.join mn).le (m.join mn) := by
  intro b o hb
  rcases Mem.join_some hb with h | ⟨h1, h2⟩
  · exact Mem.le_join m mn b o (hle b o h)
  · exact Mem.join_right hd b o h2
theorem Mem.disj_le {m' m mn : Mem} (hle : m'.le m) (hd : Mem.Disj m mn) : Mem.Disj m' mn := fun b o hb => hd b o (hle b o hb)
/-- What a function does over less memory it does over more. -/
theorem FnX.weaken {P : Program} {f : FuncId} {m' m : Mem} {args : List AV} {B : Ents} {Φ : AV → Ents → Mem → Prop} {Ψ : List PanicEntry → Ents → Mem → Prop} (hle : m'.le m) (hB : noRdB B = true) (h : FnX P f m' args B Φ Ψ) : FnX P f m args B Φ Ψ := by
  intro ρ W hW
  have hm' : ∀ b, m b = none → m' b = none := fun b hb => by
    cases h : m' b with
    | none => rfl
    | some o => rw [hle b o h] at hb; cases hb
  have hlt : ∀ b o, m b = some o → b < W.heap.size ∧ ¬ ∃ i, blockOf ρ B i = some b := fun b o hb => ⟨lt_of_heap (hW.mem b o hb), fun ⟨i, hi⟩ => by rw [(hW.fresh i b hi).1] at hb; cases hb⟩
  have hW' : WS (envX P [] 0 W m' ρ B) ρ B m' W := ⟨fun i e hi => noRdB_sat hB hi (hW.ents i e hi), fun i b hi => ⟨hm' b (hW.fresh i b hi).1, (hW.fresh i b hi).2⟩, hW.inj, fun b o hb => hW.mem b o (hle b o hb), Mem.le_refl _, fun b o hb => .inl hb, hW.os, hW.tape, hW.output, hW.size, hW.old, hW.pin⟩
  have key : ∀ (ρ' : Val) (B' : Ents) (mn : Mem) (W' : World), Mem.Disj m' mn → WS (envX P [] 0 W m' ρ B) ρ' B' (m'.join mn) W' → Mem.Disj m mn ∧ WS (envX P [] 0 W m ρ B) ρ' B' (m.join mn) W' := by
    intro ρ' B' mn W' hd hws
    have hdm : Mem.Disj m mn := by
      intro b o hb
      cases hn : mn b with
      | none => rfl
      | some o' =>
        obtain ⟨h1, h2⟩ := hlt b o hb
        rcases hws.new b o' (Mem.join_right hd b o' hn) with h | h | h
        · replace h : m' b = some o' := h
          rw [hd b o' h] at hn; cases hn
        · replace h : W.heap.size ≤ b := h
          omega
        · exact absurd h h2
    have hjl := Mem.join_le hle hdm
    refine ⟨hdm, ⟨fun i e hi => Ent.sat_same (hws.ents i e hi) hjl ⟨rfl, rfl⟩ (fun _ _ _ => rfl) (fun _ _ => rfl), fun i b hi => ⟨?_, (hws.fresh i b hi).2⟩, hws.inj, fun b o hb => ?_, Mem.le_join _ _, fun b o hb => ?_, hws.os, hws.tape, hws.output, hws.size, hws.old, hws.pin⟩⟩
    · obtain ⟨h1, h2⟩ := hws.fresh i b hi
      cases hj : m.join mn b with
      | none => rfl
      | some o =>
        rcases Mem.join_some hj with h | ⟨_, h⟩
        · obtain ⟨h3, h4⟩ := hlt b o h
          rcases h2 with h2 | h2
          · replace h2 : W.heap.size ≤ b := h2
            omega
          · exact absurd h2 h4
        · rw [Mem.join_right hd b o h] at h1; cases h1
    · rcases Mem.join_some hb with h | ⟨_, h⟩
      · obtain ⟨h3, h4⟩ := hlt b o h
        have := hws.old b h3 h4
        rw [this]; exact hW.mem b o h
      · exact hws.mem b o (Mem.join_right hd b o h)
    · rcases Mem.join_some hb with h | ⟨_, h⟩
      · exact .inl h
      · rcases hws.new b o (Mem.join_right hd b o h) with h' | h'
        · exact .inl (hle b o h')
        · exact .inr h'
  refine (h ρ W hW').mono fun e W' he => ?_
  cases e with
  | returned v =>
    obtain ⟨ρ', u, B', mn, hv, hd, hok, hws, hp⟩ := he
    obtain ⟨hdm, hws'⟩ := key ρ' B' mn W' hd hws
    exact ⟨ρ', u, B', mn, hv, hdm, AV.ok_mono hok (Mem.join_le hle hdm), hws', hp⟩
  | panicked ch =>
    obtain ⟨ρ', B', mn, hd, hws, hp⟩ := he
    obtain ⟨hdm, hws'⟩ := key ρ' B' mn W' hd hws
    exact ⟨ρ', B', mn, hdm, hws', hp⟩
  | outgrown => exact he.elim
theorem tail_le {mk m X Y : Mem} (hmk : mk.le m) (h1 : Mem.Disj m (X.join Y)) (h2 : Mem.Disj (m.join X) Y) : Y.le (mk.join (X.join Y)) := by
  intro b o hb
  have hX : X b = none := by
    cases h : X b with
    | none => rfl
    | some o' =>
      have hm : m b = none := by
        cases hm : m b with
        | none => rfl
        | some o2 => have := h1 b o2 hm; simp only [Mem.join, h] at this; cases this
      have : (m.join X) b = some o' := by simp only [Mem.join, hm, h]
      rw [h2 b o' this] at hb; cases hb
  have hXY : (X.join Y) b = some o := by simp only [Mem.join, hX, hb]
  have hm : mk b = none := by
    cases hm : mk b with
    | none => rfl
    | some o2 => have := h1 b o2 (hmk b o2 hm); rw [this] at hXY; cases hXY
  simp only [Mem.join, hm, hX, hb]

theorem callDoesK {E : Env} {f : FuncId} {args argsC : List AV} {d : Option Nat} {F : Fr} {B : Ents} {m mk : Mem} {K : Cont} {Q : SPost} {p : Part} {g : Gs} {o : Part × Rep} (hf : FnX E.P f m argsC (PB p g) (DoesOut mk o) noPanic) (ha : renAVs (renOf lPA 100000) argsC = args)
    (hc : callOk lPA 100000 [] [] F B (PB p g) E.pins = true) (hB : sameB (renOf lPA 100000) (PB p g) B)
    (hK1 : ∀ g' mn, Mem.Disj m mn → GOk g' o.1.cells (mk.join mn) → putK E d (.agg (o.2.lv (.own 100060))) F ((100060, prow o.2.pairs) :: PBm 6 11005 12005 13005 o.1 g' ++ restB lPA B) (m.join mn) K)
    (hK2 : ∀ g' mn, Mem.Disj m mn → GOk g' o.1.cells (mk.join mn) → putK E d (.agg (o.2.lv (.own 100060))) F ((100060, prow o.2.pairs) :: PBm 6 107005 12005 13005 o.1 g' ++ restB lPA B) (m.join mn) K) : CallNode E f args d F B m K Q :=
  KeptNode.call (callXK lPA 100000 [] hc hB ⟨argsC, ha, hf⟩ (fun u0 B0 mn hd h => by
    obtain ⟨c, g', hc, hg, rfl, rfl⟩ := h
    rcases hc with rfl | rfl
    · exact ⟨rfl, rfl, hK1 g' mn hd hg⟩
    · exact ⟨rfl, rfl, hK2 g' mn hd hg⟩) (fun _ _ _ _ h => h.elim))
theorem retXK {P : Program} {Γ : Types} {N : Nat} {W : World} {mk m0 m : Mem} {ρ0 : Val} {B0 : Ents} {o : Part × Rep} {g : Gs} {mn : Mem} {Ψ : List PanicEntry → Ents → Mem → Prop} (hm : m = m0.join mn) (hd : Mem.Disj m0 mn) (hg : GOk g o.1.cells (mk.join mn)) :
    RetNode (envX P Γ N W m0 ρ0 B0) (applyU o) [(4, .box (o.1.lv (.own 1) (.own 2) (.own 3)) 31), (5, .box (o.2.lv (.own 14)) 43), (1, crow g), (2, orow o.1.records), (3, orow o.1.done), (14, prow o.2.pairs)] m (RX (envX P [] 0 W m0 ρ0 B0) (ApplyOut mk o) Ψ) :=
  retXO (applyU o) [(1, crow g), (2, orow o.1.records), (3, orow o.1.done), (14, prow o.2.pairs)] mn rfl hm hd ⟨rfl, rfl, rfl, rfl, trivial⟩ ⟨g, hg, rfl, rfl⟩

theorem f9k (m mk : Mem) (hmk : mk.le m) (p : Part) (xc xr xd : Sl) (k : Cmd) (xs xw : Sl) (hp : PartRow m p xc xr xd) (hk : CmdRow mk k xs xw) (hup : Up p.cells) (hs : SmallP p) (hroom : p.cells.length + k.writes.length ≤ 1048576) (h0 : 0 ≤ p.epoch) (h1 : p.epoch ≤ 1099511627776) : FnX Try.prog 9 m [.agg (vmap (p.c xc xr xd)), .agg (vmap (k.c xs xw))] [] (ApplyOut mk (applyR p k)) noPanic := by
  refine fnX (args := [.agg (vmap (p.c xc xr xd)), .agg (vmap (k.c xs xw))]) Γok mix Try.func9 rfl (by kernel_rfl) Try.ntmps9 rfl (by simp) (okv_cons (okL_v rfl) (okv_cons (okL_v rfl) okv_nil)) ?_
  intro ρ W
  refine ⟨[], KeptNode.call (ws := []) ?_⟩
  refine keptNP 10000 [] (c := 1005) (r := 2005) (d := 3005) (p := p) ⟨[.agg (vmap (p.c xc xr xd))], rfl, f20 m p xc xr xd hp hs⟩ rfl (fun g mn hd hg => ?_)
  have hle := Mem.le_join m mn
  have hmj := Mem.join_le hmk hd
  have hgk : GOk g p.cells (mk.join mn) := hg.mono (Mem.join_right (Mem.disj_le hmk hd))
  unfold applyR
  refine ⟨fun hk1 => ?_, fun hk1 => ⟨fun he => ?_, fun he => ⟨fun he2 => ?_, fun he2 => ?_⟩⟩⟩
  · have hk1 : k.kind = 1 := by simpa using hk1
    rw [if_pos hk1]
    have herr := leaseR_err p k
    have hcall := (f21 (mk.join mn) p g k xs xw hgk h0 h1).weaken hmj rfl
    generalize leaseR p k = o at herr hcall
    refine ⟨[.keep [2, 3, 4, 5, 6, 7]], callDoesK (o := o) (mk := mk.join mn) (argsC := [.one (.ptr 0 0), .agg (vmap (k.c xs xw))]) hcall rfl rfl ⟨rfl, rfl, rfl, rfl, trivial⟩ (fun g' mn2 hd2 hg' => ?_) (fun g' mn2 hd2 hg' => ?_)⟩
    · have hdj := hd.join hd2
      refine ⟨fun h3 => ?_, fun h3 => ?_⟩
      · have h3 : o.2.err ≠ 0 := by simpa using h3
        have h4 := herr h3
        have hle2 : m.le ((m.join mn).join mn2) := Mem.le_trans hle (Mem.le_join _ _)
        refine draw Γok [(0, 2), (2, 7)] [1, 3, 4] (.take 0 (.take 2 (.one 1 [7] (.one 3 [7] (.one 4 [] .done))))) (by kernel_rfl) ?_
        refine keptNP 200000 [] (c := 1005) (r := 2005) (d := 3005) (p := p) ⟨[.agg (vmap (p.c xc xr xd))], rfl, f20 _ p xc xr xd (hp.mono hle2) hs⟩ rfl (fun g3 mn3 hd3 hg3 => ?_)
        obtain ⟨o1, o2⟩ := o
        simp only at h4
        subst h4
        have hdj3 := hdj.join (by rw [← Mem.join_assoc]; exact hd3)
        exact ⟨[.cut], cutR [(1, 201005), (2, 202005), (3, 203005), (14, 100060)] (F' := [(4, .one (.ptr 4 0)), (5, .one (.ptr 5 0))]) (B' := [(4, .box (o1.lv (.own 1) (.own 2) (.own 3)) 31), (5, .box (o2.lv (.own 14)) 43), (1, crow g3), (2, orow o1.records), (3, orow o1.done), (14, prow o2.pairs)]) ⟨rfl, rfl, trivial⟩ ⟨rfl, rfl, rfl, rfl, rfl, rfl, trivial⟩ rfl rfl
          (retXK (mk := mk) (o := (o1, o2)) (mn := (mn.join mn2).join mn3) (by rw [Mem.join_assoc, Mem.join_assoc, Mem.join_assoc]) hdj3 (hg3.mono (tail_le hmk hdj3 (by rw [← Mem.join_assoc]; exact hd3))))⟩
      · refine draw Γok [(0, 6), (1, 7)] [2, 3] (.take 0 (.take 1 (.one 2 [7] (.one 3 [] .done)))) (by kernel_rfl) ?_
        exact ⟨[.cut], cutR [(1, 11005), (2, 12005), (3, 13005), (14, 100060)] (F' := [(4, .one (.ptr 4 0)), (5, .one (.ptr 5 0))]) (B' := [(4, .box (o.1.lv (.own 1) (.own 2) (.own 3)) 31), (5, .box (o.2.lv (.own 14)) 43), (1, crow g'), (2, orow o.1.records), (3, orow o.1.done), (14, prow o.2.pairs)]) ⟨rfl, rfl, trivial⟩ ⟨rfl, rfl, rfl, rfl, rfl, rfl, trivial⟩ rfl rfl
          (retXK (mk := mk) (mn := mn.join mn2) (Mem.join_assoc m mn mn2) hdj (by rw [← Mem.join_assoc]; exact hg'))⟩
    · have hdj := hd.join hd2
      refine ⟨fun h3 => ?_, fun h3 => ?_⟩
      · have h3 : o.2.err ≠ 0 := by simpa using h3
        have h4 := herr h3
        have hle2 : m.le ((m.join mn).join mn2) := Mem.le_trans hle (Mem.le_join _ _)
        refine draw Γok [(0, 2), (2, 7)] [1, 3, 4] (.take 0 (.take 2 (.one 1 [7] (.one 3 [7] (.one 4 [] .done))))) (by kernel_rfl) ?_
        refine keptNP 200000 [] (c := 1005) (r := 2005) (d := 3005) (p := p) ⟨[.agg (vmap (p.c xc xr xd))], rfl, f20 _ p xc xr xd (hp.mono hle2) hs⟩ rfl (fun g3 mn3 hd3 hg3 => ?_)
        obtain ⟨o1, o2⟩ := o
        simp only at h4
        subst h4
        have hdj3 := hdj.join (by rw [← Mem.join_assoc]; exact hd3)
        exact ⟨[.cut], cutR [(1, 201005), (2, 202005), (3, 203005), (14, 100060)] (F' := [(4, .one (.ptr 4 0)), (5, .one (.ptr 5 0))]) (B' := [(4, .box (o1.lv (.own 1) (.own 2) (.own 3)) 31), (5, .box (o2.lv (.own 14)) 43), (1, crow g3), (2, orow o1.records), (3, orow o1.done), (14, prow o2.pairs)]) ⟨rfl, rfl, trivial⟩ ⟨rfl, rfl, rfl, rfl, rfl, rfl, trivial⟩ rfl rfl
          (retXK (mk := mk) (o := (o1, o2)) (mn := (mn.join mn2).join mn3) (by rw [Mem.join_assoc, Mem.join_assoc, Mem.join_assoc]) hdj3 (hg3.mono (tail_le hmk hdj3 (by rw [← Mem.join_assoc]; exact hd3))))⟩
      · refine draw Γok [(0, 6), (1, 7)] [2, 3] (.take 0 (.take 1 (.one 2 [7] (.one 3 [] .done)))) (by kernel_rfl) ?_
        exact ⟨[.cut], cutR [(1, 107005), (2, 12005), (3, 13005), (14, 100060)] (F' := [(4, .one (.ptr 4 0)), (5, .one (.ptr 5 0))]) (B' := [(4, .box (o.1.lv (.own 1) (.own 2) (.own 3)) 31), (5, .box (o.2.lv (.own 14)) 43), (1, crow g'), (2, orow o.1.records), (3, orow o.1.done), (14, prow o.2.pairs)]) ⟨rfl, rfl, trivial⟩ ⟨rfl, rfl, rfl, rfl, rfl, rfl, trivial⟩ rfl rfl
          (retXK (mk := mk) (mn := mn.join mn2) (Mem.join_assoc m mn mn2) hdj (by rw [← Mem.join_assoc]; exact hg'))⟩
  · have hk1 : ¬ k.kind = 1 := by simpa using hk1
    have he : p.epoch = 0 := by simpa using he
    rw [if_neg hk1, if_pos (.inl he)]
    refine ⟨fun _ => ?_, fun h => absurd h (by simp)⟩
    refine draw Γok [(0, 2), (2, 7)] [1, 3, 4] (.take 0 (.take 2 (.one 1 [7] (.one 3 [7] (.one 4 [] .done))))) (by kernel_rfl) ?_
    refine keptNP 200000 [] (c := 1005) (r := 2005) (d := 3005) (p := p) ⟨[.agg (vmap (p.c xc xr xd))], rfl, f20 _ p xc xr xd (hp.mono hle) hs⟩ rfl (fun g3 mn3 hd3 hg3 => ?_)
    have hdj3 := hd.join hd3
    refine ⟨[.cut, .cut], nilCut 14 (F' := [(4, .one (.ptr 4 0)), (5, .one (.ptr 5 0))]) (B' := [(4, .box (p.lv (.own 201005) (.own 202005) (.own 203005)) 31), (5, .box (({ Rep.zero with err := 25 } : Rep).lv (.own 14)) 43), (201005, crow g3), (202005, orow p.records), (203005, orow p.done), (14, .own 0 [] 50 2)]) ⟨rfl, rfl, trivial⟩ ⟨rfl, rfl, rfl, rfl, rfl, rfl, trivial⟩ ?_⟩
    exact cutR [(1, 201005), (2, 202005), (3, 203005)] (F' := [(4, .one (.ptr 4 0)), (5, .one (.ptr 5 0))]) (B' := [(4, .box (p.lv (.own 1) (.own 2) (.own 3)) 31), (5, .box (({ Rep.zero with err := 25 } : Rep).lv (.own 14)) 43), (1, crow g3), (2, orow p.records), (3, orow p.done), (14, .own 0 [] 50 2)]) ⟨rfl, rfl, trivial⟩ ⟨rfl, rfl, rfl, rfl, rfl, rfl, trivial⟩ rfl rfl
      (retXK (mk := mk) (o := (p, { Rep.zero with err := 25 })) (mn := mn.join mn3) (Mem.join_assoc m mn mn3) hdj3 (hg3.mono (tail_le hmk hdj3 hd3)))
  · have hk1 : ¬ k.kind = 1 := by simpa using hk1
    have he2 : k.epoch ≠ p.epoch := by simpa using he2
    rw [if_neg hk1, if_pos (.inr he2)]
    refine ⟨fun _ => ?_, fun h => absurd h (by simp)⟩
    refine draw Γok [(0, 2), (2, 7)] [1, 3, 4] (.take 0 (.take 2 (.one 1 [7] (.one 3 [7] (.one 4 [] .done))))) (by kernel_rfl) ?_
    refine keptNP 200000 [] (c := 1005) (r := 2005) (d := 3005) (p := p) ⟨[.agg (vmap (p.c xc xr xd))], rfl, f20 _ p xc xr xd (hp.mono hle) hs⟩ rfl (fun g3 mn3 hd3 hg3 => ?_)
    have hdj3 := hd.join hd3
    refine ⟨[.cut, .cut], nilCut 14 (F' := [(4, .one (.ptr 4 0)), (5, .one (.ptr 5 0))]) (B' := [(4, .box (p.lv (.own 201005) (.own 202005) (.own 203005)) 31), (5, .box (({ Rep.zero with err := 25 } : Rep).lv (.own 14)) 43), (201005, crow g3), (202005, orow p.records), (203005, orow p.done), (14, .own 0 [] 50 2)]) ⟨rfl, rfl, trivial⟩ ⟨rfl, rfl, rfl, rfl, rfl, rfl, trivial⟩ ?_⟩
    exact cutR [(1, 201005), (2, 202005), (3, 203005)] (F' := [(4, .one (.ptr 4 0)), (5, .one (.ptr 5 0))]) (B' := [(4, .box (p.lv (.own 1) (.own 2) (.own 3)) 31), (5, .box (({ Rep.zero with err := 25 } : Rep).lv (.own 14)) 43), (1, crow g3), (2, orow p.records), (3, orow p.done), (14, .own 0 [] 50 2)]) ⟨rfl, rfl, trivial⟩ ⟨rfl, rfl, rfl, rfl, rfl, rfl, trivial⟩ rfl rfl
      (retXK (mk := mk) (o := (p, { Rep.zero with err := 25 })) (mn := mn.join mn3) (Mem.join_assoc m mn mn3) hdj3 (hg3.mono (tail_le hmk hdj3 hd3)))
  · have hk1 : ¬ k.kind = 1 := by simpa using hk1
    have he : ¬ p.epoch = 0 := by simpa using he
    have he2 : ¬ k.epoch ≠ p.epoch := by simpa using he2
    rw [if_neg hk1, if_neg (fun h => h.elim he he2)]
    have herr := doesR_err p k
    have hcall := (f22 (mk.join mn) p g k xs xw hgk (hk.mono (Mem.le_join _ _)) hup hs hroom).weaken hmj rfl
    generalize doesR p k = o at herr hcall
    refine ⟨[.keep [2, 3, 4, 5, 6, 7]], callDoesK (o := o) (mk := mk.join mn) (argsC := [.one (.ptr 0 0), .agg (vmap (k.c xs xw))]) hcall rfl rfl ⟨rfl, rfl, rfl, rfl, trivial⟩ (fun g' mn2 hd2 hg' => ?_) (fun g' mn2 hd2 hg' => ?_)⟩
    · have hdj := hd.join hd2
      refine ⟨fun h3 => ?_, fun h3 => ?_⟩
      · have h3 : o.2.err ≠ 0 := by simpa using h3
        have h4 := herr h3
        have hle2 : m.le ((m.join mn).join mn2) := Mem.le_trans hle (Mem.le_join _ _)
        refine draw Γok [(0, 2), (2, 7)] [1, 3, 4] (.take 0 (.take 2 (.one 1 [7] (.one 3 [7] (.one 4 [] .done))))) (by kernel_rfl) ?_
        refine keptNP 200000 [] (c := 1005) (r := 2005) (d := 3005) (p := p) ⟨[.agg (vmap (p.c xc xr xd))], rfl, f20 _ p xc xr xd (hp.mono hle2) hs⟩ rfl (fun g3 mn3 hd3 hg3 => ?_)
        obtain ⟨o1, o2⟩ := o
        simp only at h4
        subst h4
        have hdj3 := hdj.join (by rw [← Mem.join_assoc]; exact hd3)
        exact ⟨[.cut], cutR [(1, 201005), (2, 202005), (3, 203005), (14, 100060)] (F' := [(4, .one (.ptr 4 0)), (5, .one (.ptr 5 0))]) (B' := [(4, .box (o1.lv (.own 1) (.own 2) (.own 3)) 31), (5, .box (o2.lv (.own 14)) 43), (1, crow g3), (2, orow o1.records), (3, orow o1.done), (14, prow o2.pairs)]) ⟨rfl, rfl, trivial⟩ ⟨rfl, rfl, rfl, rfl, rfl, rfl, trivial⟩ rfl rfl
          (retXK (mk := mk) (o := (o1, o2)) (mn := (mn.join mn2).join mn3) (by rw [Mem.join_assoc, Mem.join_assoc, Mem.join_assoc]) hdj3 (hg3.mono (tail_le hmk hdj3 (by rw [← Mem.join_assoc]; exact hd3))))⟩
      · refine draw Γok [(0, 6), (1, 7)] [2, 3] (.take 0 (.take 1 (.one 2 [7] (.one 3 [] .done)))) (by kernel_rfl) ?_
        exact ⟨[.cut], cutR [(1, 11005), (2, 12005), (3, 13005), (14, 100060)] (F' := [(4, .one (.ptr 4 0)), (5, .one (.ptr 5 0))]) (B' := [(4, .box (o.1.lv (.own 1) (.own 2) (.own 3)) 31), (5, .box (o.2.lv (.own 14)) 43), (1, crow g'), (2, orow o.1.records), (3, orow o.1.done), (14, prow o.2.pairs)]) ⟨rfl, rfl, trivial⟩ ⟨rfl, rfl, rfl, rfl, rfl, rfl, trivial⟩ rfl rfl
          (retXK (mk := mk) (mn := mn.join mn2) (Mem.join_assoc m mn mn2) hdj (by rw [← Mem.join_assoc]; exact hg'))⟩
    · have hdj := hd.join hd2
      refine ⟨fun h3 => ?_, fun h3 => ?_⟩
      · have h3 : o.2.err ≠ 0 := by simpa using h3
        have h4 := herr h3
        have hle2 : m.le ((m.join mn).join mn2) := Mem.le_trans hle (Mem.le_join _ _)
        refine draw Γok [(0, 2), (2, 7)] [1, 3, 4] (.take 0 (.take 2 (.one 1 [7] (.one 3 [7] (.one 4 [] .done))))) (by kernel_rfl) ?_
        refine keptNP 200000 [] (c := 1005) (r := 2005) (d := 3005) (p := p) ⟨[.agg (vmap (p.c xc xr xd))], rfl, f20 _ p xc xr xd (hp.mono hle2) hs⟩ rfl (fun g3 mn3 hd3 hg3 => ?_)
        obtain ⟨o1, o2⟩ := o
        simp only at h4
        subst h4
        have hdj3 := hdj.join (by rw [← Mem.join_assoc]; exact hd3)
        exact ⟨[.cut], cutR [(1, 201005), (2, 202005), (3, 203005), (14, 100060)] (F' := [(4, .one (.ptr 4 0)), (5, .one (.ptr 5 0))]) (B' := [(4, .box (o1.lv (.own 1) (.own 2) (.own 3)) 31), (5, .box (o2.lv (.own 14)) 43), (1, crow g3), (2, orow o1.records), (3, orow o1.done), (14, prow o2.pairs)]) ⟨rfl, rfl, trivial⟩ ⟨rfl, rfl, rfl, rfl, rfl, rfl, trivial⟩ rfl rfl
          (retXK (mk := mk) (o := (o1, o2)) (mn := (mn.join mn2).join mn3) (by rw [Mem.join_assoc, Mem.join_assoc, Mem.join_assoc]) hdj3 (hg3.mono (tail_le hmk hdj3 (by rw [← Mem.join_assoc]; exact hd3))))⟩
      · refine draw Γok [(0, 6), (1, 7)] [2, 3] (.take 0 (.take 1 (.one 2 [7] (.one 3 [] .done)))) (by kernel_rfl) ?_
        exact ⟨[.cut], cutR [(1, 107005), (2, 12005), (3, 13005), (14, 100060)] (F' := [(4, .one (.ptr 4 0)), (5, .one (.ptr 5 0))]) (B' := [(4, .box (o.1.lv (.own 1) (.own 2) (.own 3)) 31), (5, .box (o.2.lv (.own 14)) 43), (1, crow g'), (2, orow o.1.records), (3, orow o.1.done), (14, prow o.2.pairs)]) ⟨rfl, rfl, trivial⟩ ⟨rfl, rfl, rfl, rfl, rfl, rfl, trivial⟩ rfl rfl
          (retXK (mk := mk) (mn := mn.join mn2) (Mem.join_assoc m mn mn2) hdj (by rw [← Mem.join_assoc]; exact hg'))⟩
end Vc
end

section
open Go Go.Proofs Vc
namespace Vc
set_option maxHeartbeats 2000000

theorem callApplyB {E : Env} {f : FuncId} {args : List AV} {d : Option Nat} {F : Fr} {B : Ents} {m : Mem} {K : Cont} {Q : SPost} {o : Part × Rep} (base : Nat) (is : List Nat) (hf : Borrow is B m args fun args' mb => ∃ argsC, renAVs (renOf [] base) argsC = args' ∧ FnX E.P f mb argsC [] (ApplyOut m o) noPanic)
    (hc : callOk [] base is [] F B [] E.pins = true)
    (hK : ∀ g mn, Mem.Disj m mn → GOk g o.1.cells (m.join mn) → putK E d (.tup [(true, o.1.lv (.own (base + 1)) (.own (base + 2)) (.own (base + 3))), (true, o.2.lv (.own (base + 14)))]) F ([(base + 1, crow g), (base + 2, orow o.1.records), (base + 3, orow o.1.done), (base + 14, prow o.2.pairs)] ++ restB [] B) (m.join mn) K) : CallNode E f args d F B m K Q :=
  KeptNode.call (callXK [] base is hc trivial hf (fun u0 B0 mn hd h => by
    obtain ⟨g, hg, rfl, rfl⟩ := h
    exact ⟨rfl, rfl, hK g mn hd hg⟩) (fun _ _ _ _ h => h.elim))

def slv (x : Sl) : Leaf := .v (.slice x.A x.n x.c)
structure AllSt where
  i : Nat
  p : Part
  g : Gs
  xr : Sl
  xd : Sl
  M : Mem
def AllOk (m : Mem) (n : Nat) (s : AllSt) : Prop := s.i ≤ n ∧ Inv s.i s.p ∧ m.le s.M ∧ GOk s.g s.p.cells s.M ∧ OutRow s.M s.xr s.p.records ∧ OutRow s.M s.xd s.p.done
def AllF (x y : Sl) (s : AllSt) : Fr := [(6, ai s.i), (0, asl x), (1, asl y), (5, .one (.ptr 5 0))]
def AllB (s : AllSt) : Ents := [(5, .box (s.p.lv (.own 1) (slv s.xr) (slv s.xd)) 31), (1, crow s.g)]

theorem f3 (m : Mem) (x y : Sl) (l : List Cmd) (bs : List Bool) (hl : CmdsRow m x l) (hb : Flat (fun b => [Value.bool b]) 1 m y bs) : FnS Try.prog 3 m [vsl x, vsl y] (.bool true) := by
  refine fnS (args := [asl x, asl y]) Γok mix Try.func3 rfl (by kernel_rfl) Try.ntmps3 rfl rfl (by simp) (okv_cons rfl (okv_cons rfl okv_nil)) ?_
  intro W
  have hx := hl.bounds; have hm := maxLen_le; have hn := hl.n
  refine ⟨[], callS (f5 m) rfl rfl ?_⟩
  refine ⟨fun h => absurd h (by simp), fun _ => ?_⟩
  refine ⟨[], callS (f6 m x l 60 hl) rfl rfl ?_⟩
  refine ⟨fun h1 => ?_, fun h1 => ⟨fun h2 => ?_, fun h2 => ?_⟩⟩
  · exact ⟨[], retS fun ρ => rfl⟩
  · exact ⟨[], retS fun ρ => rfl⟩
  have h1 : lightsR l 60 = true := by simpa using h1
  have hl60 : l.length ≤ 60 ∧ ∀ k ∈ l, lightR k = true := by
    unfold lightsR at h1
    simp only [Bool.and_eq_true, Bool.not_eq_true', decide_eq_false_iff_not, List.all_eq_true] at h1
    exact ⟨by omega, h1.2⟩
  refine ⟨[.cut], nilCut 1 (F' := [(6, ai 0), (0, asl x), (1, asl y), (5, .one (.ptr 5 0))]) (B' := [(5, .box (p0.lv (.own 1) (slv Sl.nil) (slv Sl.nil)) 31), (1, .own 0 [] 55 12)]) ⟨rfl, rfl, rfl, rfl, trivial⟩ ⟨rfl, rfl, trivial⟩ ?_⟩
  refine ⟨⟨AllSt, AllOk m x.n, fun s => x.n - s.i, AllF x y, AllB, AllSt.M,
    ⟨⟨0, p0, [], Sl.nil, Sl.nil, m⟩, ⟨Nat.zero_le _, inv_p0, Mem.le_refl m, ⟨rfl, fun p hp => by cases hp⟩, flatNil _ _ _, flatNil _ _ _⟩, entails_ren [] ⟨rfl, rfl, rfl, rfl, trivial⟩ ⟨rfl, rfl, trivial⟩ rfl rfl⟩, fun s hi => ?_⟩⟩
  obtain ⟨i, p, g, xr, xd, M⟩ := s
  obtain ⟨hin, hinv, hle, hg, hr, hd⟩ := hi
  simp only at hin hinv hle hg hr hd
  refine ⟨fun h3 => ?_, fun h3 => ?_⟩
  · have h3 : i < x.n := by simpa using h3
    have hil : i < l.length := by omega
    obtain ⟨a, xs, xw, hA, hrd, hk⟩ := hl.at (List.getElem?_eq_getElem hil)
    have hrd := hrd.mono' hle
    have hk := hk.mono hle
    have hkl := lightR_writes (hl60.2 _ (List.getElem_mem hil))
    have hs := hinv.small (by omega)
    have hbm := hb.1.cap; have hbm2 := hb.1.most; have hbn := hb.2
    obtain ⟨q, hq⟩ : ∃ q, q = ownR p l[i] ((bs[i]?).getD false) := ⟨_, rfl⟩
    refine draw_cut [(7, .one (.ptr 7 0)), (6, ai i), (0, asl x), (1, asl y), (5, .one (.ptr 5 0))] [(7, .box (vmap (q.c xs xw)) 37), (5, .box (p.lv (.own 1) (slv xr) (slv xd)) 31), (1, crow g)] M ?_ ?_
    · refine draw Γok [(0, 5)] [15, 16, 17] (.take 0 (.take 1 (.take 2 (.take 3 (.take 4 (.take 5 (.take 6 (.take 7 (.take 8 (.take 9 (.take 10 (.take 11 (.take 12 (.take 13 (.take 14 (.two 15 [] (.one 16 [] (.one 17 [] .done)) 16 [5] (.one 15 [] (.one 17 [] .done)))))))))))))))))) (by kernel_rfl) ?_
      refine ⟨i, a, _, rfl, h3, hA, hrd, ?_⟩
      refine ⟨fun h4 => ?_, fun h4 => ?_⟩
      · have h4 : i < y.n := by simpa using h4
        have hib : i < bs.length := by omega
        obtain ⟨b, hB, hrb⟩ := hb.at (fun _ => rfl) (List.getElem?_eq_getElem hib)
        refine ⟨i, b, _, rfl, h4, hB, hrb.mono' hle, ?_⟩
        have hbv : (bs[i]?).getD false = bs[i] := by rw [List.getElem?_eq_getElem hib]; rfl
        rw [hbv] at hq
        have h7 : ∀ (mm : Mem) (xc : Sl), FnS Try.prog 7 mm [av (p.c xc xr xd), av (l[i].c xs xw), .bool bs[i]] (av (q.c xs xw)) := fun mm xc => by rw [hq]; exact f7 mm p xc xr xd l[i] xs xw bs[i]
        refine ⟨PureNode.kept (callSP [1] (v := av (q.c xs xw)) rfl (fun A c m1 hd1 a1 a2 a3 a4 => ⟨_, rfl, h7 _ ⟨A, g.length, c⟩⟩) rfl ?_), PureNode.kept (callSP [1] (v := av (q.c xs xw)) rfl (fun A c m1 hd1 a1 a2 a3 a4 => ⟨_, rfl, h7 _ ⟨A, g.length, c⟩⟩) rfl ?_)⟩
        · exact entails_ren [] ⟨rfl, rfl, rfl, rfl, rfl, trivial⟩ ⟨rfl, rfl, rfl, trivial⟩ rfl rfl
        · exact entails_ren [] ⟨rfl, rfl, rfl, rfl, rfl, trivial⟩ ⟨rfl, rfl, rfl, trivial⟩ rfl rfl
      · have h4 : ¬ i < y.n := by simpa using h4
        have hbv : (bs[i]?).getD false = false := by rw [List.getElem?_eq_none (by omega)]; rfl
        rw [hbv] at hq
        have h7 : ∀ (mm : Mem) (xc : Sl), FnS Try.prog 7 mm [av (p.c xc xr xd), av (l[i].c xs xw), .bool false] (av (q.c xs xw)) := fun mm xc => by rw [hq]; exact f7 mm p xc xr xd l[i] xs xw false
        refine ⟨PureNode.kept (callSP [1] (v := av (q.c xs xw)) rfl (fun A c m1 hd1 a1 a2 a3 a4 => ⟨_, rfl, h7 _ ⟨A, g.length, c⟩⟩) rfl ?_), PureNode.kept (callSP [1] (v := av (q.c xs xw)) rfl (fun A c m1 hd1 a1 a2 a3 a4 => ⟨_, rfl, h7 _ ⟨A, g.length, c⟩⟩) rfl ?_)⟩
        · exact entails_ren [] ⟨rfl, rfl, rfl, rfl, rfl, trivial⟩ ⟨rfl, rfl, rfl, trivial⟩ rfl rfl
        · exact entails_ren [] ⟨rfl, rfl, rfl, rfl, rfl, trivial⟩ ⟨rfl, rfl, rfl, trivial⟩ rfl rfl
    have hkw := ownR_writes p l[i] ((bs[i]?).getD false)
    have hks : (ownR p l[i] ((bs[i]?).getD false)).spans = l[i].spans := by unfold ownR; split <;> rfl
    rw [← hq] at hkw hks
    clear hq
    have hkq : CmdRow M q xs xw := ⟨by rw [hks]; exact hk.spans, by rw [hkw]; exact hk.writes⟩
    have hroom : p.cells.length + q.writes.length ≤ 1048576 := by have := hinv.cells; rw [hkw]; omega
    have hnext : Inv (i + 1) (applyR p q).1 := hinv.apply (by rw [hkw]; omega)
    refine ⟨[], KeptNode.call (ws := []) ?_⟩
    refine keptNP 10000 [1] (c := 1003) (r := 7) (d := 11) (p := p) (fun A c m1 hd1 a1 a2 a3 a4 => ⟨[.agg (vmap (p.c ⟨A, g.length, c⟩ xr xd))], rfl, f8 _ p _ _ _ ⟨hg.row hd1 a1 a2 a3 a4, hr.mono (Mem.le_join _ _), hd.mono (Mem.le_join _ _)⟩ hs⟩) rfl (fun g2 mn2 hd2 hg2 => ?_)
    refine ⟨[.freeze 11003, .freeze 10007, .freeze 10011, .cut], fun A c m1 hd1 a1 a2 a3 a4 A2 k2 m2 hd2' b1 b2 b3 b4 A3 k3 m3 hd3 d1 d2 d3 d4 => ?_⟩
    have hpc := part_fz (hg2.mono (Mem.join_right hd2)) hd1 a1 a2 a3 a4 hd2' b1 b2 b3 b4 hd3 d1 d2 d3 d4
    have hM2 : M.le ((((M.join mn2).join m1).join m2).join m3) := Mem.le_trans (Mem.le_join _ _) (Mem.le_trans (Mem.le_join _ _) (Mem.le_trans (Mem.le_join _ _) (Mem.le_join _ _)))
    refine cutR [] (F' := [(50, .agg (p.lv (.own 1) (slv xr) (slv xd))), (51, .agg (vmap (q.c xs xw))), (7, .one (.ptr 7 0)), (6, ai i), (0, asl x), (1, asl y), (5, .one (.ptr 5 0)), (8, .one (.ptr 8 0))])
      (B' := [(7, .box (vmap (q.c xs xw)) 37), (5, .box (p.lv (.own 1) (slv xr) (slv xd)) 31), (1, crow g), (8, .box (vmap (p.c ⟨A, g2.length, c⟩ ⟨A2, p.records.length, k2⟩ ⟨A3, p.done.length, k3⟩)) 31)]) ⟨rfl, rfl, rfl, rfl, rfl, rfl, rfl, rfl, trivial⟩ ⟨rfl, rfl, rfl, rfl, trivial⟩ rfl rfl ?_
    replace hle := Mem.le_trans hle hM2
    replace hg := hg.mono hM2
    replace hr := hr.mono hM2
    replace hd := hd.mono hM2
    replace hkq := hkq.mono hM2
    generalize (((M.join mn2).join m1).join m2).join m3 = M2 at hpc hle hg hr hd hkq
    generalize (⟨A, g2.length, c⟩ : Sl) = yc at hpc
    generalize (⟨A2, p.records.length, k2⟩ : Sl) = yr at hpc
    generalize (⟨A3, p.done.length, k3⟩ : Sl) = yd at hpc
    clear a1 a2 a3 a4 b1 b2 b3 b4 d1 d2 d3 d4 hd1 hd2 hd2' hd3 hg2 hM2 hrd hA hk
    have c9 := fun (mb : Mem) (hmb : M2.le mb) xc xr xd (hp : PartRow mb p xc xr xd) => f9k mb M2 hmb p xc xr xd q xs xw hp hkq hinv.up hs hroom hinv.e0 hinv.e1
    have c10 := fun (mb : Mem) xc xr xd (hp : PartRow mb p xc xr xd) (hk : CmdRow mb q xs xw) => f10 mb p xc xr xd q xs xw hp hk hinv.up hs hroom hinv.e0 hinv.e1
    generalize applyR p q = o at c9 c10 hnext
    refine callApplyB 20000 [1] (o := o) (fun A c m1 hd1 a1 a2 a3 a4 => ⟨[.agg (vmap (p.c ⟨A, g.length, c⟩ xr xd)), .agg (vmap (q.c xs xw))], rfl, c9 _ (Mem.le_join _ _) _ _ _ ⟨hg.row hd1 a1 a2 a3 a4, hr.mono (Mem.le_join _ _), hd.mono (Mem.le_join _ _)⟩⟩) rfl (fun g3 mn3 hd3 hg3 => ?_)
    refine ⟨[.freeze 20002, .freeze 20003, .cut], fun A2 k2 m2 hd2 b1 b2 b3 b4 A3 k3 m3 hd3' d1 d2 d3 d4 => ?_⟩
    have hM3 : M2.le (((M2.join mn3).join m2).join m3) := Mem.le_trans (Mem.le_join _ _) (Mem.le_trans (Mem.le_join _ _) (Mem.le_join _ _))
    have hgo : GOk g3 o.1.cells (((M2.join mn3).join m2).join m3) := hg3.mono (Mem.le_trans (Mem.le_join _ _) (Mem.le_join _ _))
    have hor : OutRow (((M2.join mn3).join m2).join m3) ⟨A2, o.1.records.length, k2⟩ o.1.records := (flat_row hd2 b1 b2 b3 b4).mono (Mem.le_join _ _)
    have hod : OutRow (((M2.join mn3).join m2).join m3) ⟨A3, o.1.done.length, k3⟩ o.1.done := flat_row hd3' d1 d2 d3 d4
    refine cutR [] (F' := [(56, .agg (vmap (p.c yc yr yd))), (57, .agg (vmap (q.c xs xw))), (6, ai i), (0, asl x), (1, asl y), (5, .one (.ptr 5 0)), (8, .one (.ptr 8 0)), (9, .one (.ptr 9 0)), (10, .one (.ptr 10 0))])
      (B' := [(5, .box (p.lv (.own 1) (slv xr) (slv xd)) 31), (1, crow g), (8, .box (vmap (p.c yc yr yd)) 31), (9, .box (o.1.lv (.own 20001) (slv ⟨A2, o.1.records.length, k2⟩) (slv ⟨A3, o.1.done.length, k3⟩)) 31), (20001, crow g3), (10, .box (o.2.lv (.own 20014)) 43), (20014, prow o.2.pairs)]) ⟨rfl, rfl, rfl, rfl, rfl, rfl, rfl, rfl, rfl, trivial⟩ ⟨rfl, rfl, rfl, rfl, rfl, rfl, rfl, trivial⟩ rfl rfl ?_
    replace hle := Mem.le_trans hle hM3
    replace hg := hg.mono hM3
    replace hr := hr.mono hM3
    replace hd := hd.mono hM3
    replace hkq := hkq.mono hM3
    replace hpc := hpc.mono hM3
    generalize ((M2.join mn3).join m2).join m3 = M3 at hpc hle hg hr hd hkq hgo hor hod
    generalize (⟨A2, o.1.records.length, k2⟩ : Sl) = zr at hor
    generalize (⟨A3, o.1.done.length, k3⟩ : Sl) = zd at hod
    clear b1 b2 b3 b4 d1 d2 d3 d4 hd2 hd3 hd3' hg3 hM3 c9
    refine callRef 30000 (o := o) (c10 _ _ _ _ hpc hkq) rfl rfl (fun wc wr wd wp mn4 hd4 hpo hpp => ?_)
    clear c10
    have hM4 : M3.le (M3.join mn4) := Mem.le_join _ _
    replace hle := Mem.le_trans hle hM4
    replace hg := hg.mono hM4
    replace hr := hr.mono hM4
    replace hd := hd.mono hM4
    replace hpc := hpc.mono hM4
    replace hgo := hgo.mono hM4
    replace hor := hor.mono hM4
    replace hod := hod.mono hM4
    have hup := hinv.up
    refine draw_from [(6, ai i), (0, asl x), (1, asl y), (5, .one (.ptr 5 0)), (8, .one (.ptr 8 0)), (9, .one (.ptr 9 0)), (10, .one (.ptr 10 0)), (11, .one (.ptr 11 0)), (12, .one (.ptr 12 0))] [(5, .box (p.lv (.own 1) (slv xr) (slv xd)) 31), (1, crow g), (8, .box (vmap (p.c yc yr yd)) 31), (9, .box (o.1.lv (.own 20001) (slv zr) (slv zd)) 31), (20001, crow g3), (10, .box (o.2.lv (.own 20014)) 43), (20014, prow o.2.pairs), (11, .box (vmap (o.1.c wc wr wd)) 31), (12, .box (vmap (o.2.c wp)) 43)] (M3.join mn4) (entails_ren [] ⟨rfl, rfl, rfl, rfl, rfl, rfl, rfl, rfl, rfl, trivial⟩ ⟨rfl, rfl, rfl, rfl, rfl, rfl, rfl, rfl, rfl, trivial⟩ rfl rfl) ?_
    generalize M3.join mn4 = M4 at hpc hle hg hr hd hgo hor hod hpo hpp
    clear hM4 hd4 hkq
    have s1 : ∀ (A : Option Addr) (c : Nat) (m1 : Mem), Mem.Disj M4 m1 → g3.cells.length = g3.length * 12 → g3.length ≤ c → c ≤ maxLen → (0 < g3.length → ∃ a, A = some a ∧ MemReads m1 a g3.cells) → PartRow (M4.join m1) o.1 ⟨A, g3.length, c⟩ zr zd :=
      fun A c m1 hd1 a1 a2 a3 a4 => ⟨hgo.row hd1 a1 a2 a3 a4, hor.mono (Mem.le_join _ _), hod.mono (Mem.le_join _ _)⟩
    have s2 : ∀ (A : Option Addr) (c : Nat) (m1 : Mem), Mem.Disj M4 m1 → g.cells.length = g.length * 12 → g.length ≤ c → c ≤ maxLen → (0 < g.length → ∃ a, A = some a ∧ MemReads m1 a g.cells) → PartRow (M4.join m1) p ⟨A, g.length, c⟩ xr xd :=
      fun A c m1 hd1 a1 a2 a3 a4 => ⟨hg.row hd1 a1 a2 a3 a4, hr.mono (Mem.le_join _ _), hd.mono (Mem.le_join _ _)⟩
    have e11 : ∀ (mm : Mem) (u : Part) (a b c a' b' c' : Sl), PartRow mm u a b c → PartRow mm u a' b' c' → FnS Try.prog 11 mm [av (u.c a b c), av (u.c a' b' c')] (.bool true) := fun mm u a b c a' b' c' h h' => by
      have := f11 mm u u a b c a' b' c' h h'
      rwa [decide_eq_true rfl] at this
    have e12 : ∀ (mm : Mem) (u : Rep) (a b : Sl), PairRow mm a u.pairs → PairRow mm b u.pairs → FnS Try.prog 12 mm [av (u.c a), av (u.c b)] (.bool true) := fun mm u a b h h' => by
      have := f12 mm u u a b h h'
      rwa [decide_eq_true rfl] at this
    refine draw Γok [(0, 9), (1, 11), (5, 10), (6, 12), (11, 5), (12, 8), (17, 9), (19, 11)] [2, 7, 13, 18, 20] (.take 0 (.take 1 (.pcall 2 (.take 3 (.take 4 (.take 5 (.take 6 (.pcall 7 (.take 8 (.take 9 (.take 10 (.take 11 (.take 12 (.pcall 13 (.take 14 (.take 15 (.take 16 (.take 17 (.take 19 (.pcall 18 (.pcall 20 (.take 21 (.take 22 .done))))))))))))))))))))))) (by kernel_rfl) ?_
    refine callSP [20001] (v := .bool true) rfl (fun A c m1 hd1 a1 a2 a3 a4 => ⟨_, rfl, e11 _ o.1 ⟨A, g3.length, c⟩ zr zd wc wr wd (s1 A c m1 hd1 a1 a2 a3 a4) (hpo.mono (Mem.le_join _ _))⟩) rfl ?_
    refine ⟨fun h => absurd h (by simp), fun _ => ?_⟩
    refine callSP [20014] (v := .bool true) rfl (fun A c m1 hd1 a1 a2 a3 a4 => ⟨_, rfl, e12 _ o.2 ⟨A, o.2.pairs.length, c⟩ wp (flat_row hd1 a1 a2 a3 a4) (hpp.mono (Mem.le_join _ _))⟩) rfl ?_
    refine ⟨fun h => absurd h (by simp), fun _ => ?_⟩
    refine callSP [1] (v := .bool true) rfl (fun A c m1 hd1 a1 a2 a3 a4 => ⟨_, rfl, e11 _ p ⟨A, g.length, c⟩ xr xd yc yr yd (s2 A c m1 hd1 a1 a2 a3 a4) (hpc.mono (Mem.le_join _ _))⟩) rfl ?_
    refine ⟨fun h => absurd h (by simp), fun _ => ?_⟩
    refine callSP [20001] (v := .bool (mayR o.1)) rfl (fun A c m1 hd1 a1 a2 a3 a4 => ⟨_, rfl, f13 _ o.1 ⟨A, g3.length, c⟩ zr zd (s1 A c m1 hd1 a1 a2 a3 a4)⟩) rfl ?_
    refine pureS (f14 _ o.1 wc wr wd hpo) rfl rfl ?_
    refine ⟨fun h => absurd h (by simp), fun _ => ?_⟩
    refine ⟨[], ⟨⟨Nat × List Value, fun s => s.1 ≤ o.2.pairs.length ∧ s.2.length = o.2.pairs.length * 2, fun s => o.2.pairs.length - s.1, fun s => [(13, ai s.1), (6, ai i), (0, asl x), (1, asl y), (5, .one (.ptr 5 0)), (9, .one (.ptr 9 0)), (10, .one (.ptr 10 0)), (11, .one (.ptr 11 0))], fun s => [(5, .box (p.lv (.own 1) (slv xr) (slv xd)) 31), (1, crow g), (9, .box (o.1.lv (.own 20001) (slv zr) (slv zd)) 31), (20001, crow g3), (10, .box (o.2.lv (.own 20014)) 43), (20014, .own o.2.pairs.length s.2 50 2), (11, .box (vmap (o.1.c wc wr wd)) 31)], fun _ => M4,
      ⟨(0, o.2.pairs.flatMap Pair.c), ⟨Nat.zero_le _, flat_length (f := Pair.c) (sz := 2) (fun _ => rfl) o.2.pairs⟩, entails_ren [] ⟨rfl, rfl, rfl, rfl, rfl, rfl, rfl, rfl, trivial⟩ ⟨rfl, rfl, rfl, rfl, rfl, rfl, rfl, trivial⟩ rfl rfl⟩, fun s hj => ?_⟩⟩⟩
    have hwb1 := hpp.1.cap; have hwb2 := hpp.1.most; have hwb3 := hpp.2
    obtain ⟨j, cs⟩ := s
    obtain ⟨hjn, hcs⟩ := hj
    simp only at hjn hcs
    refine ⟨fun h5 => ?_, fun h5 => ?_⟩
    · have h5 : j < o.2.pairs.length := by simpa using h5
      refine ⟨j, rfl, h5, ?_⟩
      refine ⟨by show j * 2 + 2 ≤ cs.length; omega, ?_⟩
      refine ⟨((j + 1 : Nat) : Int), i64_in _ (by omega), ?_⟩
      refine ⟨[], (j + 1, cs.take (j * 2) ++ Pair.c ⟨⟨#[]⟩, ⟨#[]⟩⟩ ++ cs.drop (j * 2 + 2)), ⟨by show j + 1 ≤ _; omega, ?_⟩, by show o.2.pairs.length - (j + 1) < o.2.pairs.length - j; omega, entails_ren [] ⟨rfl, rfl, rfl, rfl, rfl, rfl, rfl, rfl, trivial⟩ ⟨rfl, rfl, rfl, rfl, rfl, rfl, rfl, trivial⟩ rfl rfl⟩
      show (cs.take (j * 2) ++ Pair.c ⟨⟨#[]⟩, ⟨#[]⟩⟩ ++ cs.drop (j * 2 + 2)).length = _
      simp [Pair.c]
      omega
    have hgl := hg.len
    have hcl := hinv.cells
    refine ⟨[], ⟨⟨Nat × List Value, fun s => s.1 ≤ g.length ∧ s.2.length = g.length * 12, fun s => g.length - s.1, fun s => [(14, ai s.1), (6, ai i), (0, asl x), (1, asl y), (5, .one (.ptr 5 0)), (9, .one (.ptr 9 0)), (11, .one (.ptr 11 0))], fun s => [(5, .box (p.lv (.own 1) (slv xr) (slv xd)) 31), (1, .own g.length s.2 55 12), (9, .box (o.1.lv (.own 20001) (slv zr) (slv zd)) 31), (20001, crow g3), (11, .box (vmap (o.1.c wc wr wd)) 31)], fun _ => M4,
      ⟨(0, g.cells), ⟨Nat.zero_le _, flat_length (f := fun p : Cell × Sl => p.1.c p.2) (sz := 12) (fun _ => rfl) g⟩, entails_ren [] ⟨rfl, rfl, rfl, rfl, rfl, rfl, rfl, trivial⟩ ⟨rfl, rfl, rfl, rfl, rfl, trivial⟩ rfl rfl⟩, fun s hj => ?_⟩⟩⟩
    obtain ⟨j2, cs2⟩ := s
    obtain ⟨hjn2, hcs2⟩ := hj
    simp only at hjn2 hcs2
    refine ⟨fun h6 => ?_, fun h6 => ?_⟩
    · have h6 : j2 < g.length := by simpa using h6
      refine ⟨j2, rfl, h6, ?_⟩
      refine ⟨by show j2 * 12 + 12 ≤ cs2.length; omega, ?_⟩
      refine ⟨((j2 + 1 : Nat) : Int), i64_in _ (by omega), ?_⟩
      refine ⟨[], (j2 + 1, cs2.take (j2 * 12) ++ Cell.c ⟨⟨#[]⟩, [], false, Lk.zero⟩ Sl.nil ++ cs2.drop (j2 * 12 + 12)), ⟨by show j2 + 1 ≤ _; omega, ?_⟩, by show g.length - (j2 + 1) < g.length - j2; omega, entails_ren [] ⟨rfl, rfl, rfl, rfl, rfl, rfl, rfl, trivial⟩ ⟨rfl, rfl, rfl, rfl, rfl, trivial⟩ rfl rfl⟩
      show (cs2.take (j2 * 12) ++ Cell.c ⟨⟨#[]⟩, [], false, Lk.zero⟩ Sl.nil ++ cs2.drop (j2 * 12 + 12)).length = _
      simp [Cell.c]
      omega
    refine ⟨[], KeptNode.call (ws := []) (PureNode.kept (callSP [20001] (v := .bool true) rfl (fun A c m1 hd1 a1 a2 a3 a4 => ⟨_, rfl, e11 _ o.1 ⟨A, g3.length, c⟩ zr zd wc wr wd (s1 A c m1 hd1 a1 a2 a3 a4) (hpo.mono (Mem.le_join _ _))⟩) rfl ?_))⟩
    refine ⟨fun h => absurd h (by simp), fun _ => ?_⟩
    refine ⟨((i + 1 : Nat) : Int), i64_in _ (by omega), ?_⟩
    exact ⟨[], ⟨i + 1, o.1, g3, zr, zd, M4⟩, ⟨by show i + 1 ≤ _; omega, hnext, hle, hgo, hor, hod⟩, by show x.n - (i + 1) < x.n - i; omega, entails_ren [(1, 20001)] ⟨rfl, rfl, rfl, rfl, trivial⟩ ⟨rfl, rfl, trivial⟩ rfl rfl⟩
  · exact ⟨[], retS fun ρ => rfl⟩
end Vc
end

section
open Go Go.Proofs Vc
namespace Go.Proofs.Ytohghogmgnommaa
open Go.ChangeShapes Go.WideShapes Go.ChangeAt Go.RowKit
theorem slice_one {P : Program} {W : World} {t e : TypeId} {v : Value} (hu : P.underlying t = some (.slice e)) (h : Value.okWide P W .any 0 t v) : v.cells = #[v] := by
  unfold Value.okWide at h
  rw [hu] at h
  cases v <;> first | rfl | (simp [Cell.okWide, Cell.ok, hu] at h; done)
theorem slice_val {v : Value} {s : Sl} (h : v.cells = #[v]) (hc : v.cells.toList = [.slice s.A s.n s.c]) : v = vsl s := by
  rw [h] at hc
  have h1 : v = .slice s.A s.n s.c := by simpa using hc
  exact h1
theorem partAll_ps : ∀ t ∈ Try.f3.params.toList, Try.prog.readableRec t = true ∧ t < Try.prog.types.size := by
  rw [Try.params3]
  intro t ht
  simp only [List.mem_cons, List.not_mem_nil, or_false] at ht
  rcases ht with rfl | rfl
  · exact ⟨by kernel_rfl, of_decide_eq_true (by kernel_rfl)⟩
  · exact ⟨by kernel_rfl, of_decide_eq_true (by kernel_rfl)⟩
set_option maxRecDepth 100000 in
theorem partAll_contract (H : Type) (enc : TypeId × Value → H) (W : World) (args : Array Value) (ds gs : List (DataW H)) (before : List MemPlace)
    (hval : ∀ (j : Nat) t v, Try.f3.params[j]? = some t → args[j]? = some v → Value.okWide Try.prog W .any 0 t v)
    (hW : DataW.Whole enc Try.prog Try.f3.params.toList Rows.partAllSpec.vars false W args.toList ds gs before) :
    Calls Try.prog 3 args W fun e W' => ∃ v, e = .returned v ∧ Rows.partAllSpec.post enc Try.prog Try.f3 false true false false W args v W' := by
  have hW' := hW
  obtain ⟨p, q, hA0, hV, rfl, hfz, hnd⟩ := hW
  have hA : DataW.TrodAll enc Try.prog W 0 (fun _ => true) true Try.f3.params.toList args.toList ds p := hA0
  rw [Try.params3] at hA hval
  obtain ⟨v0, vs0, d0, ds0, p0, q0, hargs, rfl, rfl, h0, r0⟩ := trodAll_cons hA
  obtain ⟨v1, vs1, d1, ds1, p1, q1, rfl, rfl, rfl, h1, r1⟩ := trodAll_cons r0
  obtain ⟨rfl, rfl, rfl⟩ := trodAll_nil r1
  obtain rfl : args = #[v0, v1] := by cases args; simp_all
  have k0 := hval 0 22 v0 rfl rfl
  have k1 := hval 1 23 v1 rfl rfl
  have a0 := slice_one Try.underlying22 k0
  have a1 := slice_one Try.underlying23 k1
  obtain ⟨x, l, e0, hl⟩ := open_cmds (cs := v0.cells.toList) (h0.imp fun _ h => ⟨_, h⟩)
  obtain ⟨y, bs, e1, hb⟩ := open_bools (cs := v1.cells.toList) (h1.imp fun _ h => ⟨_, h⟩)
  have b0 := slice_val a0 e0
  have b1 := slice_val a1 e1
  have hcall : Calls Try.prog 3 #[v0, v1] W (RS W (.bool true)) := by
    rw [b0, b1]
    exact (f3 (memW W) x y l bs hl hb W (has_memW W)).calls Try.func3 (by kernel_rfl) rfl
  refine hcall.mono fun e W' ⟨he, hbl⟩ => ?_
  subst he
  exact ⟨_, rfl, post_true laidOut rfl partAll_ps (by kernel_rfl) Try.underlying4 rfl rfl rfl hW' hbl⟩

set_option maxRecDepth 100000 in
theorem partAll_lifted (os : Os) (started : os.Started) (H : Type) (enc : TypeId × Value → H) :
    ReturnsInHanded {} Try.checked os 3 .any (Rows.partAllSpec.pre6 enc Try.prog Try.f3 Rows.partAllRow.domain false) (Rows.partAllSpec.post enc Try.prog Try.f3 false true false false) := by
  refine returnsInHanded_of_change (C := Try.checked) own started (by kernel_rfl) Try.func3
    (ChangeSpec.witness6 (enc := enc) (C := Try.checked) false ⟨#[], #[.slice Option.none 0 0, .slice Option.none 0 0], []⟩ 8 (by kernel_rfl) (by kernel_rfl) (by kernel_rfl) (by kernel_rfl)) ?_
  intro W base args ds gs before hval hW _ _
  exact partAll_contract H enc W args ds gs before hval hW

theorem partAll_holds : Rows.PartAllSaid :=
  OpenClaim.holds_of_wide 3 Try.f3 rfl rfl rfl rfl rfl rfl rfl ⟨rfl, rfl, rfl, rfl, rfl⟩ rfl rfl rfl rfl rfl (by kernel_rfl) Try.func3 (by kernel_rfl)
    (of_decide_eq_true (by kernel_rfl)) (by unfold Func.isWrapper; first | (rw [if_pos (by decide +kernel)]; kernel_rfl) | (rw [if_neg (by decide +kernel)]; exact ⟨rfl, rfl⟩))
    (fun os started H enc _ => partAll_lifted os started H enc)
end Go.Proofs.Ytohghogmgnommaa
end
