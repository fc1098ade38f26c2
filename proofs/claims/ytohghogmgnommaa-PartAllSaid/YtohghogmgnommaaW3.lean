/-
  What each function that the law calls hands back, as a Lean function of what its arguments hold. No condition beyond each theorem.
-/
import Derived.Test.YtohghogmgnommaaW2
set_option linter.all false
set_option linter.unusedVariables false
set_option linter.unusedSimpArgs false
set_option linter.unusedSectionVars false
section
open Go Go.Proofs Vc
namespace Vc
set_option maxHeartbeats 1000000

theorem triKey : KeyOk Tri.c Try.prog 97 33 3 3 := by
  refine ⟨by kernel_rfl, by kernel_rfl, by omega, fun a => ?_, fun a b h => ?_, run_zero_of (by kernel_rfl)⟩
  · kernel_rfl
  · cases a; cases b; simp [Tri.c] at h; simp [h]
def onesM (l : List Outc) : List (Tri × Int) := l.map fun o => (o.who, 1)
theorem findM_ones (y : Tri) (l : List Outc) (i : Nat) : (findM y i (onesM l)).map (·.2) = if (findR y l).2 then some 1 else none := by
  induction l generalizing i with
  | nil => simp [onesM, findM, findR, Outc.zero]
  | cons o l ih =>
    by_cases h : o.who = y
    · simp [onesM, findM, findR, h]
    · have h' : ¬ y = o.who := fun e => h e.symm
      have := ih (i + 1)
      simp only [onesM, List.map_cons, findM, h', if_false, findR, h] at this ⊢
      exact this
theorem valM_ones (y : Tri) (l : List Outc) : valM y (onesM l) = if (findR y l).2 then 1 else 0 := by
  unfold valM; rw [findM_ones]; split <;> rfl
theorem ones_next {l : List Outc} {o : Outc} (h : (findR o.who l).2 = false) : (putM o.who (onesM l)).set (posM o.who (onesM l)) (o.who, 1) = onesM (l ++ [o]) := by
  have h1 := findM_ones o.who l 0
  rw [h] at h1
  have h2 : findM o.who 0 (onesM l) = none := by
    cases hf : findM o.who 0 (onesM l) with
    | none => rfl
    | some p => rw [hf] at h1; cases h1
  unfold putM posM
  rw [h2]
  simp [onesM]

theorem f31 (m : Mem) (x : Sl) (l : List Outc) (h : OutRow m x l) : FnS Try.prog 31 m [vsl x] (.bool (onceR l)) := by
  refine fnS (args := [asl x]) Γok mix Try.func31 rfl (by kernel_rfl) Try.ntmps31 rfl rfl (by simp) (okv_cons rfl okv_nil) ?_
  intro W
  have hx := h.1.cap; have hx' := h.1.most; have hm := maxLen_le; have hn := h.2
  refine handMake (kc := Tri.c) rfl rfl rfl (fun g hg => ?_)
  refine ⟨[], ⟨⟨Nat, fun i => i ≤ x.n ∧ onceN l i = true, fun i => x.n - i, fun i => [(9, ai i), (8, ai x.n), (7, asl x), (3, .one (.v (.map (some g))))], fun _ => [], fun i => m.set g (mapOb Tri.c (onesM (l.take i))),
    ⟨0, ⟨by omega, rfl⟩, entails_ren [] ⟨rfl, rfl, rfl, rfl, trivial⟩ trivial rfl rfl⟩, fun i hi => ?_⟩⟩⟩
  obtain ⟨hin, hor⟩ := hi
  refine ⟨fun h1 => ?_, fun h1 => ?_⟩
  · have h1 : i < x.n := by simpa using h1
    have hlt : i < l.length := by omega
    obtain ⟨a, hA, hr⟩ := h.at (fun _ => rfl) (List.getElem?_eq_getElem hlt)
    refine ⟨i, a, _, rfl, h1, hA, hr.mono' (Mem.le_set hg _), ?_⟩
    refine draw_from [(5, .one (.ptr 5 0)), (9, ai i), (8, ai x.n), (7, asl x), (3, .one (.v (.map (some g))))] [(5, .box (vmap l[i].c) 58)] (m.set g (mapOb Tri.c (onesM (l.take i)))) (entails_ren [] ⟨rfl, rfl, rfl, rfl, rfl, trivial⟩ ⟨rfl, trivial⟩ rfl rfl) ?_
    have hv : valM l[i].who (onesM (l.take i)) = if (findR l[i].who (l.take i)).2 then 1 else 0 := valM_ones _ _
    generalize hvv : valM l[i].who (onesM (l.take i)) = v at hv
    have h01 : 0 ≤ v ∧ v ≤ 1 := by rw [hv]; split <;> omega
    refine draw_cut [(5, .one (.ptr 5 0)), (9, ai i), (8, ai x.n), (7, asl x), (3, .one (.v (.map (some g))))] [(5, .box (vmap l[i].c) 58)] (m.set g (mapOb Tri.c ((putM l[i].who (onesM (l.take i))).set (posM l[i].who (onesM (l.take i))) (l[i].who, v + 1)))) ?_ ?_
    · refine drawH Γok [(2, 5)] [3, 5, 7] (.take 0 (.take 1 (.take 2 (.two 3 [5] (.take 4 (.one 5 [5] (.take 6 (.one 7 [5] .done)))) 5 [5] (.take 6 (.one 3 [5] (.take 4 (.one 7 [5] .done)))))))) (by kernel_rfl) ?_
      refine ⟨effLook triKey ⟨_, _, rfl, g, rfl, l[i].who, rfl, _, Mem.set_same .., ?_⟩ _, effEntry triKey ⟨_, _, rfl, g, rfl, l[i].who, rfl, _, Mem.set_same .., hg, rfl, rfl, ?_⟩ _⟩
      · rw [hvv]
        refine ⟨v + 1, i64_in _ (by omega), effEntry triKey ⟨_, _, rfl, g, rfl, l[i].who, rfl, _, Mem.set_same .., hg, rfl, rfl, ?_⟩ _⟩
        refine effStore ⟨_, _, _, rfl, g, rfl, posM l[i].who (onesM (l.take i)), rfl, v + 1, rfl, _, l[i].who, valM l[i].who (onesM (l.take i)), Mem.set_same .., putM_get _ _, hg, rfl, rfl, rfl, ?_⟩ _
        rw [Mem.set_set, Mem.set_set]
        exact entails_ren [] ⟨rfl, rfl, rfl, rfl, rfl, trivial⟩ ⟨rfl, trivial⟩ rfl rfl
      · rw [Mem.set_set]
        refine effLook triKey ⟨_, _, rfl, g, rfl, l[i].who, rfl, _, Mem.set_same .., ?_⟩ _
        rw [valM_put, hvv]
        refine ⟨v + 1, i64_in _ (by omega), ?_⟩
        refine effStore ⟨_, _, _, rfl, g, rfl, posM l[i].who (onesM (l.take i)), rfl, v + 1, rfl, _, l[i].who, valM l[i].who (onesM (l.take i)), Mem.set_same .., putM_get _ _, hg, rfl, rfl, rfl, ?_⟩ _
        rw [Mem.set_set]
        exact entails_ren [] ⟨rfl, rfl, rfl, rfl, rfl, trivial⟩ ⟨rfl, trivial⟩ rfl rfl
    refine handLook triKey ⟨_, _, rfl, g, rfl, l[i].who, rfl, _, Mem.set_same .., ?_⟩
    rw [valM_set]
    refine ⟨fun h2 => ?_, fun h2 => ?_⟩
    · have h2 : 1 < v + 1 := by simpa using h2
      have hb : (findR l[i].who (l.take i)).2 = true := by
        cases hf : (findR l[i].who (l.take i)).2 with
        | true => rfl
        | false => rw [hf] at hv; simp at hv; omega
      have hno : onceR l = false := by
        unfold onceR
        rw [List.all_eq_false]
        exact ⟨i, List.mem_range.2 hlt, by rw [List.getElem?_eq_getElem hlt]; simp [hb]⟩
      exact ⟨[], retS fun ρ => by rw [hno]; rfl⟩
    · have h2 : ¬ 1 < v + 1 := by simpa using h2
      have hb : (findR l[i].who (l.take i)).2 = false := by
        cases hf : (findR l[i].who (l.take i)).2 with
        | false => rfl
        | true => rw [hf] at hv; simp at hv; omega
      have hv0 : v = 0 := by rw [hv, hb]; rfl
      subst hv0
      have hyes : i + 1 ≤ x.n ∧ onceN l (i + 1) = true := by
        refine ⟨by omega, ?_⟩
        unfold onceN at hor ⊢
        rw [List.range_succ, List.all_append, hor]
        simp [List.getElem?_eq_getElem hlt, hb]
      have hnx : (putM l[i].who (onesM (l.take i))).set (posM l[i].who (onesM (l.take i))) (l[i].who, 0 + 1) = onesM (l.take (i + 1)) := by
        rw [← List.take_append_getElem hlt]
        exact ones_next hb
      rw [hnx]
      refine ⟨((i + 1 : Nat) : Int), i64_in _ (by omega), ?_⟩
      exact ⟨[], i + 1, hyes, by show x.n - (i + 1) < x.n - i; omega, entails_ren [] ⟨rfl, rfl, rfl, rfl, trivial⟩ trivial rfl rfl⟩
  · have h1 : ¬ i < x.n := by simpa using h1
    have : i = l.length := by omega
    subst this
    exact ⟨[], retS fun ρ => by rw [show onceR l = onceN l l.length from rfl, hor]; rfl⟩
end Vc
end

section
open Go Go.Proofs Vc
namespace Vc
set_option maxHeartbeats 1000000

theorem sle_not (a b : ByteArray) : (sLt b a || decide (b = a)) = !sLt a b := by
  cases h : sLt a b with
  | true => rw [sLt_asym h]; simp; rintro rfl; rw [sLt_irr] at h; cases h
  | false =>
    cases h2 : sLt b a with
    | true => rfl
    | false => rw [sLt_tri h h2]; simp
theorem f30 (m : Mem) (x : Sl) (l : List Cell) (h : CellRow m x l) : FnS Try.prog 30 m [vsl x] (.bool (cellsOk l l.length)) := by
  refine fnS (args := [asl x]) Γok mix Try.func30 rfl (by kernel_rfl) Try.ntmps30 rfl rfl (by simp) (okv_cons rfl okv_nil) ?_
  intro W
  have hx := h.bounds; have hm := maxLen_le; have hn := h.n
  refine ⟨[], ⟨⟨Nat, fun i => i ≤ x.n ∧ cellsOk l i = true, fun i => x.n - i, fun i => [(9, ai i), (8, ai x.n), (7, asl x), (0, asl x)], fun _ => [], fun _ => m,
    ⟨0, ⟨by omega, rfl⟩, entails_ren [] ⟨rfl, rfl, rfl, rfl, trivial⟩ trivial rfl rfl⟩, fun i hi => ?_⟩⟩⟩
  obtain ⟨hin, hor⟩ := hi
  refine ⟨fun h1 => ?_, fun h1 => ?_⟩
  · have h1 : i < x.n := by simpa using h1
    have hlt : i < l.length := by omega
    obtain ⟨a, s, hA, hr, hv⟩ := h.at (List.getElem?_eq_getElem hlt)
    have hs := hv.1.cap; have hs2 := hv.1.most; have hsn := hv.2
    refine ⟨i, a, _, rfl, h1, hA, hr, ?_⟩
    refine draw_cut [(59, .one (.v (.bool (cellBad (prevO l i) l[i])))), (3, ai i), (9, ai i), (8, ai x.n), (7, asl x), (4, .one (.ptr 4 0)), (0, asl x)] [(4, .box (vmap (l[i].c s)) 55)] m ?_ ?_
    · refine draw Γok [(4, 4), (15, 4), (19, 4), (26, 4), (30, 4), (38, 4), (42, 4)] [] (.take 0 (.take 1 (.take 2 (.take 3 (.take 4 (.take 5 (.take 6 (.take 7 (.take 8 (.take 9 (.take 10 (.take 11 (.take 12 (.take 13 (.take 14 (.take 15 (.take 16 (.take 17 (.take 18 (.take 19 (.take 20 (.take 21 (.take 22 (.take 23 (.take 24 (.take 25 (.take 26 (.take 27 (.take 28 (.take 29 (.take 30 (.take 31 (.take 32 (.take 33 (.take 34 (.take 35 (.take 36 (.take 37 (.take 38 (.take 39 (.take 40 (.take 41 (.take 42 (.take 43 (.take 44 (.take 45 .done)))))))))))))))))))))))))))))))))))))))))))))) (by kernel_rfl) ?_
      have key : ∀ {E : Env} {F : Fr} {B : Ents} (b : Bool), cellBad (prevO l i) l[i] = b → Entails E F B m [(59, .one (.v (.bool (b)))), (3, ai i), (9, ai i), (8, ai x.n), (7, asl x), (4, .one (.ptr 4 0)), (0, asl x)] [(4, .box (vmap (l[i].c s)) 55)] m → Entails E F B m [(59, .one (.v (.bool (cellBad (prevO l i) l[i])))), (3, ai i), (9, ai i), (8, ai x.n), (7, asl x), (4, .one (.ptr 4 0)), (0, asl x)] [(4, .box (vmap (l[i].c s)) 55)] m := fun b hb he => by rw [hb]; exact he
      have habs : ∀ {e : Bool} {p : Prop}, e = true → e = false → p := fun h h' => by rw [h] at h'; cases h'
      have hlen : decide ((s.n : Int) = 0) = decide (l[i].vers.length = 0) := by rw [← hsn]; simp
      rcases i with _ | j
      · refine ⟨fun h2 => absurd h2 (by simp), fun _ => ?_⟩
        refine ⟨fun h4 => neq53 (a := l[0].lock) (b := Lk.zero) rfl ⟨fun h5 => ?_, fun h5 => ?_⟩, fun h4 => ?_⟩
        · have h6 := h4
          refine key (true) ?_ ?_
          · first | exact habs h4 h6 | exact habs h6 h4 | (unfold cellBad; simp only [prevO, h4, h5]; simp)
          · exact entails_ren [] ⟨rfl, rfl, rfl, rfl, rfl, rfl, rfl, trivial⟩ ⟨rfl, trivial⟩ rfl rfl
        · refine ⟨fun h6 => ⟨fun h7 => ?_, fun h7 => ?_⟩, fun h6 => ?_⟩
          · rw [hlen] at h7
            refine key (true) ?_ ?_
            · first | exact habs h4 h6 | exact habs h6 h4 | (unfold cellBad; simp only [prevO, h4, h5, h6, h7]; simp)
            · exact entails_ren [] ⟨rfl, rfl, rfl, rfl, rfl, rfl, rfl, trivial⟩ ⟨rfl, trivial⟩ rfl rfl
          · rw [hlen] at h7
            refine ⟨fun h8 => ?_, fun h8 => ?_⟩
            · refine key (decide (l[0].lock.data ≠ ByteArray.empty)) ?_ ?_
              · first | exact habs h4 h6 | exact habs h6 h4 | (unfold cellBad; simp only [prevO, h4, h5, h6, h7, h8]; simp)
              · exact entails_ren [] ⟨rfl, rfl, rfl, rfl, rfl, rfl, rfl, trivial⟩ ⟨rfl, trivial⟩ rfl rfl
            · refine key (false) ?_ ?_
              · first | exact habs h4 h6 | exact habs h6 h4 | (unfold cellBad; simp only [prevO, h4, h5, h6, h7, h8]; simp)
              · exact entails_ren [] ⟨rfl, rfl, rfl, rfl, rfl, rfl, rfl, trivial⟩ ⟨rfl, trivial⟩ rfl rfl
          · refine ⟨fun h8 => ?_, fun h8 => ?_⟩
            · refine key (decide (l[0].lock.data ≠ ByteArray.empty)) ?_ ?_
              · first | exact habs h4 h6 | exact habs h6 h4 | (unfold cellBad; simp only [prevO, h4, h5, h6, h8]; simp)
              · exact entails_ren [] ⟨rfl, rfl, rfl, rfl, rfl, rfl, rfl, trivial⟩ ⟨rfl, trivial⟩ rfl rfl
            · refine key (false) ?_ ?_
              · first | exact habs h4 h6 | exact habs h6 h4 | (unfold cellBad; simp only [prevO, h4, h5, h6, h8]; simp)
              · exact entails_ren [] ⟨rfl, rfl, rfl, rfl, rfl, rfl, rfl, trivial⟩ ⟨rfl, trivial⟩ rfl rfl
        · refine ⟨fun h6 => ⟨fun h7 => ?_, fun h7 => ?_⟩, fun h6 => ?_⟩
          · rw [hlen] at h7
            refine key (true) ?_ ?_
            · first | exact habs h4 h6 | exact habs h6 h4 | (unfold cellBad; simp only [prevO, h4, h6, h7]; simp)
            · exact entails_ren [] ⟨rfl, rfl, rfl, rfl, rfl, rfl, rfl, trivial⟩ ⟨rfl, trivial⟩ rfl rfl
          · rw [hlen] at h7
            refine ⟨fun h8 => ?_, fun h8 => ?_⟩
            · refine key (decide (l[0].lock.data ≠ ByteArray.empty)) ?_ ?_
              · first | exact habs h4 h6 | exact habs h6 h4 | (unfold cellBad; simp only [prevO, h4, h6, h7, h8]; simp)
              · exact entails_ren [] ⟨rfl, rfl, rfl, rfl, rfl, rfl, rfl, trivial⟩ ⟨rfl, trivial⟩ rfl rfl
            · refine key (false) ?_ ?_
              · first | exact habs h4 h6 | exact habs h6 h4 | (unfold cellBad; simp only [prevO, h4, h6, h7, h8]; simp)
              · exact entails_ren [] ⟨rfl, rfl, rfl, rfl, rfl, rfl, rfl, trivial⟩ ⟨rfl, trivial⟩ rfl rfl
          · refine ⟨fun h8 => ?_, fun h8 => ?_⟩
            · refine key (decide (l[0].lock.data ≠ ByteArray.empty)) ?_ ?_
              · first | exact habs h4 h6 | exact habs h6 h4 | (unfold cellBad; simp only [prevO, h4, h6, h8]; simp)
              · exact entails_ren [] ⟨rfl, rfl, rfl, rfl, rfl, rfl, rfl, trivial⟩ ⟨rfl, trivial⟩ rfl rfl
            · refine key (false) ?_ ?_
              · first | exact habs h4 h6 | exact habs h6 h4 | (unfold cellBad; simp only [prevO, h4, h6, h8]; simp)
              · exact entails_ren [] ⟨rfl, rfl, rfl, rfl, rfl, rfl, rfl, trivial⟩ ⟨rfl, trivial⟩ rfl rfl
      · have hjl : j < l.length := by omega
        obtain ⟨b, s2, hB, hrb, _⟩ := h.at (List.getElem?_eq_getElem hjl)
        have hpv : prevO l (j + 1) = some l[j] := List.getElem?_eq_getElem hjl
        refine ⟨fun _ => ⟨(j : Int), by rw [i64_in _ (by omega)]; omega, ⟨j, b, _, rfl, by omega, hB, hrb, ⟨fun h3 => ?_, fun h3 => ?_⟩⟩⟩, fun h2 => absurd h2 (by simp)⟩
        · rw [sle_not] at h3
          have h4 : true = true := rfl
          have h6 := h4
          refine key (true) ?_ ?_
          · first | exact habs h4 h6 | exact habs h6 h4 | (unfold cellBad; simp only [hpv, h3]; simp)
          · exact entails_ren [] ⟨rfl, rfl, rfl, rfl, rfl, rfl, rfl, trivial⟩ ⟨rfl, trivial⟩ rfl rfl
        · rw [sle_not] at h3
          refine ⟨fun h4 => neq53 (a := l[j + 1].lock) (b := Lk.zero) rfl ⟨fun h5 => ?_, fun h5 => ?_⟩, fun h4 => ?_⟩
          · have h6 := h4
            refine key (true) ?_ ?_
            · first | exact habs h4 h6 | exact habs h6 h4 | (unfold cellBad; simp only [hpv, h3, h4, h5]; simp)
            · exact entails_ren [] ⟨rfl, rfl, rfl, rfl, rfl, rfl, rfl, trivial⟩ ⟨rfl, trivial⟩ rfl rfl
          · refine ⟨fun h6 => ⟨fun h7 => ?_, fun h7 => ?_⟩, fun h6 => ?_⟩
            · rw [hlen] at h7
              refine key (true) ?_ ?_
              · first | exact habs h4 h6 | exact habs h6 h4 | (unfold cellBad; simp only [hpv, h3, h4, h5, h6, h7]; simp)
              · exact entails_ren [] ⟨rfl, rfl, rfl, rfl, rfl, rfl, rfl, trivial⟩ ⟨rfl, trivial⟩ rfl rfl
            · rw [hlen] at h7
              refine ⟨fun h8 => ?_, fun h8 => ?_⟩
              · refine key (decide (l[j + 1].lock.data ≠ ByteArray.empty)) ?_ ?_
                · first | exact habs h4 h6 | exact habs h6 h4 | (unfold cellBad; simp only [hpv, h3, h4, h5, h6, h7, h8]; simp)
                · exact entails_ren [] ⟨rfl, rfl, rfl, rfl, rfl, rfl, rfl, trivial⟩ ⟨rfl, trivial⟩ rfl rfl
              · refine key (false) ?_ ?_
                · first | exact habs h4 h6 | exact habs h6 h4 | (unfold cellBad; simp only [hpv, h3, h4, h5, h6, h7, h8]; simp)
                · exact entails_ren [] ⟨rfl, rfl, rfl, rfl, rfl, rfl, rfl, trivial⟩ ⟨rfl, trivial⟩ rfl rfl
            · refine ⟨fun h8 => ?_, fun h8 => ?_⟩
              · refine key (decide (l[j + 1].lock.data ≠ ByteArray.empty)) ?_ ?_
                · first | exact habs h4 h6 | exact habs h6 h4 | (unfold cellBad; simp only [hpv, h3, h4, h5, h6, h8]; simp)
                · exact entails_ren [] ⟨rfl, rfl, rfl, rfl, rfl, rfl, rfl, trivial⟩ ⟨rfl, trivial⟩ rfl rfl
              · refine key (false) ?_ ?_
                · first | exact habs h4 h6 | exact habs h6 h4 | (unfold cellBad; simp only [hpv, h3, h4, h5, h6, h8]; simp)
                · exact entails_ren [] ⟨rfl, rfl, rfl, rfl, rfl, rfl, rfl, trivial⟩ ⟨rfl, trivial⟩ rfl rfl
          · refine ⟨fun h6 => ⟨fun h7 => ?_, fun h7 => ?_⟩, fun h6 => ?_⟩
            · rw [hlen] at h7
              refine key (true) ?_ ?_
              · first | exact habs h4 h6 | exact habs h6 h4 | (unfold cellBad; simp only [hpv, h3, h4, h6, h7]; simp)
              · exact entails_ren [] ⟨rfl, rfl, rfl, rfl, rfl, rfl, rfl, trivial⟩ ⟨rfl, trivial⟩ rfl rfl
            · rw [hlen] at h7
              refine ⟨fun h8 => ?_, fun h8 => ?_⟩
              · refine key (decide (l[j + 1].lock.data ≠ ByteArray.empty)) ?_ ?_
                · first | exact habs h4 h6 | exact habs h6 h4 | (unfold cellBad; simp only [hpv, h3, h4, h6, h7, h8]; simp)
                · exact entails_ren [] ⟨rfl, rfl, rfl, rfl, rfl, rfl, rfl, trivial⟩ ⟨rfl, trivial⟩ rfl rfl
              · refine key (false) ?_ ?_
                · first | exact habs h4 h6 | exact habs h6 h4 | (unfold cellBad; simp only [hpv, h3, h4, h6, h7, h8]; simp)
                · exact entails_ren [] ⟨rfl, rfl, rfl, rfl, rfl, rfl, rfl, trivial⟩ ⟨rfl, trivial⟩ rfl rfl
            · refine ⟨fun h8 => ?_, fun h8 => ?_⟩
              · refine key (decide (l[j + 1].lock.data ≠ ByteArray.empty)) ?_ ?_
                · first | exact habs h4 h6 | exact habs h6 h4 | (unfold cellBad; simp only [hpv, h3, h4, h6, h8]; simp)
                · exact entails_ren [] ⟨rfl, rfl, rfl, rfl, rfl, rfl, rfl, trivial⟩ ⟨rfl, trivial⟩ rfl rfl
              · refine key (false) ?_ ?_
                · first | exact habs h4 h6 | exact habs h6 h4 | (unfold cellBad; simp only [hpv, h3, h4, h6, h8]; simp)
                · exact entails_ren [] ⟨rfl, rfl, rfl, rfl, rfl, rfl, rfl, trivial⟩ ⟨rfl, trivial⟩ rfl rfl
    refine ⟨fun h2 => ?_, fun h2 => ?_⟩
    · exact ⟨[], retS fun ρ => by
        rw [show cellsOk l l.length = false from range_all_false hlt (by simp only [List.getElem?_eq_getElem hlt, h2]; rfl)]; rfl⟩
    refine ⟨[], ⟨⟨Nat, fun k => k ≤ s.n ∧ versOk l[i].vers k = true, fun k => s.n - k, fun k => [(63, ai k), (62, ai s.n), (61, asl s), (9, ai i), (8, ai x.n), (7, asl x), (4, .one (.ptr 4 0)), (0, asl x)], fun _ => [(4, .box (vmap (l[i].c s)) 55)], fun _ => m,
      ⟨0, ⟨by omega, rfl⟩, entails_ren [] ⟨rfl, rfl, rfl, rfl, rfl, rfl, rfl, rfl, trivial⟩ ⟨rfl, trivial⟩ rfl rfl⟩, fun k hk => ?_⟩⟩⟩
    obtain ⟨hkn, hkor⟩ := hk
    refine ⟨fun h5 => ?_, fun h5 => ?_⟩
    · have h5 : k < s.n := by simpa using h5
      have hkl : k < l[i].vers.length := by omega
      obtain ⟨b, hB, hrb⟩ := hv.at (fun _ => rfl) (List.getElem?_eq_getElem hkl)
      refine ⟨k, b, _, rfl, h5, hB, hrb, ?_⟩
      refine draw_cut [(91, .one (.v (.bool (verBad (prevO l[i].vers k) l[i].vers[k])))), (63, ai k), (62, ai s.n), (61, asl s), (9, ai i), (8, ai x.n), (7, asl x), (4, .one (.ptr 4 0)), (0, asl x)] [(4, .box (vmap (l[i].c s)) 55)] m ?_ ?_
      · have vkey : ∀ {E : Env} {F : Fr} {B : Ents} (b : Bool), verBad (prevO l[i].vers k) l[i].vers[k] = b → Entails E F B m [(91, .one (.v (.bool (b)))), (63, ai k), (62, ai s.n), (61, asl s), (9, ai i), (8, ai x.n), (7, asl x), (4, .one (.ptr 4 0)), (0, asl x)] [(4, .box (vmap (l[i].c s)) 55)] m → Entails E F B m [(91, .one (.v (.bool (verBad (prevO l[i].vers k) l[i].vers[k])))), (63, ai k), (62, ai s.n), (61, asl s), (9, ai i), (8, ai x.n), (7, asl x), (4, .one (.ptr 4 0)), (0, asl x)] [(4, .box (vmap (l[i].c s)) 55)] m := fun b hb he => by rw [hb]; exact he
        refine draw Γok [(4, 4), (11, 6), (17, 6), (20, 6)] [12] (.take 0 (.take 1 (.take 2 (.take 3 (.take 4 (.take 5 (.take 6 (.take 7 (.take 8 (.take 9 (.take 10 (.take 11 (.pcall 12 (.take 13 (.take 14 (.take 15 (.take 16 (.take 17 (.take 18 (.take 19 (.take 20 (.take 21 (.take 22 (.take 23 .done)))))))))))))))))))))))) (by kernel_rfl) ?_
        rcases k with _ | q
        · refine ⟨fun h9 => absurd h9 (by simp), fun _ => ?_⟩
          refine ⟨fun h6 => ?_, fun h6 => ?_⟩
          · refine vkey (decide (l[i].vers[0].data ≠ ByteArray.empty)) ?_ ?_
            · unfold verBad; simp only [prevO, h6]; simp
            · exact entails_ren [] ⟨rfl, rfl, rfl, rfl, rfl, rfl, rfl, rfl, rfl, trivial⟩ ⟨rfl, trivial⟩ rfl rfl
          · refine vkey (false) ?_ ?_
            · unfold verBad; simp only [prevO, h6]; simp
            · exact entails_ren [] ⟨rfl, rfl, rfl, rfl, rfl, rfl, rfl, rfl, rfl, trivial⟩ ⟨rfl, trivial⟩ rfl rfl
        · have hql : q < l[i].vers.length := by omega
          obtain ⟨b2, hB2, hrb2⟩ := hv.at (fun _ => rfl) (List.getElem?_eq_getElem hql)
          have hpv : prevO l[i].vers (q + 1) = some l[i].vers[q] := List.getElem?_eq_getElem hql
          refine ⟨fun _ => ⟨(q : Int), by rw [i64_in _ (by omega)]; omega, ⟨q, b2, _, rfl, by omega, hB2, hrb2, ?_⟩⟩, fun h9 => absurd h9 (by simp)⟩
          refine pureS (f53 m l[i].vers[q].at_ l[i].vers[q + 1].at_) rfl rfl ?_
          refine ⟨fun h7 => ?_, fun h7 => ?_⟩
          · refine vkey (true) ?_ ?_
            · unfold verBad; simp only [hpv, h7]; simp
            · exact entails_ren [] ⟨rfl, rfl, rfl, rfl, rfl, rfl, rfl, rfl, rfl, trivial⟩ ⟨rfl, trivial⟩ rfl rfl
          · refine ⟨fun h6 => ?_, fun h6 => ?_⟩
            · refine vkey (decide (l[i].vers[q + 1].data ≠ ByteArray.empty)) ?_ ?_
              · unfold verBad; simp only [hpv, h7, h6]; simp
              · exact entails_ren [] ⟨rfl, rfl, rfl, rfl, rfl, rfl, rfl, rfl, rfl, trivial⟩ ⟨rfl, trivial⟩ rfl rfl
            · refine vkey (false) ?_ ?_
              · unfold verBad; simp only [hpv, h7, h6]; simp
              · exact entails_ren [] ⟨rfl, rfl, rfl, rfl, rfl, rfl, rfl, rfl, rfl, trivial⟩ ⟨rfl, trivial⟩ rfl rfl
      refine ⟨fun h6 => ?_, fun h6 => ?_⟩
      · exact ⟨[], retS fun ρ => by
          rw [show cellsOk l l.length = false from range_all_false hlt (by
            simp only [List.getElem?_eq_getElem hlt]
            rw [show versOk l[i].vers l[i].vers.length = false from range_all_false hkl (by simp only [List.getElem?_eq_getElem hkl, h6]; rfl)]
            simp)]; rfl⟩
      · refine ⟨((k + 1 : Nat) : Int), i64_in _ (by omega), ?_⟩
        refine ⟨[], k + 1, ⟨by omega, ?_⟩, by show s.n - (k + 1) < s.n - k; omega, entails_ren [] ⟨rfl, rfl, rfl, rfl, rfl, rfl, rfl, rfl, trivial⟩ ⟨rfl, trivial⟩ rfl rfl⟩
        rw [versOk, range_all_succ, ← versOk, hkor]
        simp only [List.getElem?_eq_getElem hkl, h6]; rfl
    · have h5 : k = l[i].vers.length := by have : ¬ k < s.n := by simpa using h5
                                           omega
      subst h5
      refine ⟨((i + 1 : Nat) : Int), i64_in _ (by omega), ?_⟩
      refine ⟨[], i + 1, ⟨by omega, ?_⟩, by show x.n - (i + 1) < x.n - i; omega, entails_ren [] ⟨rfl, rfl, rfl, rfl, trivial⟩ trivial rfl rfl⟩
      rw [cellsOk, range_all_succ, ← cellsOk, hor]
      simp only [List.getElem?_eq_getElem hlt, h2, hkor]; rfl
  · have h1 : i = l.length := by have : ¬ i < x.n := by simpa using h1
                                 omega
    subst h1
    exact ⟨[], retS fun ρ => by rw [hor]; rfl⟩
end Vc
end

section
open Go Go.Proofs Vc
namespace Vc
set_option maxHeartbeats 1000000
theorem f13 (m : Mem) (p : Part) (xc xr xd : Sl) (h : PartRow m p xc xr xd) : FnS Try.prog 13 m [av (p.c xc xr xd)] (.bool (mayR p)) := by
  refine fnS (args := [.agg (vmap (p.c xc xr xd))]) Γok mix Try.func13 rfl (by kernel_rfl) Try.ntmps13 rfl rfl (by simp) (okv_cons (okL_v rfl) okv_nil) ?_
  intro W
  refine ⟨[], callS (f30 m xc p.cells h.cells) rfl rfl ?_⟩
  repeat' (first | (refine ⟨[], callS (f31 m _ _ h.records) rfl rfl ?_⟩) | (refine ⟨[], callS (f31 m _ _ h.done) rfl rfl ?_⟩) | (refine ⟨[], retS fun ρ => (?_ : Value.bool _ = Value.bool _)⟩; refine congrArg Value.bool ?_; show _ = mayR p; unfold mayR; simp_all; done) | (refine ⟨[], retS fun ρ => (?_ : Value.bool _ = Value.bool _)⟩; refine congrArg Value.bool ?_; show _ = mayR p; unfold mayR; simp_all; omega) | (refine ⟨fun _ => ?_, fun _ => ?_⟩))
end Vc
end

section
open Go Go.Proofs Vc
namespace Vc
theorem chain_up {α : Type} {R : α → α → Prop} (ht : ∀ a b c, R a b → R b c → R a c) {l : List α} (h : ∀ k a b, l[k]? = some a → l[k + 1]? = some b → R a b) : ∀ (i j : Nat) (a b : α), i < j → l[i]? = some a → l[j]? = some b → R a b := by
  intro i j
  induction j with
  | zero => intro a b hij; omega
  | succ j ih =>
    intro a b hij ha hb
    by_cases h1 : i = j
    · subst h1; exact h i a b ha hb
    · have hlt : j + 1 < l.length := (List.getElem?_eq_some_iff.1 hb).1
      have hj : l[j]? = some l[j] := List.getElem?_eq_getElem (by omega)
      exact ht a _ b (ih a _ (by omega) ha hj) (h j _ b hj hb)
theorem versOk_up {l : List Ver} (h : versOk l l.length = true) : VersUp l := by
  refine chain_up (R := fun a b : Ver => a.at_.less b.at_ = true) (fun a b c => less_trans) (fun k a b ha hb => ?_)
  have hlt : k + 1 < l.length := (List.getElem?_eq_some_iff.1 hb).1
  have h1 := List.all_eq_true.1 h (k + 1) (List.mem_range.2 hlt)
  simp only [hb] at h1
  unfold verBad at h1
  simp only [prevO, ha] at h1
  simp at h1
  exact h1.2
theorem cellsOk_up {l : List Cell} (h : cellsOk l l.length = true) : Up l := by
  have hh : ∀ k c, l[k]? = some c → cellBad (prevO l k) c = false ∧ versOk c.vers c.vers.length = true := by
    intro k c hk
    have h1 := List.all_eq_true.1 h k (List.mem_range.2 (List.getElem?_eq_some_iff.1 hk).1)
    simp only [hk] at h1
    simpa using h1
  refine ⟨chain_up (R := fun a b : Cell => sLt a.key b.key = true) (fun a b c => sLt_trans) (fun k a b ha hb => ?_), fun c hc => ?_⟩
  · have h1 := (hh (k + 1) b hb).1
    unfold cellBad at h1
    simp only [prevO, ha] at h1
    simp at h1
    exact h1.1.1.1
  · obtain ⟨k, hk⟩ := List.mem_iff_getElem?.1 hc
    exact versOk_up (hh k c hk).2
theorem mayR_up {p : Part} (h : mayR p = true) : Up p.cells ∧ 0 ≤ p.epoch ∧ p.epoch ≤ 1099511627776 := by
  unfold mayR at h
  simp only [Bool.and_eq_true, decide_eq_true_eq] at h
  exact ⟨cellsOk_up h.1.1.1.1.1, h.1.1.1.1.2, h.1.1.1.2⟩
theorem light_small {p : Part} (h : lightPart p = true) : SmallP p ∧ p.cells.length ≤ 60 := by
  unfold lightPart lightCells at h
  simp only [Bool.and_eq_true, decide_eq_true_eq, List.all_eq_true] at h
  obtain ⟨⟨⟨h1, h2⟩, h3⟩, h4⟩ := h
  refine ⟨⟨⟨by omega, fun c hc => ?_⟩, by omega, by omega⟩, h1⟩
  have := h2 c hc
  unfold lightCell at this
  simp only [Bool.and_eq_true, decide_eq_true_eq] at this
  omega
theorem lightR_writes {k : Cmd} (h : lightR k = true) : k.writes.length < 100 := by
  unfold lightR at h
  split at h
  · cases h
  · split at h
    · cases h
    · simp only [Bool.and_eq_true, decide_eq_true_eq] at h
      exact h.2

/-! ### What the commands keep -/
theorem up_pw {α : Type} {R : α → α → Prop} {l : List α} : (∀ (i j : Nat) (a b : α), i < j → l[i]? = some a → l[j]? = some b → R a b) ↔ l.Pairwise R := by
  rw [List.pairwise_iff_getElem]
  refine ⟨fun h i j hi hj hij => h i j _ _ hij (List.getElem?_eq_getElem hi) (List.getElem?_eq_getElem hj), fun h i j a b hij ha hb => ?_⟩
  obtain ⟨hi, rfl⟩ := List.getElem?_eq_some_iff.1 ha
  obtain ⟨hj, rfl⟩ := List.getElem?_eq_some_iff.1 hb
  exact h i j hi hj hij
theorem keysUp_pw {l : List Cell} : KeysUp l ↔ l.Pairwise (fun a b : Cell => sLt a.key b.key = true) := up_pw (R := fun a b : Cell => sLt a.key b.key = true)
theorem versUp_pw {l : List Ver} : VersUp l ↔ l.Pairwise (fun a b : Ver => a.at_.less b.at_ = true) := up_pw (R := fun a b : Ver => a.at_.less b.at_ = true)
theorem withR_up {l : List Ver} (h : VersUp l) (v : Ver) : VersUp (withR l v) := by
  rw [versUp_pw] at h ⊢
  unfold withR
  rw [List.append_assoc, List.pairwise_append]
  refine ⟨h.filter _, ?_, fun a ha b hb => ?_⟩
  · rw [List.singleton_append, List.pairwise_cons]
    exact ⟨fun b hb => (List.mem_filter.1 hb).2, h.filter _⟩
  · have h1 : a.at_.less v.at_ = true := (List.mem_filter.1 ha).2
    rw [List.singleton_append, List.mem_cons] at hb
    rcases hb with rfl | hb
    · exact h1
    · exact less_trans h1 (List.mem_filter.1 hb).2
theorem withR_len {l : List Ver} (h : VersUp l) (v : Ver) : (withR l v).length ≤ l.length + 1 := by
  rw [withR_put h]
  have := upto_le l v.at_
  split
  · simp
  · simp; omega
theorem filterMap_up {f : Cell → Option Cell} {l : List Cell} (h : Up l) (hk : ∀ c d, f c = some d → d.key = c.key) (hv : ∀ c d, VersUp c.vers → f c = some d → VersUp d.vers) : Up (l.filterMap f) := by
  refine ⟨?_, fun d hd => ?_⟩
  · rw [keysUp_pw]
    refine List.Pairwise.filterMap f (fun a a' haa b hb b' hb' => ?_) (keysUp_pw.1 h.1)
    rw [hk a b hb, hk a' b' hb']; exact haa
  · obtain ⟨c, hc, hf⟩ := List.mem_filterMap.1 hd
    exact hv c d (h.2 c hc) hf
theorem settleC_key {y : Tri} {yes : Bool} {c d : Cell} (h : settleC y yes c = some d) : d.key = c.key := by
  unfold settleC at h
  repeat' split at h
  all_goals first | (cases h; done) | (cases h; rfl)
theorem settleC_vers {y : Tri} {yes : Bool} {c d : Cell} (h : settleC y yes c = some d) : d.vers = c.vers ∨ ∃ v, d.vers = withR c.vers v := by
  unfold settleC at h
  repeat' split at h
  all_goals first | (cases h; done) | (cases h; exact .inl rfl) | (cases h; exact .inr ⟨_, rfl⟩)
theorem trimC_key {s : Stamp} {c d : Cell} (h : trimC s c = some d) : d.key = c.key := by
  unfold trimC at h
  split at h <;> cases h
  rfl
theorem trimC_vers {s : Stamp} {c d : Cell} (h : trimC s c = some d) : d.vers = c.vers.drop (trimK s c.vers) := by
  unfold trimC at h
  split at h <;> cases h
  rfl
theorem drop_up {l : List Ver} (h : VersUp l) (n : Nat) : VersUp (l.drop n) := by
  rw [versUp_pw] at h ⊢; exact h.sublist (List.drop_sublist n l)

structure Inv (n : Nat) (p : Part) : Prop where
  up : Up p.cells
  e0 : 0 ≤ p.epoch
  e1 : p.epoch ≤ 1099511627776
  cells : p.cells.length ≤ 100 * n
  vers : ∀ c ∈ p.cells, c.vers.length ≤ n
  recs : p.records.length ≤ n
  done : p.done.length ≤ n
theorem Inv.succ {n : Nat} {p : Part} (h : Inv n p) : Inv (n + 1) p :=
  ⟨h.up, h.e0, h.e1, by have := h.cells; omega, fun c hc => by have := h.vers c hc; omega, by have := h.recs; omega, by have := h.done; omega⟩
theorem Inv.small {n : Nat} {p : Part} (h : Inv n p) (hn : n ≤ 10000) : SmallP p :=
  ⟨⟨by have := h.cells; omega, fun c hc => by have := h.vers c hc; omega⟩, by have := h.recs; omega, by have := h.done; omega⟩
theorem locksR_up {cells : List Cell} (h : Up cells) (k : Cmd) (l : List Wr) : Up (locksR k cells l) := by
  unfold locksR
  induction l generalizing cells with
  | nil => exact h
  | cons w l ih =>
    refine ih ⟨lockR_keys h.1 _ _, lockR_vers (P := VersUp) (fun i j a b _ ha => by cases ha) h.2⟩
theorem locksR_len (cells : List Cell) (k : Cmd) (l : List Wr) : (locksR k cells l).length ≤ cells.length + l.length := by
  unfold locksR
  induction l generalizing cells with
  | nil => exact Nat.le_refl _
  | cons w l ih =>
    have h1 := ih (lockR cells w (lk0 k))
    have h2 := lockR_len cells w (lk0 k)
    simp only [List.foldl_cons, List.length_cons]
    omega
theorem locksR_vers {cells : List Cell} {n : Nat} (h : ∀ c ∈ cells, c.vers.length ≤ n) (k : Cmd) (l : List Wr) : ∀ c ∈ locksR k cells l, c.vers.length ≤ n := by
  unfold locksR
  induction l generalizing cells with
  | nil => exact h
  | cons w l ih => exact ih (lockR_vers (P := fun v => v.length ≤ n) (Nat.zero_le _) h)
theorem Inv.apply {n : Nat} {p : Part} (h : Inv n p) {k : Cmd} (hk : k.writes.length ≤ 100) : Inv (n + 1) (applyR p k).1 := by
  have h0 := h.succ
  unfold applyR
  split
  · unfold leaseR
    split
    · exact h0
    · rename_i hc
      simp only [not_or, Decidable.not_not] at hc
      have := h.e0
      exact ⟨h0.up, by show 0 ≤ k.epoch; omega, by show k.epoch ≤ _; omega, h0.cells, h0.vers, h0.recs, h0.done⟩
  split
  · exact h0
  unfold doesR
  repeat' split
  · unfold readR
    repeat' split
    · exact h0
    · exact h0
    · exact h0
    · exact ⟨h0.up, h0.e0, h0.e1, h0.cells, h0.vers, h0.recs, h0.done⟩
  · unfold prepareR
    repeat' split
    · exact h0
    · exact h0
    · exact h0
    · exact h0
    · exact h0
    · have h1 := locksR_len p.cells k k.writes
      have h2 := h.cells
      exact ⟨locksR_up h.up _ _, h0.e0, h0.e1, by show (locksR k p.cells k.writes).length ≤ _; omega, locksR_vers h0.vers _ _, h0.recs, h0.done⟩
  · unfold decideR
    split
    · exact h0
    · exact ⟨h0.up, h0.e0, h0.e1, h0.cells, h0.vers, by show (p.records ++ [oc k]).length ≤ _; have := h.recs; simp; omega, h0.done⟩
  · unfold settlePR
    refine ⟨filterMap_up h.up (fun c d => settleC_key) (fun c d hv hf => ?_), h0.e0, h0.e1, ?_, fun d hd => ?_, h0.recs, ?_⟩
    · rcases settleC_vers hf with h1 | ⟨v, h1⟩
      · rw [h1]; exact hv
      · rw [h1]; exact withR_up hv v
    · have := List.length_filterMap_le (settleC k.who k.yes) p.cells
      have h2 := h.cells
      show (p.cells.filterMap _).length ≤ _
      omega
    · obtain ⟨c, hc, hf⟩ := List.mem_filterMap.1 hd
      have hl := h.vers c hc
      rcases settleC_vers hf with h1 | ⟨v, h1⟩
      · rw [h1]; omega
      · rw [h1]; have := withR_len (h.up.2 c hc) v; omega
    · show (if _ then _ else _ : List Outc).length ≤ _
      have := h.done
      split
      · omega
      · simp; omega
  · exact ⟨h0.up, h0.e0, h0.e1, h0.cells, h0.vers, h0.recs, h0.done⟩
  · unfold trimPR
    refine ⟨filterMap_up h.up (fun c d => trimC_key) (fun c d hv hf => ?_), h0.e0, h0.e1, ?_, fun d hd => ?_, h0.recs, h0.done⟩
    · rw [trimC_vers hf]; exact drop_up hv _
    · have := List.length_filterMap_le (trimC ⟨max p.low (min k.wall p.closed), 0⟩) p.cells
      have h2 := h.cells
      show (p.cells.filterMap _).length ≤ _
      omega
    · obtain ⟨c, hc, hf⟩ := List.mem_filterMap.1 hd
      have hl := h.vers c hc
      rw [trimC_vers hf, List.length_drop]; omega
  · exact h0
theorem ownR_writes (p : Part) (k : Cmd) (o : Bool) : (ownR p k o).writes = k.writes := by
  unfold ownR; split <;> rfl
end Vc
end

section
open Go Go.Proofs Vc
namespace Vc
set_option maxHeartbeats 1000000

def p0 : Part := ⟨0, 0, ⟨0, 0⟩, 0, 0, [], [], []⟩
def bk1 : Cmd := ⟨1, 1, 2, 0, ⟨0, 0, 0, 0⟩, ⟨0, 0⟩, 0, false, [], []⟩
def bw : Wr := ⟨⟨#[107]⟩, false, ⟨#[120]⟩⟩
def bk2 : Cmd := ⟨3, 1, 0, 0, ⟨1, 0, 0, 0⟩, ⟨5, 0⟩, 0, false, [], [bw]⟩
def bs : Span := ⟨⟨#[97]⟩, ⟨#[122]⟩⟩
def bk3 : Cmd := ⟨2, 1, 0, 0, ⟨0, 0, 0, 0⟩, ⟨9, 0⟩, 0, false, [bs], []⟩
theorem begun_facts : (applyR p0 bk1).2.err = 0 ∧ (applyR p0 bk1).1.holder = 2 ∧ (applyR (applyR p0 bk1).1 bk2).2.err = 0 ∧ (applyR (applyR (applyR p0 bk1).1 bk2).1 bk3).2.err = 20 ∧ mayR (applyR (applyR p0 bk1).1 bk2).1 = true :=
  ⟨by kernel_rfl, by kernel_rfl, by kernel_rfl, by kernel_rfl, by kernel_rfl⟩
theorem inv_p0 : Inv 0 p0 := ⟨⟨fun i j a b _ h => by simp [p0] at h, fun c h => by simp [p0] at h⟩, by decide, by decide, Nat.le_refl _, fun c h => by simp [p0] at h, Nat.le_refl _, Nat.le_refl _⟩
theorem flatNil {α : Type} (f : α → List Value) (sz : Nat) (m : Mem) : Flat f sz m Sl.nil [] := ⟨⟨by simp [Sl.nil], Nat.le_refl _, Nat.zero_le _, fun h => absurd h (by decide)⟩, rfl⟩
theorem cellNil (m : Mem) : CellRow m Sl.nil [] := ⟨[], rfl, flatNil _ _ _, fun p h => by cases h⟩
theorem partNil (m : Mem) : PartRow m p0 Sl.nil Sl.nil Sl.nil := ⟨cellNil m, flatNil _ _ _, flatNil _ _ _⟩

theorem flat_row {α : Type} {f : α → List Value} {sz : Nat} {l : List α} {m m1 : Mem} {A : Option Addr} {c : Nat} (hd : Mem.Disj m m1) (h1 : (l.flatMap f).length = l.length * sz) (h2 : l.length ≤ c) (h3 : c ≤ maxLen) (h4 : 0 < l.length → ∃ a, A = some a ∧ MemReads m1 a (l.flatMap f)) : Flat f sz (m.join m1) ⟨A, l.length, c⟩ l :=
  ⟨⟨h1, h2, h3, fun hp => by obtain ⟨a, ha, hr⟩ := h4 hp; exact ⟨a, ha, hr.mono (Mem.join_right hd)⟩⟩, rfl⟩
theorem part_fz {m : Mem} {p : Part} {g : Gs} (hg : GOk g p.cells m) {A : Option Addr} {c : Nat} {m1 : Mem} (hd1 : Mem.Disj m m1) (a1 : g.cells.length = g.length * 12) (a2 : g.length ≤ c) (a3 : c ≤ maxLen) (a4 : 0 < g.length → ∃ a, A = some a ∧ MemReads m1 a g.cells)
    {A2 : Option Addr} {c2 : Nat} {m2 : Mem} (hd2 : Mem.Disj (m.join m1) m2) (b1 : (p.records.flatMap Outc.c).length = p.records.length * 7) (b2 : p.records.length ≤ c2) (b3 : c2 ≤ maxLen) (b4 : 0 < p.records.length → ∃ a, A2 = some a ∧ MemReads m2 a (p.records.flatMap Outc.c))
    {A3 : Option Addr} {c3 : Nat} {m3 : Mem} (hd3 : Mem.Disj ((m.join m1).join m2) m3) (d1 : (p.done.flatMap Outc.c).length = p.done.length * 7) (d2 : p.done.length ≤ c3) (d3 : c3 ≤ maxLen) (d4 : 0 < p.done.length → ∃ a, A3 = some a ∧ MemReads m3 a (p.done.flatMap Outc.c)) :
    PartRow (((m.join m1).join m2).join m3) p ⟨A, g.length, c⟩ ⟨A2, p.records.length, c2⟩ ⟨A3, p.done.length, c3⟩ :=
  ⟨(hg.row hd1 a1 a2 a3 a4).mono (Mem.le_trans (Mem.le_join _ _) (Mem.le_join _ _)), (flat_row hd2 b1 b2 b3 b4).mono (Mem.le_join _ _), flat_row hd3 d1 d2 d3 d4⟩

theorem callApply {E : Env} {f : FuncId} {args : List AV} {d : Option Nat} {F : Fr} {B : Ents} {m : Mem} {K : Cont} {Q : SPost} {o : Part × Rep} (base : Nat) (hf : FnX E.P f m args [] (ApplyOut m o) noPanic) (hrd : renAVs (renOf [] base) args = args)
    (hc : callOk [] base [] [] F B [] E.pins = true)
    (hK : ∀ g mn, Mem.Disj m mn → GOk g o.1.cells (m.join mn) → putK E d (.tup [(true, o.1.lv (.own (base + 1)) (.own (base + 2)) (.own (base + 3))), (true, o.2.lv (.own (base + 14)))]) F ([(base + 1, crow g), (base + 2, orow o.1.records), (base + 3, orow o.1.done), (base + 14, prow o.2.pairs)] ++ restB [] B) (m.join mn) K) : CallNode E f args d F B m K Q :=
  KeptNode.call (callXK [] base [] hc trivial ⟨args, hrd, hf⟩ (fun u0 B0 mn hd h => by
    obtain ⟨g, hg, rfl, rfl⟩ := h
    exact ⟨rfl, rfl, hK g mn hd hg⟩) (fun _ _ _ _ h => h.elim))

theorem f5 (m : Mem) : FnS Try.prog 5 m [] (.bool true) := by
  refine fnS (args := []) Γok mix Try.func5 rfl (by kernel_rfl) Try.ntmps5 rfl rfl (by simp) okv_nil ?_
  intro W
  obtain ⟨e1, e2, e3, e4, e5⟩ := begun_facts
  have i1 : Inv 1 (applyR p0 bk1).1 := inv_p0.apply (by decide)
  have i2 : Inv 2 (applyR (applyR p0 bk1).1 bk2).1 := i1.apply (by decide)
  have c1 := fun (m : Mem) => f9 m p0 Sl.nil Sl.nil Sl.nil bk1 Sl.nil Sl.nil (partNil m) ⟨flatNil _ _ _, flatNil _ _ _⟩ inv_p0.up (inv_p0.small (by decide)) (by decide) (by decide) (by decide)
  have c2 := fun (m : Mem) (xc xr xd xw : Sl) hp hw => f9 m (applyR p0 bk1).1 xc xr xd bk2 Sl.nil xw hp ⟨flatNil _ _ _, hw⟩ i1.up (i1.small (by decide)) (by have := i1.cells; show _ + 1 ≤ _; omega) i1.e0 i1.e1
  have c3 := fun (m : Mem) (xc xr xd xs : Sl) hp hw => f9 m (applyR (applyR p0 bk1).1 bk2).1 xc xr xd bk3 xs Sl.nil hp ⟨hw, flatNil _ _ _⟩ i2.up (i2.small (by decide)) (by have := i2.cells; show _ + 0 ≤ _; omega) i2.e0 i2.e1
  generalize applyR (applyR (applyR p0 bk1).1 bk2).1 bk3 = o3 at e4 c3
  generalize applyR (applyR p0 bk1).1 bk2 = o2 at e3 e5 c2 c3 i2
  generalize applyR p0 bk1 = o1 at e1 e2 c1 c2 i1
  refine ⟨[], callApply 10000 (o := o1) (c1 m) rfl rfl (fun g mn hd hg => ?_)⟩
  refine ⟨[], ⟨[.freeze 10001, .freeze 10002, .freeze 10003, .freeze 10014, .freeze 18, .cut], fun A c m1 hd1 a1 a2 a3 a4 A2 k2 m2 hd2 b1 b2 b3 b4 A3 k3 m3 hd3 d1 d2 d3 d4 A4 k4 m4 hd4 f1 f2 f3 f4 Aw cw mw hdw w1 w2 w3 w4 => ?_⟩⟩
  have hp1 := (part_fz hg hd1 a1 a2 a3 a4 hd2 b1 b2 b3 b4 hd3 d1 d2 d3 d4).mono (Mem.le_trans (Mem.le_join _ m4) (Mem.le_join _ mw))
  have hw : WrRow ((((((m.join mn).join m1).join m2).join m3).join m4).join mw) ⟨Aw, 1, cw⟩ bk2.writes := flat_row (f := Wr.c) (sz := 3) (l := [bw]) hdw w1 w2 w3 w4
  refine cutR [] (F' := [(19, .agg (vmap (bk2.c Sl.nil ⟨Aw, 1, cw⟩))), (14, .agg (vmap (o1.1.c ⟨A, g.length, c⟩ ⟨A2, o1.1.records.length, k2⟩ ⟨A3, o1.1.done.length, k3⟩))), (1, .one (.ptr 1 0)), (2, .one (.ptr 2 0))])
    (B' := [(1, .box (vmap (o1.1.c ⟨A, g.length, c⟩ ⟨A2, o1.1.records.length, k2⟩ ⟨A3, o1.1.done.length, k3⟩)) 31), (2, .box (vmap (o1.2.c ⟨A4, o1.2.pairs.length, k4⟩)) 43)]) ⟨rfl, rfl, rfl, rfl, trivial⟩ ⟨rfl, rfl, trivial⟩ rfl rfl ?_
  generalize (((((m.join mn).join m1).join m2).join m3).join m4).join mw = mA at hp1 hw
  generalize (⟨A, g.length, c⟩ : Sl) = xc at hp1
  generalize (⟨A2, o1.1.records.length, k2⟩ : Sl) = xr at hp1
  generalize (⟨A3, o1.1.done.length, k3⟩ : Sl) = xd at hp1
  generalize (⟨A4, o1.2.pairs.length, k4⟩ : Sl) = xp
  generalize (⟨Aw, 1, cw⟩ : Sl) = xw at hw
  clear a1 a2 a3 a4 b1 b2 b3 b4 d1 d2 d3 d4 f1 f2 f3 f4 w1 w2 w3 w4 hd1 hd2 hd3 hd4 hdw hg hd
  refine callApply 20000 (o := o2) (c2 _ _ _ _ _ hp1 hw) rfl rfl (fun g2 mn2 hdb hg2 => ?_)
  refine ⟨[], ⟨[.freeze 20001, .freeze 20002, .freeze 20003, .freeze 20014, .freeze 27, .cut], fun A c m1 hd1 a1 a2 a3 a4 A2 k2 m2 hd2 b1 b2 b3 b4 A3 k3 m3 hd3 d1 d2 d3 d4 A4 k4 m4 hd4 f1 f2 f3 f4 Aw cw mw hdw w1 w2 w3 w4 => ?_⟩⟩
  have hp2 := (part_fz hg2 hd1 a1 a2 a3 a4 hd2 b1 b2 b3 b4 hd3 d1 d2 d3 d4).mono (Mem.le_trans (Mem.le_join _ m4) (Mem.le_join _ mw))
  have hs : SpanRow ((((((mA.join mn2).join m1).join m2).join m3).join m4).join mw) ⟨Aw, 1, cw⟩ bk3.spans := flat_row (f := Span.c) (sz := 2) (l := [bs]) hdw w1 w2 w3 w4
  refine cutR [] (F' := [(28, .agg (vmap (bk3.c ⟨Aw, 1, cw⟩ Sl.nil))), (24, .agg (vmap (o2.1.c ⟨A, g2.length, c⟩ ⟨A2, o2.1.records.length, k2⟩ ⟨A3, o2.1.done.length, k3⟩))), (1, .one (.ptr 1 0)), (2, .one (.ptr 2 0)), (3, .one (.ptr 3 0)), (4, .one (.ptr 4 0))])
    (B' := [(1, .box (vmap (o1.1.c xc xr xd)) 31), (2, .box (vmap (o1.2.c xp)) 43), (3, .box (vmap (o2.1.c ⟨A, g2.length, c⟩ ⟨A2, o2.1.records.length, k2⟩ ⟨A3, o2.1.done.length, k3⟩)) 31), (4, .box (vmap (o2.2.c ⟨A4, o2.2.pairs.length, k4⟩)) 43)]) ⟨rfl, rfl, rfl, rfl, rfl, rfl, trivial⟩ ⟨rfl, rfl, rfl, rfl, trivial⟩ rfl rfl ?_
  generalize (((((mA.join mn2).join m1).join m2).join m3).join m4).join mw = mB at hp2 hs
  generalize (⟨A, g2.length, c⟩ : Sl) = yc at hp2
  generalize (⟨A2, o2.1.records.length, k2⟩ : Sl) = yr at hp2
  generalize (⟨A3, o2.1.done.length, k3⟩ : Sl) = yd at hp2
  generalize (⟨A4, o2.2.pairs.length, k4⟩ : Sl) = yp
  generalize (⟨Aw, 1, cw⟩ : Sl) = ys at hs
  clear a1 a2 a3 a4 b1 b2 b3 b4 d1 d2 d3 d4 f1 f2 f3 f4 w1 w2 w3 w4 hd1 hd2 hd3 hd4 hdw hg2 hdb
  refine callApply 30000 (o := o3) (c3 _ _ _ _ _ hp2 hs) rfl rfl (fun g3 mn3 hdc hg3 => ?_)
  have hp3 := hp2.mono (Mem.le_join _ mn3)
  refine ⟨fun _ => ⟨fun _ => ⟨fun _ => ⟨fun _ => ⟨[], callS (f13 _ _ _ _ _ hp3) rfl rfl ⟨[], retS fun ρ => by rw [e5]; rfl⟩⟩, fun h => absurd e4 (of_decide_eq_false h)⟩, fun h => absurd e3 (of_decide_eq_false h)⟩, fun h => absurd e2 (of_decide_eq_false h)⟩, fun h => absurd e1 (of_decide_eq_false h)⟩
end Vc
end
