/-
  What each function that the law calls hands back, as a Lean function of what its arguments hold. No condition beyond each theorem.
-/
import Derived.Test.YtohghogmgnommaaW1
set_option linter.all false
set_option linter.unusedVariables false
set_option linter.unusedSimpArgs false
set_option linter.unusedSectionVars false
section
open Go Go.Proofs Vc
namespace Vc

theorem f84 (m : Mem) {a b : Addr} {la ca lb cb : Nat} {c1 c2 : Array Value} {t1 t2 : TypeId} (h1 : m a.block = some (.cells c1 t1 (0, 0))) (h2 : m b.block = some (.cells c2 t2 (0, 0))) (hne : a.block ≠ b.block) (hz : c2.size ≠ 0) :
    FnS Try.prog 84 m [.slice (some a) la ca, .slice (some b) lb cb] (.bool false) := by
  intro W hW
  refine .inr ⟨.bool false, W, ?_, rfl, Go.RowKit.Below.refl _ _⟩
  have g1 := hW _ _ h1
  have g2 := hW _ _ h2
  have hT51 := Γok 51 ⟨.slice 84, 1, 24, [.slice none 0 0]⟩ rfl
  have hT84 := Γok 84 _ rfl
  rw [run_callFunc_extern Try.func84 (by kernel_rfl) (by kernel_rfl) (by kernel_rfl) (e := Extern.SlicesOverlaps.overlaps #[51, 51] #[4]) (by kernel_rfl)]
  rw [Lib.run_overlaps_apart W 51 4 84 (hT51.slice_ rfl) 4 (fun w => hT84.run_sizeOf w) a b la ca lb cb hne t1 t2 c1.size c2.size (by simp [World.shape?, g1]) (by simp [World.shape?, g2]) hz (by simp [World.frozen?, g1]) (by simp [World.frozen?, g1])]
  rfl

set_option maxHeartbeats 2000000 in
theorem f76 (m : Mem) (n i : Nat) (cells vc : List Value) (hi : i ≤ n) (hn : n ≤ 1048576) : FnX Try.prog 76 m [.one (.own 0), ai i, .one (.own 1)] [(0, .own n cells 84 4), (1, .own 1 vc 84 4)]
    (Res (.one (.own 0)) [(0, .own (n + 1) (cells.take (i * 4) ++ vc ++ cells.drop (i * 4)) 84 4)]) noPanic := by
  refine fnXC (args := [.one (.own 0), ai i, .one (.own 1)]) Γok mix Try.func76 rfl (by kernel_rfl) Try.ntmps76 rfl (by simp) (okv_cons trivial (okv_cons rfl (okv_cons trivial okv_nil))) ?_
  intro ρ0 W0
  refine ⟨fun ρ a W hW hF => ?_⟩
  have hmax : 2097152 ≤ maxLen := by decide
  have hm63 := maxLen_le
  obtain ⟨⟨hcl, hs⟩, hone⟩ := hW.own (i := 0) (n := n) (cells := cells) (e := 84) (size := 4) rfl
  obtain ⟨⟨hvl, hv⟩, hvone⟩ := hW.own (i := 1) (n := 1) (cells := vc) (e := 84) (size := 4) rfl
  rcases hv with ⟨A, _, h⟩ | ⟨g1, cap1, cur1, hv, hg1, hnc1, hcm1, hcs1, htk1⟩
  · omega
  have hb1 : blockOf ρ [(0, .own n cells 84 4), (1, .own 1 vc 84 4)] 1 = some g1 := by show rowBlock (ρ.slv 1) = _; rw [hv]; rfl
  have hf1 := hW.fresh 1 g1 hb1
  have hvc : vc.length = 4 := by omega
  rcases hs with ⟨A, hs, h0⟩ | ⟨g0, cap0, cur0, hs, hg0, hnc0, hcm0, hcs0, htk0⟩
  · -- s has no room at all
    subst h0
    obtain rfl : i = 0 := by omega
    have hc0 : cells = [] := List.eq_nil_of_length_eq_zero (by simpa using hcl)
    subst hc0
    refine ⟨ρ, [(0, .one (.v (.slice A 0 0))), (1, ai 0), (2, asl ⟨some ⟨g1, 0, none⟩, 1, cap1 + 1⟩)], [], m.set g1 (.cells cur1 84 (0, 0)), ?_, ?_, ?_⟩
    · refine ⟨0, 0, Nat.le_refl _, Nat.le_refl _, rfl, rfl, ?_⟩
      refine ⟨fun h => absurd h (by simp), fun _ => ⟨fun _ => ?_, fun h => absurd h (by simp)⟩⟩
      refine ⟨[.cut], thawTwo 23 0 24 1 (by decide) (by decide) (v := .slice A 0 0) (n := 0) (cells := []) (t := 84) (size := 4) (v2 := .slice (some ⟨g1, 0, none⟩) 1 (cap1 + 1)) (n2 := 1) (cells2 := vc) (t2 := 84) (size2 := 4) rfl ⟨rfl, by simp, .inl ⟨A, rfl, rfl⟩⟩ rfl ⟨hvl, hvone, .inr ⟨g1, cap1, cur1, rfl, Mem.set_same _ _ _, hf1.1, hnc1, hcm1, hcs1, htk1⟩⟩ (fun b hb => by cases A <;> cases hb) ?_⟩
      exact ⟨by show 0 + 1 ≤ maxLen; omega, by show (0 + 1) * 40 ≤ 140737488355328; omega, fun old => ⟨[], retRes rfl ⟨(by simp : some (Ent.own (0 + 1) ([] ++ vc) 84 4) = some (Ent.own (0 + 1) (([] : List Value).take (0 * 4) ++ vc ++ ([] : List Value).drop (0 * 4)) 84 4)), trivial⟩⟩⟩
    · refine hW.conc (fun b o hb => ?_) (fun b o hb => ?_)
      · rw [Mem.set_other _ _ (by rintro rfl; rw [hf1.1] at hb; cases hb)]; exact hb
      · by_cases h : b = g1
        · subst h; rw [Mem.set_same] at hb; cases hb; exact .inr ⟨⟨1, hb1⟩, hg1⟩
        · rw [Mem.set_other _ _ h] at hb; exact .inl hb
    · refine ⟨hF.size, fun d v hd => ?_, hF.defers⟩
      have h0 := (hF.vals 0 _ rfl).1
      have h1 := (hF.vals 1 _ rfl).1
      have h2 := (hF.vals 2 _ rfl).1
      by_cases hd0 : d = 0
      · subst hd0; rw [look_cons_eq] at hd; cases hd; exact ⟨by rw [h0]; exact hs, rfl⟩
      · rw [look_cons_ne _ _ hd0] at hd
        by_cases hd1 : d = 1
        · subst hd1; rw [look_cons_eq] at hd; cases hd; exact ⟨h1, rfl⟩
        · rw [look_cons_ne _ _ hd1] at hd
          by_cases hd2 : d = 2
          · subst hd2; rw [look_cons_eq] at hd; cases hd; exact ⟨by rw [h2]; exact hv, rfl⟩
          · rw [look_cons_ne _ _ hd2] at hd; cases hd
  · have hb0 : blockOf ρ [(0, .own n cells 84 4), (1, .own 1 vc 84 4)] 0 = some g0 := by show rowBlock (ρ.slv 0) = _; rw [hs]; rfl
    have hf0 := hW.fresh 0 g0 hb0
    have hne : g0 ≠ g1 := by rintro rfl; exact hW.inj 0 1 g0 (by decide) hb0 hb1
    have hgg0 : ((m.set g1 (.cells cur1 84 (0, 0))).set g0 (.cells cur0.toList.toArray 84 (0, 0))) g0 = some (.cells cur0.toList.toArray 84 (0, 0)) := Mem.set_same _ _ _
    have hgg1 : ((m.set g1 (.cells cur1 84 (0, 0))).set g0 (.cells cur0.toList.toArray 84 (0, 0))) g1 = some (.cells cur1 84 (0, 0)) := by rw [Mem.set_other _ _ (Ne.symm hne), Mem.set_same]
    have hcur0 : cur0.toList.length = (cap0 + 1) * 4 := by simpa using hcs0
    have hvget : ∀ j u, vc[j]? = some u → cur1.toList[0 + j]? = some u ∧ u.oneCell' = true := by
      intro j u hu
      refine ⟨?_, hvone u (List.mem_of_getElem? hu)⟩
      rw [← htk1, List.getElem?_take] at hu
      split at hu
      · simpa using hu
      · cases hu
    refine ⟨ρ, [(0, .one (.v (.slice (some ⟨g0, 0, none⟩) n (cap0 + 1)))), (1, ai i), (2, .one (.v (.slice (some ⟨g1, 0, none⟩) 1 (cap1 + 1))))], [], (m.set g1 (.cells cur1 84 (0, 0))).set g0 (.cells cur0.toList.toArray 84 (0, 0)), ?_, ?_, ?_⟩
    · generalize hmm : (m.set g1 (.cells cur1 84 (0, 0))).set g0 (.cells cur0.toList.toArray 84 (0, 0)) = mm at hgg0 hgg1
      have hvr : MemReads mm ⟨g1, 0, none⟩ vc := cellsReads (cur := cur1.toList) (by simpa using hgg1) hvget
      refine ⟨i, n, hi, hnc0, rfl, rfl, ?_⟩
      refine ⟨fun h => absurd h (by simp), fun _ => ⟨fun hin => ?_, fun hin => ?_⟩⟩
      · have hin : i = n := by simp at hin; omega
        subst hin
        refine ⟨[.cut], thawTwo 23 0 24 1 (by decide) (by decide) (v := .slice (some ⟨g0, 0, none⟩) i (cap0 + 1)) (n := i) (cells := cells) (t := 84) (size := 4) (v2 := .slice (some ⟨g1, 0, none⟩) 1 (cap1 + 1)) (n2 := 1) (cells2 := vc) (t2 := 84) (size2 := 4) rfl ⟨hcl, hone, .inr ⟨g0, cap0, cur0.toList.toArray, rfl, hgg0, hf0.1, hnc0, hcm0, by simpa using hcs0, by simpa using htk0⟩⟩ rfl ⟨hvl, hvone, .inr ⟨g1, cap1, cur1, rfl, hgg1, hf1.1, hnc1, hcm1, hcs1, htk1⟩⟩ (fun b hb hb2 => by cases hb; cases hb2; exact hne rfl) ?_⟩
        refine ⟨by show i + 1 ≤ maxLen; omega, by show (i + 1) * 40 ≤ 140737488355328; omega, fun old => ⟨[], retRes rfl ⟨?_, trivial⟩⟩⟩
        show some (Ent.own (i + 1) (cells ++ vc) 84 4) = _
        rw [List.take_of_length_le (by omega), List.drop_eq_nil_of_le (by omega), List.append_nil]
      · have hin : i < n := by simp at hin; omega
        refine ⟨((n + 1 : Nat) : Int), i64_succ (by omega), ⟨fun hgr => ?_, fun hgr => ?_⟩⟩
        · -- no room
          have hgr : cap0 + 1 < n + 1 := by simp at hgr; omega
          refine ⟨0, i, Nat.zero_le _, by omega, rfl, rfl, ?_⟩
          rw [slA (by omega)]
          refine ⟨((n + 1 : Nat) : Int), i64_succ (by omega), ?_⟩
          refine ⟨((n + 1 - i : Nat) : Int), by rw [i64_in _ (by omega)]; omega, ?_⟩
          have hbytes : (i - 0 + (n + 1 - i)) * 40 ≤ 140737488355328 := by omega
          refine handGrow Γok rfl rfl rfl rfl rfl (kn := .i64) rfl (A := some ⟨g0, 0 + 0 * 4, none⟩) (sLen := i - 0) (sCap := cap0 + 1 - 0) (k := n + 1 - i) rfl (kq := .i64) rfl (cur0.toList.take (i * 4)) ?_ (fun _ => ⟨_, rfl, cellsReads hgg0 ?_⟩) (by omega) (by omega) (by omega) hbytes (by decide) rfl ?_
          · rw [List.length_take, hcur0]; show _ = (i - 0) * 4; omega
          · intro j u hu
            have hu2 : cells[j]? = some u := by
              rw [← htk0, List.getElem?_take]
              rw [List.getElem?_take] at hu
              split at hu
              · rw [if_pos (by omega)]; exact hu
              · cases hu
            rw [List.getElem?_take] at hu
            split at hu
            · exact ⟨by simpa using hu, hone u (List.mem_of_getElem? hu2)⟩
            · cases hu
          intro g2 cap2 zs hg2 hge2 hle2 hzl
          have hzl : zs.length = (cap2 - i) * 4 := hzl
          have hn20 : g2 ≠ g0 := by rintro rfl; rw [hgg0] at hg2; cases hg2
          have hn21 : g2 ≠ g1 := by rintro rfl; rw [hgg1] at hg2; cases hg2
          have hm2 : m g2 = none := by
            cases h : m g2 with
            | none => rfl
            | some o => rw [← hmm, Mem.set_other _ _ hn20, Mem.set_other _ _ hn21, h] at hg2; cases hg2
          have hlen2 : (cur0.toList.take (i * 4) ++ zs).length = cap2 * 4 := by rw [List.length_append, List.length_take, hcur0, hzl]; omega
          refine ⟨i, i - 0 + (n + 1 - i), by omega, by omega, rfl, rfl, ?_⟩
          rw [slA (by omega)]
          refine handCopy Γok rfl rfl rfl rfl rfl rfl rfl (cur0.toList.take (i * 4) ++ zs) 84 (Mem.set_same _ _ _) hm2 vc ?_ (fun _ => ⟨_, rfl, cellsReads (cur := cur1.toList) (by rw [Mem.set_other _ _ (Ne.symm hn21)]; simpa using hgg1) hvget⟩) ?_ rfl ?_
          · show vc.length = Nat.min 1 (i - 0 + (n + 1 - i) - i) * 4
            have : Nat.min 1 (i - 0 + (n + 1 - i) - i) = 1 := Nat.min_eq_left (by omega)
            rw [this]; omega
          · show 0 + i * 4 + vc.length ≤ _; rw [hlen2]; omega
          refine draw0 Γok [0, 1, 2, 3, 4, 5, 6, 7] 8 (by kernel_rfl) ?_
          refine ⟨((i + 1 : Nat) : Int), i64_succ (by omega), ?_⟩
          refine ⟨i + 1, i - 0 + (n + 1 - i), by omega, by omega, rfl, rfl, ?_⟩
          rw [slA (by omega)]
          refine ⟨i, n, by omega, by omega, rfl, rfl, ?_⟩
          rw [slA (by omega)]
          have hl1 : (spliceV (0 + i * 4) vc (cur0.toList.take (i * 4) ++ zs)).length = cap2 * 4 := by rw [spliceV_length _ _ _ (by rw [hlen2]; omega), hlen2]
          refine handCopy Γok rfl rfl rfl rfl rfl rfl rfl (spliceV (0 + i * 4) vc (cur0.toList.take (i * 4) ++ zs)) 84 (Mem.set_same _ _ _) hm2 ((cur0.toList.drop (i * 4)).take (n * 4 - i * 4)) ?_ (fun _ => ⟨_, rfl, cellsReads (cur := cur0.toList) (by rw [Mem.set_other _ _ (Ne.symm hn20), Mem.set_other _ _ (Ne.symm hn20)]; exact hgg0) ?_⟩) ?_ rfl ?_
          · show _ = Nat.min (n - i) (i - 0 + (n + 1 - i) - (i + 1)) * 4
            have : Nat.min (n - i) (i - 0 + (n + 1 - i) - (i + 1)) = n - i := Nat.min_eq_left (by omega)
            rw [this, List.length_take, List.length_drop, hcur0]; omega
          · intro j u hu
            rw [List.getElem?_take] at hu
            split at hu
            · rw [List.getElem?_drop] at hu
              refine ⟨by simpa using hu, ?_⟩
              have hu2 : cells[i * 4 + j]? = some u := by rw [← htk0, List.getElem?_take, if_pos (by omega)]; exact hu
              exact hone u (List.mem_of_getElem? hu2)
            · cases hu
          · show 0 + (i + 1) * 4 + _ ≤ _; rw [hl1, List.length_take, List.length_drop, hcur0]; omega
          have hfin := ins_grow cur0.toList vc zs (n * 4) (i * 4) 4 (by omega) (by rw [hcur0]; omega) hvc (by omega)
          rw [htk0] at hfin
          have hidx : 0 + (i + 1) * 4 = i * 4 + 4 := by omega
          refine ⟨[.cut], thawOne 6 0 (v := .slice (some ⟨g2, 0, none⟩) (i - 0 + (n + 1 - i)) cap2) (n := n + 1) (cells := cells.take (i * 4) ++ vc ++ cells.drop (i * 4)) (t := 84) (size := 4) rfl ⟨?_, ?_, .inr ⟨g2, cap2 - 1, (spliceV (0 + (i + 1) * 4) ((cur0.toList.drop (i * 4)).take (n * 4 - i * 4)) (spliceV (0 + i * 4) vc (cur0.toList.take (i * 4) ++ zs))).toArray, ?_, Mem.set_same _ _ _, hm2, by omega, by omega, ?_, ?_⟩⟩ (retRes rfl ⟨rfl, trivial⟩)⟩
          · rw [List.length_append, List.length_append, List.length_take, List.length_drop]; omega
          · intro u hu
            rcases List.mem_append.1 hu with hu | hu
            · rcases List.mem_append.1 hu with hu | hu
              · exact hone u (List.mem_of_mem_take hu)
              · exact hvone u hu
            · exact hone u (List.mem_of_mem_drop hu)
          · rw [show i - 0 + (n + 1 - i) = n + 1 by omega, show cap2 - 1 + 1 = cap2 by omega]
          · rw [List.size_toArray, spliceV_length _ _ _ (by rw [hl1, List.length_take, List.length_drop, hcur0]; omega), hl1]
            congr 1; omega
          · rw [hidx, Nat.zero_add, show (n + 1) * 4 = n * 4 + 4 by omega, ← hfin]
        · -- in place
          have hgr : n + 1 ≤ cap0 + 1 := by simp at hgr; omega
          refine ⟨((n + 1 : Nat) : Int), i64_succ (by omega), 0, n + 1, Nat.zero_le _, hgr, rfl, rfl, ?_⟩
          rw [slA (by omega)]
          refine ⟨((i + 1 : Nat) : Int), i64_succ (by omega), i + 1, n + 1 - 0, by omega, by omega, rfl, rfl, ?_⟩
          rw [slA (by omega)]
          refine ⟨[], callS (f84 mm (a := ⟨g1, 0, none⟩) (b := ⟨g0, 0 + 0 * 4 + (i + 1) * 4, none⟩) (la := 1) (ca := cap1 + 1) (lb := n + 1 - 0 - (i + 1)) (cb := cap0 + 1 - 0 - (i + 1)) hgg1 hgg0 (Ne.symm hne) (by rw [List.size_toArray, hcur0]; omega)) rfl rfl ?_⟩
          refine ⟨fun _ => ?_, fun h => absurd h (by simp)⟩
          have hcsl : ((cur0.toList.drop (i * 4)).take (n * 4 - i * 4)).length = n * 4 - i * 4 := by rw [List.length_take, List.length_drop, hcur0]; omega
          refine draw0 Γok [0, 1, 2, 3, 4, 5, 6, 7] 8 (by kernel_rfl) ?_
          refine ⟨((i + 1 : Nat) : Int), i64_succ (by omega), ?_⟩
          refine ⟨i + 1, n + 1 - 0, by omega, by omega, rfl, rfl, ?_⟩
          rw [slA (by omega)]
          refine ⟨i, n + 1 - 0, by omega, by omega, rfl, rfl, ?_⟩
          rw [slA (by omega)]
          refine handCopy Γok rfl rfl rfl rfl rfl rfl rfl cur0.toList 84 hgg0 hf0.1 ((cur0.toList.drop (i * 4)).take (n * 4 - i * 4)) ?_ (fun _ => ⟨_, rfl, cellsReads (cur := cur0.toList) hgg0 ?_⟩) ?_ rfl ?_
          · show _ = Nat.min (n + 1 - 0 - i) (n + 1 - 0 - (i + 1)) * 4
            have : Nat.min (n + 1 - 0 - i) (n + 1 - 0 - (i + 1)) = n - i := (Nat.min_eq_right (by omega)).trans (by omega)
            rw [this, hcsl]; omega
          · intro j u hu
            rw [List.getElem?_take] at hu
            split at hu
            · rw [List.getElem?_drop] at hu
              refine ⟨by show cur0.toList[0 + 0 * 4 + i * 4 + j]? = _; rw [← hu]; congr 1; omega, ?_⟩
              have hu2 : cells[i * 4 + j]? = some u := by rw [← htk0, List.getElem?_take, if_pos (by omega)]; exact hu
              exact hone u (List.mem_of_getElem? hu2)
            · cases hu
          · show 0 + 0 * 4 + (i + 1) * 4 + _ ≤ _; rw [hcsl, hcur0]; omega
          have hl1 : (spliceV (0 + 0 * 4 + (i + 1) * 4) ((cur0.toList.drop (i * 4)).take (n * 4 - i * 4)) cur0.toList).length = (cap0 + 1) * 4 := by rw [spliceV_length _ _ _ (by rw [hcsl, hcur0]; omega), hcur0]
          refine ⟨i, n + 1 - 0, by omega, by omega, rfl, rfl, ?_⟩
          rw [slA (by omega)]
          refine handCopy Γok rfl rfl rfl rfl rfl rfl rfl (spliceV (0 + 0 * 4 + (i + 1) * 4) ((cur0.toList.drop (i * 4)).take (n * 4 - i * 4)) cur0.toList) 84 (Mem.set_same _ _ _) hf0.1 vc ?_ (fun _ => ⟨_, rfl, cellsReads (cur := cur1.toList) (by rw [Mem.set_other _ _ (Ne.symm hne)]; simpa using hgg1) hvget⟩) ?_ rfl ?_
          · show vc.length = Nat.min 1 (n + 1 - 0 - i) * 4
            have : Nat.min 1 (n + 1 - 0 - i) = 1 := Nat.min_eq_left (by omega)
            rw [this]; omega
          · show 0 + 0 * 4 + i * 4 + vc.length ≤ _; rw [hl1]; omega
          have hfin := ins_room cur0.toList vc (n * 4) (i * 4) 4 (by omega) (by rw [hcur0]; omega) hvc
          rw [htk0] at hfin
          have hi1 : 0 + 0 * 4 + (i + 1) * 4 = i * 4 + 4 := by omega
          have hi2 : 0 + 0 * 4 + i * 4 = i * 4 := by omega
          refine ⟨[.cut], thawOne 6 0 (v := .slice (some ⟨g0, 0 + 0 * 4, none⟩) (n + 1 - 0) (cap0 + 1 - 0)) (n := n + 1) (cells := cells.take (i * 4) ++ vc ++ cells.drop (i * 4)) (t := 84) (size := 4) rfl ⟨?_, ?_, .inr ⟨g0, cap0, (spliceV (0 + 0 * 4 + i * 4) vc (spliceV (0 + 0 * 4 + (i + 1) * 4) ((cur0.toList.drop (i * 4)).take (n * 4 - i * 4)) cur0.toList)).toArray, rfl, Mem.set_same _ _ _, hf0.1, hgr, hcm0, ?_, ?_⟩⟩ (retRes rfl ⟨rfl, trivial⟩)⟩
          · rw [List.length_append, List.length_append, List.length_take, List.length_drop]; omega
          · intro u hu
            rcases List.mem_append.1 hu with hu | hu
            · rcases List.mem_append.1 hu with hu | hu
              · exact hone u (List.mem_of_mem_take hu)
              · exact hvone u hu
            · exact hone u (List.mem_of_mem_drop hu)
          · rw [List.size_toArray, spliceV_length _ _ _ (by rw [hl1]; omega), hl1]
          · rw [hi1, hi2, show (n + 1) * 4 = n * 4 + 4 by omega, ← hfin]
    · refine hW.conc (fun b o hb => ?_) (fun b o hb => ?_)
      · rw [Mem.set_other _ _ (by rintro rfl; rw [hf0.1] at hb; cases hb), Mem.set_other _ _ (by rintro rfl; rw [hf1.1] at hb; cases hb)]; exact hb
      · by_cases h0 : b = g0
        · subst h0; rw [Mem.set_same] at hb; cases hb; exact .inr ⟨⟨0, hb0⟩, by simpa using hg0⟩
        · rw [Mem.set_other _ _ h0] at hb
          by_cases h : b = g1
          · subst h; rw [Mem.set_same] at hb; cases hb; exact .inr ⟨⟨1, hb1⟩, hg1⟩
          · rw [Mem.set_other _ _ h] at hb; exact .inl hb
    · refine ⟨hF.size, fun d v hd => ?_, hF.defers⟩
      have h0 := (hF.vals 0 _ rfl).1
      have h1 := (hF.vals 1 _ rfl).1
      have h2 := (hF.vals 2 _ rfl).1
      by_cases hd0 : d = 0
      · subst hd0; rw [look_cons_eq] at hd; cases hd; exact ⟨by rw [h0]; exact hs, rfl⟩
      · rw [look_cons_ne _ _ hd0] at hd
        by_cases hd1 : d = 1
        · subst hd1; rw [look_cons_eq] at hd; cases hd; exact ⟨h1, rfl⟩
        · rw [look_cons_ne _ _ hd1] at hd
          by_cases hd2 : d = 2
          · subst hd2; rw [look_cons_eq] at hd; cases hd; exact ⟨by rw [h2]; exact hv, rfl⟩
          · rw [look_cons_ne _ _ hd2] at hd; cases hd
end Vc
end

section
open Go Go.Proofs Vc
namespace Vc

theorem flat_sub {α : Type} {f : α → List Value} {sz : Nat} (hf : ∀ x, (f x).length = sz) {l : List α} {k : Nat} {x : α} (hk : l[k]? = some x) (o n : Nat) (hon : o + n ≤ sz) : ((l.flatMap f).drop (k * sz + o)).take n = ((f x).drop o).take n := by
  obtain ⟨hlt, rfl⟩ := List.getElem?_eq_some_iff.1 hk
  have h1 : f l[k] = ((l.flatMap f).take ((k + 1) * sz)).drop (k * sz) := by
    rw [← flat_slice hf]
    have : (l.take (k + 1)).drop k = [l[k]] := by
      rw [← List.take_append_getElem hlt, List.drop_append, List.drop_eq_nil_of_le (by rw [List.length_take]; exact Nat.min_le_left _ _)]
      simp [Nat.min_eq_left (Nat.le_of_lt hlt)]
    rw [this]; simp
  rw [h1]
  apply List.ext_getElem?
  intro j
  simp only [List.getElem?_take, List.getElem?_drop]
  by_cases hj : j < n
  · have e : k * sz + (o + j) < (k + 1) * sz := by rw [Nat.succ_mul]; omega
    simp [hj, e, Nat.add_assoc]
  · simp [hj]
theorem flat_set {α : Type} {f : α → List Value} {sz : Nat} (hf : ∀ x, (f x).length = sz) (v : α) : ∀ (l : List α) (k : Nat), k < l.length → (l.flatMap f).take (k * sz) ++ f v ++ (l.flatMap f).drop (k * sz + sz) = (l.set k v).flatMap f
  | [], k => fun h => by simp at h
  | x :: r, 0 => fun _ => by simp [hf, List.drop_append]
  | x :: r, k + 1 => fun h => by
    have ih := flat_set hf v r k (by simpa using h)
    rw [List.set_cons_succ, List.flatMap_cons, List.flatMap_cons, ← ih]
    have e1 : (k + 1) * sz = (f x).length + k * sz := by rw [hf, Nat.succ_mul, Nat.add_comm]
    rw [e1, List.take_append, List.take_of_length_le (Nat.le_add_right _ _)]
    rw [show (f x).length + k * sz + sz = (f x).length + (k * sz + sz) by omega, List.drop_append, List.drop_eq_nil_of_le (Nat.le_add_right _ _)]
    simp
theorem flat_ins {α : Type} {f : α → List Value} {sz : Nat} (hf : ∀ x, (f x).length = sz) (v : α) (l : List α) (k : Nat) : (l.flatMap f).take (k * sz) ++ f v ++ (l.flatMap f).drop (k * sz) = (l.take k ++ [v] ++ l.drop k).flatMap f := by
  have h1 := flat_slice hf l 0 k
  have h2 := flat_slice hf l k l.length
  rw [List.take_length, ← flat_length hf, List.take_length] at h2
  simp only [List.flatMap_append, List.flatMap_cons, List.flatMap_nil, List.append_nil]
  simp only [Nat.zero_mul, List.drop_zero] at h1
  rw [h1, h2]

/-! ### a version in its place -/
def withR (l : List Ver) (v : Ver) : List Ver := l.filter (fun x => x.at_.less v.at_) ++ [v] ++ l.filter (fun x => v.at_.less x.at_)
def putAt (l : List Ver) (v : Ver) : Bool := match l[upto l v.at_ - 1]? with
  | some x => decide (0 < upto l v.at_) && decide (x.at_ = v.at_)
  | none => false
theorem withR_put {l : List Ver} (h : VersUp l) (v : Ver) : withR l v = if putAt l v = true then l.set (upto l v.at_ - 1) v else l.take (upto l v.at_) ++ [v] ++ l.drop (upto l v.at_) := by
  have hu := upto_le l v.at_
  have hsp := upto_spec h v.at_
  have hgt : l.filter (fun x => v.at_.less x.at_) = l.drop (upto l v.at_) := by
    rw [filter_range l (upto l v.at_) l.length (Nat.le_refl _) (fun k c hk => by
      have h1 := hsp k c hk
      have h2 := (List.getElem?_eq_some_iff.1 hk).1
      cases hc : v.at_.less c.at_ with
      | false => have := h1.1 hc; simp; omega
      | true =>
        have : ¬ k < upto l v.at_ := fun hh => by rw [h1.2 hh] at hc; cases hc
        simp; omega)]
    rw [List.take_length]
  unfold withR
  rw [hgt]
  split
  · rename_i hp
    unfold putAt at hp
    cases hx : l[upto l v.at_ - 1]? with
    | none => rw [hx] at hp; cases hp
    | some x =>
      rw [hx] at hp
      simp only [Bool.and_eq_true, decide_eq_true_eq] at hp
      obtain ⟨h0, he⟩ := hp
      have hlt : upto l v.at_ - 1 < l.length := by omega
      have hlo : l.filter (fun x => x.at_.less v.at_) = l.take (upto l v.at_ - 1) := by
        rw [filter_range l 0 (upto l v.at_ - 1) (by omega) (fun k c hk => ?_)]
        · simp
        · have e : c.at_.less v.at_ = c.at_.less x.at_ := by rw [he]
          simp only [e]
          constructor
          · intro hl
            refine ⟨Nat.zero_le _, ?_⟩
            rcases Nat.lt_trichotomy k (upto l v.at_ - 1) with h1 | h1 | h1
            · exact h1
            · subst h1; rw [hx] at hk; cases hk; rw [less_irr] at hl; cases hl
            · have := h _ _ _ _ h1 hx hk
              rw [less_asym this] at hl; cases hl
          · rintro ⟨_, h1⟩
            exact h _ _ _ _ h1 hk hx
      rw [hlo, List.set_eq_take_append_cons_drop, if_pos hlt, show upto l v.at_ - 1 + 1 = upto l v.at_ by omega]
      simp
  · rename_i hp
    have hlo : l.filter (fun x => x.at_.less v.at_) = l.take (upto l v.at_) := by
      rw [filter_range l 0 (upto l v.at_) hu (fun k c hk => ?_)]
      · simp
      · have h1 := hsp k c hk
        constructor
        · intro hl
          exact ⟨Nat.zero_le _, h1.1 (less_asym hl)⟩
        · rintro ⟨_, h2⟩
          have h3 := h1.2 h2
          cases hl : c.at_.less v.at_ with
          | true => rfl
          | false =>
            exfalso
            have heq := less_tri hl h3
            have hk2 : k = upto l v.at_ - 1 := by
              rcases Nat.lt_or_ge k (upto l v.at_ - 1) with h4 | h4
              · have hlt : upto l v.at_ - 1 < l.length := by omega
                have h5 := h _ _ _ _ h4 hk (List.getElem?_eq_getElem hlt)
                have h6 := (hsp _ _ (List.getElem?_eq_getElem hlt)).2 (by omega)
                have h7 := (congrArg (fun z => z.less l[upto l v.at_ - 1].at_) heq).symm.trans h5
                rw [h7] at h6; cases h6
              · omega
            subst hk2
            refine hp ?_
            unfold putAt
            rw [hk]
            simp [heq]
            omega
    rw [hlo]

theorem ins_len {α : Type} {l : List α} {k : Nat} {v : α} (h : k ≤ l.length) : (l.take k ++ [v] ++ l.drop k).length = l.length + 1 := by
  rw [List.length_append, List.length_append, List.length_take, List.length_drop]; simp; omega
theorem f62 (m : Mem) (l : List Ver) (v : Ver) (hup : VersUp l) (hs : l.length ≤ 1048576) : FnX Try.prog 62 m [.one (.own 0), .agg (vmap v.c)] [(0, vrow l)] (Res (.one (.own 0)) [(0, vrow (withR l v))]) noPanic := by
  refine fnX (args := [.one (.own 0), .agg (vmap v.c)]) Γok mix Try.func62 rfl (by kernel_rfl) Try.ntmps62 rfl (by simp) (okv_cons trivial (okv_cons (okL_v rfl) okv_nil)) ?_
  intro ρ W
  have hm := maxLen_le; have hmax : 2097152 ≤ maxLen := by decide
  have hu := upto_le l v.at_
  have hl := lastV_upto hup v.at_
  have hw := withR_put hup v
  refine ⟨[], KeptNode.call (ws := []) (PureNode.kept ?_)⟩
  refine callSP [0] (v := vi (lastV l v.at_)) rfl (fun A c m1 hd h1 h2 h3 h4 => ⟨_, rfl, f63 (m.join m1) ⟨A, l.length, c⟩ l v.at_ (row_of rfl h1 h2 h3 (fun hp => by obtain ⟨a, h5, h6⟩ := h4 hp; exact ⟨a, h5, h6.mono' (Mem.join_right hd)⟩))⟩) rfl ?_
  have ins : putAt l v = false → ∀ {F : Fr}, True := fun _ _ => trivial
  refine drawQ Γok [0, 1, 2, 3, 4, 5, 6, 7, 8, 9, 10, 11] (by kernel_rfl) ?_
  refine ⟨fun hb => ?_, fun hb => ?_⟩
  · have h0 : 0 < upto l v.at_ := by rw [hl] at hb; simp at hb; omega
    have hlt : upto l v.at_ - 1 < l.length := by omega
    have hx := List.getElem?_eq_getElem hlt
    refine ⟨upto l v.at_ - 1, by rw [hl]; omega, by omega, by show 0 < l.length; omega, l[upto l v.at_ - 1].at_.c, ?_, by simp [Stamp.c], ?_⟩
    · show ((l.flatMap Ver.c).drop ((upto l v.at_ - 1) * 4 + 0)).take 2 = _
      rw [flat_sub (f := Ver.c) (sz := 4) (fun _ => rfl) hx 0 2 (by decide)]; rfl
    refine eq27 (a := l[upto l v.at_ - 1].at_) (b := v.at_) rfl ?_
    refine ⟨fun he => ?_, fun he => ?_⟩
    · have hp : putAt l v = true := by unfold putAt; rw [hx]; simp [h0]; simpa using he
      rw [hp, if_pos rfl] at hw
      refine ⟨upto l v.at_ - 1, by rw [hl]; omega, by omega, ?_, ?_⟩
      · show (upto l v.at_ - 1) * 4 + 4 ≤ (l.flatMap Ver.c).length
        rw [flat_length (sz := 4) (fun _ => rfl)]; omega
      · refine ⟨[], retRes rfl ⟨?_, trivial⟩⟩
        have := flat_set (f := Ver.c) (sz := 4) (fun _ => rfl) v l (upto l v.at_ - 1) hlt
        rw [hw]
        exact congrArg some (by rw [vrow, ← this, List.length_set]; rfl)
    · have hp : putAt l v = false := by unfold putAt; rw [hx]; simp [h0]; simpa using he
      rw [hp, if_neg (by simp)] at hw
      refine ⟨((upto l v.at_ : Nat) : Int), by rw [hl, i64_in _ (by omega)]; omega, [], [.keep []], ?_⟩
      refine KeptNode.call (ws := []) ?_
      refine keptRes [(0, 0), (1, 31)] 1000 [] [(0, vrow l), (1, .own 1 v.c 84 4)] (.one (.own 0)) [(0, .own (l.length + 1) ((l.flatMap Ver.c).take (upto l v.at_ * 4) ++ v.c ++ (l.flatMap Ver.c).drop (upto l v.at_ * 4)) 84 4)] ⟨[.one (.own 0), ai (upto l v.at_), .one (.own 1)], rfl, f76 m l.length (upto l v.at_) (l.flatMap Ver.c) v.c hu hs⟩ rfl ⟨rfl, rfl, trivial⟩ rfl rfl ?_
      refine ⟨[], retRes rfl ⟨?_, trivial⟩⟩
      rw [hw]
      exact congrArg some (by rw [vrow, flat_ins (f := Ver.c) (sz := 4) (fun _ => rfl), ins_len hu]; rfl)
  · have h0 : upto l v.at_ = 0 := by rw [hl] at hb; simp at hb; omega
    have hp : putAt l v = false := by unfold putAt; rw [h0]; cases l[0 - 1]? <;> simp
    rw [hp, if_neg (by simp), h0] at hw
    refine ⟨((0 : Nat) : Int), by rw [hl, h0]; exact i64_in _ (by omega), [], [.keep []], ?_⟩
    refine KeptNode.call (ws := []) ?_
    refine keptRes [(0, 0), (1, 31)] 1000 [] [(0, vrow l), (1, .own 1 v.c 84 4)] (.one (.own 0)) [(0, .own (l.length + 1) ((l.flatMap Ver.c).take (0 * 4) ++ v.c ++ (l.flatMap Ver.c).drop (0 * 4)) 84 4)] ⟨[.one (.own 0), ai (0 : Nat), .one (.own 1)], rfl, f76 m l.length 0 (l.flatMap Ver.c) v.c (Nat.zero_le _) hs⟩ rfl ⟨rfl, rfl, trivial⟩ rfl rfl ?_
    refine ⟨[], retRes rfl ⟨?_, trivial⟩⟩
    rw [hw]
    exact congrArg some (by rw [vrow, flat_ins (f := Ver.c) (sz := 4) (fun _ => rfl), ins_len (Nat.zero_le _)]; rfl)
end Vc
end

section
open Go Go.Proofs Vc
namespace Vc

/-- one round of 'with' -/
def withS (v : Ver) (s : List Ver × Bool) (x : Ver) : List Ver × Bool :=
  let s' := if !s.2 && !x.at_.less v.at_ then (s.1 ++ [v], true) else s
  if x.at_ ≠ v.at_ then (s'.1 ++ [x], s'.2) else s'
theorem withS_fold {l : List Ver} (h : VersUp l) (v : Ver) : ∀ n, n ≤ l.length → (l.take n).foldl (withS v) ([], false) =
    ((l.take n).filter (fun x => x.at_.less v.at_) ++ (if (l.take n).any (fun x => !x.at_.less v.at_) = true then [v] ++ (l.take n).filter (fun x => v.at_.less x.at_) else []), (l.take n).any (fun x => !x.at_.less v.at_)) := by
  intro n
  induction n with
  | zero => intro _; simp
  | succ n ih =>
    intro hn
    have hlt : n < l.length := by omega
    have hg := List.getElem?_eq_getElem hlt
    rw [← take_snoc hlt, List.foldl_append, ih (by omega), List.filter_append, List.filter_append, List.any_append]
    simp only [List.foldl_cons, List.foldl_nil, List.any_cons, List.any_nil, Bool.or_false]
    have hprev : ∀ x ∈ l.take n, x.at_.less l[n].at_ = true := by
      intro x hx
      obtain ⟨k, hk⟩ := List.getElem?_of_mem hx
      rw [List.getElem?_take] at hk
      split at hk
      · rename_i hkn; exact h _ _ _ _ hkn hk hg
      · cases hk
    have hgt : l[n].at_.less v.at_ = true → (l.take n).filter (fun x => v.at_.less x.at_) = [] ∧ (l.take n).any (fun x => !x.at_.less v.at_) = false := by
      intro hlv
      have hp : ∀ x ∈ l.take n, x.at_.less v.at_ = true := fun x hx => less_trans (hprev x hx) hlv
      refine ⟨List.filter_eq_nil_iff.2 (fun x hx => by rw [less_asym (hp x hx)]; simp), List.any_eq_false.2 (fun x hx => by rw [hp x hx]; simp)⟩
    cases h1 : l[n].at_.less v.at_ with
    | true =>
      obtain ⟨h2, h3⟩ := hgt h1
      have hne : l[n].at_ ≠ v.at_ := by intro he; rw [he, less_irr] at h1; cases h1
      have h4 := less_asym h1
      simp [withS, h1, h3, hne, h4, h2]
    | false =>
      cases h2 : v.at_.less l[n].at_ with
      | true =>
        have hne : l[n].at_ ≠ v.at_ := by intro he; rw [he, less_irr] at h2; cases h2
        cases h3 : (l.take n).any (fun x => !x.at_.less v.at_) with
        | true => simp [withS, h1, h2, hne, h3]
        | false =>
          have h5 : (l.take n).filter (fun x => v.at_.less x.at_) = [] := by
            rw [List.filter_eq_nil_iff]
            intro x hx
            have := List.any_eq_false.1 h3 x hx
            simp at this
            rw [less_asym this]; simp
          simp [withS, h1, h2, hne, h3, h5]
      | false =>
        have he := less_tri h1 h2
        have h3 : (l.take n).any (fun x => !x.at_.less v.at_) = false := List.any_eq_false.2 (fun x hx => by rw [← he, hprev x hx]; simp)
        have h5 : (l.take n).filter (fun x => v.at_.less x.at_) = [] := by
          rw [List.filter_eq_nil_iff]
          intro x hx
          have := hprev x hx
          rw [he] at this
          rw [less_asym this]; simp
        simp [withS, h1, h2, he, h3, h5, less_irr, List.filter_cons]
theorem withS_end {l : List Ver} (h : VersUp l) (v : Ver) : (if (l.foldl (withS v) ([], false)).2 = true then (l.foldl (withS v) ([], false)).1 else (l.foldl (withS v) ([], false)).1 ++ [v]) = withR l v := by
  have := withS_fold h v l.length (Nat.le_refl _)
  rw [List.take_length] at this
  rw [this]
  simp only
  unfold withR
  cases h3 : l.any (fun x => !x.at_.less v.at_) with
  | true => simp
  | false =>
    have h5 : l.filter (fun x => v.at_.less x.at_) = [] := by
      rw [List.filter_eq_nil_iff]
      intro x hx
      have := List.any_eq_false.1 h3 x hx
      simp at this
      rw [less_asym this]; simp
    simp [h5]

structure WiSt where
  i : Nat
  out : List Ver
  inn : Bool
theorem vrow_snoc (l : List Ver) (v : Ver) : Ent.own (l.length + 1) (l.flatMap Ver.c ++ v.c) 84 4 = vrow (l ++ [v]) := by simp [vrow]
theorem vrow_snoc2 (l : List Ver) (v w : Ver) : Ent.own (l.length + 1 + 1) (l.flatMap Ver.c ++ v.c ++ w.c) 84 4 = vrow (l ++ [v] ++ [w]) := by simp [vrow]

theorem f52 (m : Mem) (x : Sl) (l : List Ver) (v : Ver) (h : VerRow m x l) (hup : VersUp l) (hs : l.length ≤ 1048576) : FnX Try.prog 52 m [asl x, .agg (vmap v.c)] [] (Res (.one (.own 5)) [(5, vrow (withR l v))]) noPanic := by
  refine fnX (args := [asl x, .agg (vmap v.c)]) Γok mix Try.func52 rfl (by kernel_rfl) Try.ntmps52 rfl (by simp) (okv_cons rfl (okv_cons (okL_v rfl) okv_nil)) ?_
  intro ρ W
  have hm := maxLen_le; have hmax : 3000000 ≤ maxLen := by decide
  have hx := h.1.cap; have hx' := h.1.most; have hn := h.2
  rw [← withS_end hup v]
  refine ⟨[.nilOwn 5 5 84 4], ⟨⟨WiSt, fun s => s.i ≤ x.n ∧ (s.out, s.inn) = (l.take s.i).foldl (withS v) ([], false) ∧ s.out.length ≤ s.i + (if s.inn = true then 1 else 0), fun s => x.n - s.i,
    fun s => [(7, ai s.i), (6, .one (.v (.bool s.inn))), (0, asl x), (5, .one (.own 5)), (3, .one (.ptr 3 0))], fun s => [(5, vrow s.out), (3, .box (vmap v.c) 84)], fun _ => m,
    ⟨⟨0, [], false⟩, ⟨Nat.zero_le _, rfl, Nat.zero_le _⟩, entails_ren [] ⟨rfl, rfl, rfl, rfl, rfl, trivial⟩ ⟨rfl, rfl, trivial⟩ rfl rfl⟩, fun s hi => ?_⟩⟩⟩
  obtain ⟨i, out, inn⟩ := s
  obtain ⟨hin, hor, hol⟩ := hi
  simp only at hin hor hol
  have hif : (if inn = true then 1 else 0) ≤ 1 := by split <;> omega
  refine ⟨fun h1 => ?_, fun h1 => ?_⟩
  · have h1 : i < x.n := by simpa using h1
    have hlt : i < l.length := by omega
    obtain ⟨a, hA, hr⟩ := h.at (fun _ => rfl) (List.getElem?_eq_getElem hlt)
    have hnext : (l.take (i + 1)).foldl (withS v) ([], false) = withS v (out, inn) l[i] := by rw [← take_snoc hlt, List.foldl_append, ← hor]; rfl
    have hdec : decide (l[i].at_ = v.at_) = true ∨ decide (l[i].at_ = v.at_) = false := by cases decide (l[i].at_ = v.at_) <;> simp
    refine draw Γok [(9, 3)] [10] (.take 0 (.take 1 (.take 2 (.take 3 (.take 4 (.take 5 (.take 6 (.take 7 (.take 8 (.take 9 (.pcall 10 (.take 11 (.take 12 .done))))))))))))) (by kernel_rfl) ?_
    refine ⟨fun h2 => ?_, fun h2 => ?_⟩
    · have h2 : inn = false := by simpa using h2
      refine ⟨i, a, _, rfl, h1, hA, hr, ?_⟩
      refine pureS (f48 m l[i].at_ v.at_) rfl rfl ?_
      refine ⟨fun h3 => ?_, fun h3 => ?_⟩
      · have h3 : l[i].at_.less v.at_ = false := by simpa using h3
        refine ⟨[], [], ?_, ?_, fun old => ?_⟩
        · show out.length + 1 ≤ maxLen; simp [h2] at hol; omega
        · show (out.length + 1) * 40 ≤ 140737488355328; simp [h2] at hol; omega
        have hs' : withS v (out, inn) l[i] = if l[i].at_ ≠ v.at_ then ((out ++ [v]) ++ [l[i]], true) else ((out ++ [v]), true) := by unfold withS; simp only [h2, h3]; split <;> rfl
        have hlen : (out ++ [v]).length ≤ i + 1 + (if true = true then 1 else 0) - 1 := by simp [h2] at hol ⊢; omega
        refine draw Γok [(6, 3)] [] (.take 0 (.take 1 (.take 2 (.take 3 (.take 4 (.take 5 (.take 6 (.take 7 .done)))))))) (by kernel_rfl) ?_
        refine ⟨i, a, _, rfl, h1, hA, hr, ?_⟩
        refine neq27 (a := l[i].at_) (b := v.at_) rfl ?_
        refine ⟨fun h4 => ?_, fun h4 => ?_⟩
        · have h4 : l[i].at_ ≠ v.at_ := by simpa using h4
          rw [if_pos h4] at hs'
          refine ⟨i, a, _, rfl, h1, hA, hr, [], [], ?_, ?_, fun old2 => ?_⟩
          · show (out.length + 1) + 1 ≤ maxLen; simp at hlen; omega
          · show ((out.length + 1) + 1) * 40 ≤ 140737488355328; simp at hlen; omega
          refine ⟨_, i64_succ (n := i) (by omega), ?_⟩
          refine ⟨[], ⟨i + 1, (out ++ [v]) ++ [l[i]], true⟩, ⟨by show i + 1 ≤ x.n; omega, by rw [hnext, hs'], ?_⟩, by show x.n - (i + 1) < x.n - i; omega, entails_ren [] ⟨rfl, rfl, rfl, rfl, rfl, trivial⟩ ⟨congrArg some (vrow_snoc2 out v l[i]), rfl, trivial⟩ rfl rfl⟩
          show ((out ++ [v]) ++ [l[i]]).length ≤ i + 1 + (if true = true then 1 else 0)
          rw [List.length_append]; simp at hlen ⊢; omega
        · have h4 : l[i].at_ = v.at_ := by simpa using h4
          rw [if_neg (by simp [h4])] at hs'
          refine ⟨_, i64_succ (n := i) (by omega), ?_⟩
          refine ⟨[], ⟨i + 1, (out ++ [v]), true⟩, ⟨by show i + 1 ≤ x.n; omega, by rw [hnext, hs'], ?_⟩, by show x.n - (i + 1) < x.n - i; omega, entails_ren [] ⟨rfl, rfl, rfl, rfl, rfl, trivial⟩ ⟨(congrArg some (vrow_snoc out v)), rfl, trivial⟩ rfl rfl⟩
          show (out ++ [v]).length ≤ i + 1 + (if true = true then 1 else 0)
          simp at hlen ⊢; omega
      · have h3 : l[i].at_.less v.at_ = true := by simpa using h3
        have hs' : withS v (out, inn) l[i] = if l[i].at_ ≠ v.at_ then (out ++ [l[i]], inn) else (out, inn) := by unfold withS; simp only [h2, h3]; split <;> rfl
        have hlen : (out).length ≤ i + 1 + (if inn = true then 1 else 0) - 1 := by split <;> simp_all
        refine draw Γok [(6, 3)] [] (.take 0 (.take 1 (.take 2 (.take 3 (.take 4 (.take 5 (.take 6 (.take 7 .done)))))))) (by kernel_rfl) ?_
        refine ⟨i, a, _, rfl, h1, hA, hr, ?_⟩
        refine neq27 (a := l[i].at_) (b := v.at_) rfl ?_
        refine ⟨fun h4 => ?_, fun h4 => ?_⟩
        · have h4 : l[i].at_ ≠ v.at_ := by simpa using h4
          rw [if_pos h4] at hs'
          refine ⟨i, a, _, rfl, h1, hA, hr, [], [], ?_, ?_, fun old2 => ?_⟩
          · show out.length + 1 ≤ maxLen; simp at hlen; omega
          · show (out.length + 1) * 40 ≤ 140737488355328; simp at hlen; omega
          refine ⟨_, i64_succ (n := i) (by omega), ?_⟩
          refine ⟨[], ⟨i + 1, out ++ [l[i]], inn⟩, ⟨by show i + 1 ≤ x.n; omega, by rw [hnext, hs'], ?_⟩, by show x.n - (i + 1) < x.n - i; omega, entails_ren [] ⟨rfl, rfl, rfl, rfl, rfl, trivial⟩ ⟨congrArg some (vrow_snoc out l[i]), rfl, trivial⟩ rfl rfl⟩
          show (out ++ [l[i]]).length ≤ i + 1 + (if inn = true then 1 else 0)
          rw [List.length_append]; simp at hlen ⊢; omega
        · have h4 : l[i].at_ = v.at_ := by simpa using h4
          rw [if_neg (by simp [h4])] at hs'
          refine ⟨_, i64_succ (n := i) (by omega), ?_⟩
          refine ⟨[], ⟨i + 1, out, inn⟩, ⟨by show i + 1 ≤ x.n; omega, by rw [hnext, hs'], ?_⟩, by show x.n - (i + 1) < x.n - i; omega, entails_ren [] ⟨rfl, rfl, rfl, rfl, rfl, trivial⟩ ⟨rfl, rfl, trivial⟩ rfl rfl⟩
          show (out).length ≤ i + 1 + (if inn = true then 1 else 0)
          simp at hlen ⊢; omega
    · have h2 : inn = true := by simpa using h2
      have hs' : withS v (out, inn) l[i] = if l[i].at_ ≠ v.at_ then (out ++ [l[i]], inn) else (out, inn) := by unfold withS; simp only [h2]; split <;> rfl
      have hlen : (out).length ≤ i + 1 + (if inn = true then 1 else 0) - 1 := by split <;> simp_all
      refine draw Γok [(6, 3)] [] (.take 0 (.take 1 (.take 2 (.take 3 (.take 4 (.take 5 (.take 6 (.take 7 .done)))))))) (by kernel_rfl) ?_
      refine ⟨i, a, _, rfl, h1, hA, hr, ?_⟩
      refine neq27 (a := l[i].at_) (b := v.at_) rfl ?_
      refine ⟨fun h4 => ?_, fun h4 => ?_⟩
      · have h4 : l[i].at_ ≠ v.at_ := by simpa using h4
        rw [if_pos h4] at hs'
        refine ⟨i, a, _, rfl, h1, hA, hr, [], [], ?_, ?_, fun old2 => ?_⟩
        · show out.length + 1 ≤ maxLen; simp at hlen; omega
        · show (out.length + 1) * 40 ≤ 140737488355328; simp at hlen; omega
        refine ⟨_, i64_succ (n := i) (by omega), ?_⟩
        refine ⟨[], ⟨i + 1, out ++ [l[i]], inn⟩, ⟨by show i + 1 ≤ x.n; omega, by rw [hnext, hs'], ?_⟩, by show x.n - (i + 1) < x.n - i; omega, entails_ren [] ⟨rfl, rfl, rfl, rfl, rfl, trivial⟩ ⟨congrArg some (vrow_snoc out l[i]), rfl, trivial⟩ rfl rfl⟩
        show (out ++ [l[i]]).length ≤ i + 1 + (if inn = true then 1 else 0)
        rw [List.length_append]; simp at hlen ⊢; omega
      · have h4 : l[i].at_ = v.at_ := by simpa using h4
        rw [if_neg (by simp [h4])] at hs'
        refine ⟨_, i64_succ (n := i) (by omega), ?_⟩
        refine ⟨[], ⟨i + 1, out, inn⟩, ⟨by show i + 1 ≤ x.n; omega, by rw [hnext, hs'], ?_⟩, by show x.n - (i + 1) < x.n - i; omega, entails_ren [] ⟨rfl, rfl, rfl, rfl, rfl, trivial⟩ ⟨rfl, rfl, trivial⟩ rfl rfl⟩
        show (out).length ≤ i + 1 + (if inn = true then 1 else 0)
        simp at hlen ⊢; omega
  · have h1 : ¬ i < x.n := by simpa using h1
    rw [List.take_of_length_le (by omega)] at hor
    rw [← hor]
    refine ⟨fun h2 => ?_, fun h2 => ?_⟩
    · have h2 : inn = false := by simpa using h2
      subst h2
      refine ⟨[], [], ?_, ?_, fun old => ⟨[], retRes rfl ⟨congrArg some (vrow_snoc out v), trivial⟩⟩⟩
      · show out.length + 1 ≤ maxLen; simp at hol; omega
      · show (out.length + 1) * 40 ≤ 140737488355328; simp at hol; omega
    · have h2 : inn = true := by simpa using h2
      subst h2
      exact ⟨[], retRes rfl ⟨rfl, trivial⟩⟩
end Vc
end

section
open Go Go.Proofs Vc
namespace Vc

def settleC (y : Tri) (yes : Bool) (c : Cell) : Option Cell :=
  if mineP y c = true then
    (if yes = true then (if 0 < (withR c.vers ⟨c.lock.at_, c.lock.drop, c.lock.data⟩).length then some { c with vers := withR c.vers ⟨c.lock.at_, c.lock.drop, c.lock.data⟩, locked := false, lock := Lk.zero } else none)
     else (if 0 < c.vers.length then some { c with locked := false, lock := Lk.zero } else none))
  else (if c.locked = true then some c else if 0 < c.vers.length then some c else none)
structure SeSt where
  i : Nat
  g : Gs
  mn : Mem
theorem fm_next {l : List Cell} {i : Nat} (hlt : i < l.length) (f : Cell → Option Cell) : (l.take (i + 1)).filterMap f = (l.take i).filterMap f ++ (f l[i]).toList := by
  rw [← take_snoc hlt, List.filterMap_append]
  cases h : f l[i] <;> simp [List.filterMap_cons, h]

set_option maxHeartbeats 1000000 in
theorem f43 (m : Mem) (x : Sl) (l : List Cell) (y : Tri) (yes : Bool) (h : CellRow m x l) (hs : Small l) (hup : ∀ c ∈ l, VersUp c.vers) : FnX Try.prog 43 m [asl x, .agg (vmap y.c), .one (.v (.bool yes))] [] (NewCells 7 (l.filterMap (settleC y yes))) noPanic := by
  refine fnX (args := [asl x, .agg (vmap y.c), .one (.v (.bool yes))]) Γok mix Try.func43 rfl (by kernel_rfl) Try.ntmps43 rfl (by simp) (okv_cons rfl (okv_cons (okL_v rfl) (okv_cons rfl okv_nil))) ?_
  intro ρ W
  have hx := h.bounds; have hm := maxLen_le; have hn := h.n; have hs1 := hs.1
  have hmax : 2097152 ≤ maxLen := by decide
  refine ⟨[.nilOwn 7 7 55 12], ⟨⟨SeSt, fun s => s.i ≤ x.n ∧ Mem.Disj m s.mn ∧ GOk s.g ((l.take s.i).filterMap (settleC y yes)) s.mn ∧ s.g.length ≤ s.i, fun s => x.n - s.i,
    fun s => [(12, ai s.i), (11, ai x.n), (10, asl x), (7, .one (.own 7)), (4, .one (.ptr 4 0)), (2, .one (.v (.bool yes)))], fun s => [(7, crow s.g), (4, .box (vmap y.c) 33)], fun s => m.join s.mn,
    ⟨⟨0, [], Mem.none⟩, ⟨Nat.zero_le _, Mem.disj_none m, ⟨rfl, fun p hp => by cases hp⟩, Nat.le_refl _⟩, entails_renM (Mem.join_none m).symm [] ⟨rfl, rfl, rfl, rfl, rfl, rfl, trivial⟩ ⟨rfl, rfl, trivial⟩ rfl rfl⟩, fun s hi => ?_⟩⟩⟩
  obtain ⟨i, g, mn⟩ := s
  obtain ⟨hin, hdis, hg, hgi⟩ := hi
  simp only at hin hdis hg hgi
  refine ⟨fun h1 => ?_, fun h1 => ?_⟩
  · have h1 : i < x.n := by simpa using h1
    have hlt : i < l.length := by omega
    obtain ⟨a, s, hA, hr, hv⟩ := h.at (List.getElem?_eq_getElem hlt)
    have hle : m.le (m.join mn) := Mem.le_join m mn
    have hvs := hs.2 _ (List.getElem_mem hlt)
    have hvu := hup _ (List.getElem_mem hlt)
    have hnext := fm_next hlt (settleC y yes)
    refine ⟨i, a, _, rfl, h1, hA, hr.mono' hle, ?_⟩
    refine ⟨[], callXS [] 1000 (f61 (m.join mn) l[i] s (hv.mono hle) hvs) rfl rfl trivial rfl rfl ?_⟩
    refine ⟨fun h2 => ?_, fun h2 => ?_⟩
    · refine eq33 (a := l[i].lock.who) (b := y) rfl ?_
      refine ⟨fun h3 => ?_, fun h3 => ?_⟩
      · have hmine : mineP y l[i] = true := by unfold mineP; rw [h2, h3]; rfl
        refine ⟨fun h4 => ?_, fun h4 => ?_⟩
        · refine ⟨[.cut, .keep [12, 11, 10, 9, 7, 4, 2]], oldCut 2005 rfl (fun old => ?_)⟩
          refine KeptNode.call (ws := []) ?_
          refine keptRes [(0, 2005)] 10000 [] [(0, vrow l[i].vers)] (.one (.own 0)) [(0, vrow (withR l[i].vers ⟨l[i].lock.at_, l[i].lock.drop, l[i].lock.data⟩))] ⟨[.one (.own 0), .agg (vmap (Ver.c ⟨l[i].lock.at_, l[i].lock.drop, l[i].lock.data⟩))], rfl, f62 (m.join mn) l[i].vers ⟨l[i].lock.at_, l[i].lock.drop, l[i].lock.data⟩ hvu hvs⟩ rfl ⟨rfl, trivial⟩ rfl rfl ?_
          refine ⟨fun h5 => ?_, fun h5 => ?_⟩
          · have h5 : 0 < (withR l[i].vers ⟨l[i].lock.at_, l[i].lock.drop, l[i].lock.data⟩).length := by simpa using h5
            -- it stays
            refine ⟨[.freeze 2005], fun A cp m1 hd e2 e3 e4 e5 => ⟨[], ?_, ?_, fun old2 => ?_⟩⟩
            · show g.length + 1 ≤ maxLen; omega
            · show (g.length + 1) * 128 ≤ 140737488355328; omega
            · refine ⟨_, i64_succ (n := i) (by omega), ?_⟩
              have hdis2 := hdis.join hd
              have hd1 : Mem.Disj mn m1 := fun b o hb => hd b o (Mem.join_right hdis b o hb)
              have hvn : VerRow (mn.join m1) ⟨A, (withR l[i].vers ⟨l[i].lock.at_, l[i].lock.drop, l[i].lock.data⟩).length, cp⟩ (withR l[i].vers ⟨l[i].lock.at_, l[i].lock.drop, l[i].lock.data⟩) := row_of rfl e2 e3 e4 (fun hp => by
                obtain ⟨a', e6, e7⟩ := e5 hp
                exact ⟨a', e6, e7.mono' (Mem.join_right hd1)⟩)
              have hg2 := (hg.mono (Mem.le_join mn m1)).snoc (c := { l[i] with vers := withR l[i].vers ⟨l[i].lock.at_, l[i].lock.drop, l[i].lock.data⟩, locked := false, lock := Lk.zero }) hvn
              refine ⟨[], ⟨i + 1, g ++ [({ l[i] with vers := withR l[i].vers ⟨l[i].lock.at_, l[i].lock.drop, l[i].lock.data⟩, locked := false, lock := Lk.zero }, ⟨A, (withR l[i].vers ⟨l[i].lock.at_, l[i].lock.drop, l[i].lock.data⟩).length, cp⟩)], mn.join m1⟩, ⟨by show i + 1 ≤ x.n; omega, hdis2, ?_, by show (g ++ _).length ≤ i + 1; simp; omega⟩, by show x.n - (i + 1) < x.n - i; omega, ?_⟩
              · show GOk _ ((l.take (i + 1)).filterMap (settleC y yes)) _
                rw [hnext, show settleC y yes l[i] = some ({ l[i] with vers := withR l[i].vers ⟨l[i].lock.at_, l[i].lock.drop, l[i].lock.data⟩, locked := false, lock := Lk.zero }) from by unfold settleC; rw [if_pos hmine, if_pos h4, if_pos h5]]; exact hg2
              · exact entails_renM (Mem.join_assoc m mn m1) [] ⟨rfl, rfl, rfl, rfl, rfl, rfl, trivial⟩ ⟨congrArg some (crow_snoc g ({ l[i] with vers := withR l[i].vers ⟨l[i].lock.at_, l[i].lock.drop, l[i].lock.data⟩, locked := false, lock := Lk.zero }) ⟨A, (withR l[i].vers ⟨l[i].lock.at_, l[i].lock.drop, l[i].lock.data⟩).length, cp⟩), rfl, trivial⟩ rfl rfl
          · have h5 : ¬ 0 < (withR l[i].vers ⟨l[i].lock.at_, l[i].lock.drop, l[i].lock.data⟩).length := by simpa using h5
            -- it goes
            refine ⟨_, i64_succ (n := i) (by omega), ?_⟩
            refine ⟨[], ⟨i + 1, g, mn⟩, ⟨by show i + 1 ≤ x.n; omega, hdis, ?_, by show g.length ≤ i + 1; omega⟩, by show x.n - (i + 1) < x.n - i; omega, entails_ren [] ⟨rfl, rfl, rfl, rfl, rfl, rfl, trivial⟩ ⟨rfl, rfl, trivial⟩ rfl rfl⟩
            show GOk _ ((l.take (i + 1)).filterMap (settleC y yes)) _
            rw [hnext, show settleC y yes l[i] = none from by unfold settleC; rw [if_pos hmine, if_pos h4, if_neg h5]]; simpa using hg
        · refine ⟨fun h5 => ?_, fun h5 => ?_⟩
          · have h5 : 0 < l[i].vers.length := by simpa using h5
            -- it stays
            refine ⟨[.freeze 2005], fun A cp m1 hd e2 e3 e4 e5 => ⟨[], ?_, ?_, fun old2 => ?_⟩⟩
            · show g.length + 1 ≤ maxLen; omega
            · show (g.length + 1) * 128 ≤ 140737488355328; omega
            · refine ⟨_, i64_succ (n := i) (by omega), ?_⟩
              have hdis2 := hdis.join hd
              have hd1 : Mem.Disj mn m1 := fun b o hb => hd b o (Mem.join_right hdis b o hb)
              have hvn : VerRow (mn.join m1) ⟨A, (l[i].vers).length, cp⟩ (l[i].vers) := row_of rfl e2 e3 e4 (fun hp => by
                obtain ⟨a', e6, e7⟩ := e5 hp
                exact ⟨a', e6, e7.mono' (Mem.join_right hd1)⟩)
              have hg2 := (hg.mono (Mem.le_join mn m1)).snoc (c := { l[i] with locked := false, lock := Lk.zero }) hvn
              refine ⟨[], ⟨i + 1, g ++ [({ l[i] with locked := false, lock := Lk.zero }, ⟨A, (l[i].vers).length, cp⟩)], mn.join m1⟩, ⟨by show i + 1 ≤ x.n; omega, hdis2, ?_, by show (g ++ _).length ≤ i + 1; simp; omega⟩, by show x.n - (i + 1) < x.n - i; omega, ?_⟩
              · show GOk _ ((l.take (i + 1)).filterMap (settleC y yes)) _
                rw [hnext, show settleC y yes l[i] = some ({ l[i] with locked := false, lock := Lk.zero }) from by unfold settleC; rw [if_pos hmine, if_neg (by rw [h4]; simp), if_pos h5]]; exact hg2
              · exact entails_renM (Mem.join_assoc m mn m1) [] ⟨rfl, rfl, rfl, rfl, rfl, rfl, trivial⟩ ⟨congrArg some (crow_snoc g ({ l[i] with locked := false, lock := Lk.zero }) ⟨A, (l[i].vers).length, cp⟩), rfl, trivial⟩ rfl rfl
          · have h5 : ¬ 0 < l[i].vers.length := by simpa using h5
            -- it goes
            refine ⟨_, i64_succ (n := i) (by omega), ?_⟩
            refine ⟨[], ⟨i + 1, g, mn⟩, ⟨by show i + 1 ≤ x.n; omega, hdis, ?_, by show g.length ≤ i + 1; omega⟩, by show x.n - (i + 1) < x.n - i; omega, entails_ren [] ⟨rfl, rfl, rfl, rfl, rfl, rfl, trivial⟩ ⟨rfl, rfl, trivial⟩ rfl rfl⟩
            show GOk _ ((l.take (i + 1)).filterMap (settleC y yes)) _
            rw [hnext, show settleC y yes l[i] = none from by unfold settleC; rw [if_pos hmine, if_neg (by rw [h4]; simp), if_neg h5]]; simpa using hg
      · have hmine : ¬ mineP y l[i] = true := by unfold mineP; rw [h2, h3]; simp
        refine ⟨fun h5 => ?_, fun h5 => ?_⟩
        · have h6 : l[i].locked = true := h2
          -- it stays
          refine ⟨[.freeze 2005], fun A cp m1 hd e2 e3 e4 e5 => ⟨[], ?_, ?_, fun old2 => ?_⟩⟩
          · show g.length + 1 ≤ maxLen; omega
          · show (g.length + 1) * 128 ≤ 140737488355328; omega
          · refine ⟨_, i64_succ (n := i) (by omega), ?_⟩
            have hdis2 := hdis.join hd
            have hd1 : Mem.Disj mn m1 := fun b o hb => hd b o (Mem.join_right hdis b o hb)
            have hvn : VerRow (mn.join m1) ⟨A, (l[i].vers).length, cp⟩ (l[i].vers) := row_of rfl e2 e3 e4 (fun hp => by
              obtain ⟨a', e6, e7⟩ := e5 hp
              exact ⟨a', e6, e7.mono' (Mem.join_right hd1)⟩)
            have hg2 := (hg.mono (Mem.le_join mn m1)).snoc (c := l[i]) hvn
            refine ⟨[], ⟨i + 1, g ++ [(l[i], ⟨A, (l[i].vers).length, cp⟩)], mn.join m1⟩, ⟨by show i + 1 ≤ x.n; omega, hdis2, ?_, by show (g ++ _).length ≤ i + 1; simp; omega⟩, by show x.n - (i + 1) < x.n - i; omega, ?_⟩
            · show GOk _ ((l.take (i + 1)).filterMap (settleC y yes)) _
              rw [hnext, show settleC y yes l[i] = some (l[i]) from by unfold settleC; rw [if_neg hmine, if_pos h6]]; exact hg2
            · exact entails_renM (Mem.join_assoc m mn m1) [] ⟨rfl, rfl, rfl, rfl, rfl, rfl, trivial⟩ ⟨congrArg some (crow_snoc g (l[i]) ⟨A, (l[i].vers).length, cp⟩), rfl, trivial⟩ rfl rfl
        · exact absurd (h2.symm.trans h5) (by simp)
    · have hmine : ¬ mineP y l[i] = true := by unfold mineP; rw [h2]; simp
      refine ⟨fun h5 => absurd (h2.symm.trans h5) (by simp), fun _ => ?_⟩
      refine ⟨fun h5 => ?_, fun h5 => ?_⟩
      · have h5 : 0 < l[i].vers.length := by simpa using h5
        -- it stays
        refine ⟨[.freeze 2005], fun A cp m1 hd e2 e3 e4 e5 => ⟨[], ?_, ?_, fun old2 => ?_⟩⟩
        · show g.length + 1 ≤ maxLen; omega
        · show (g.length + 1) * 128 ≤ 140737488355328; omega
        · refine ⟨_, i64_succ (n := i) (by omega), ?_⟩
          have hdis2 := hdis.join hd
          have hd1 : Mem.Disj mn m1 := fun b o hb => hd b o (Mem.join_right hdis b o hb)
          have hvn : VerRow (mn.join m1) ⟨A, (l[i].vers).length, cp⟩ (l[i].vers) := row_of rfl e2 e3 e4 (fun hp => by
            obtain ⟨a', e6, e7⟩ := e5 hp
            exact ⟨a', e6, e7.mono' (Mem.join_right hd1)⟩)
          have hg2 := (hg.mono (Mem.le_join mn m1)).snoc (c := l[i]) hvn
          refine ⟨[], ⟨i + 1, g ++ [(l[i], ⟨A, (l[i].vers).length, cp⟩)], mn.join m1⟩, ⟨by show i + 1 ≤ x.n; omega, hdis2, ?_, by show (g ++ _).length ≤ i + 1; simp; omega⟩, by show x.n - (i + 1) < x.n - i; omega, ?_⟩
          · show GOk _ ((l.take (i + 1)).filterMap (settleC y yes)) _
            rw [hnext, show settleC y yes l[i] = some (l[i]) from by unfold settleC; rw [if_neg hmine, if_neg (by rw [h2]; simp), if_pos h5]]; exact hg2
          · exact entails_renM (Mem.join_assoc m mn m1) [] ⟨rfl, rfl, rfl, rfl, rfl, rfl, trivial⟩ ⟨congrArg some (crow_snoc g (l[i]) ⟨A, (l[i].vers).length, cp⟩), rfl, trivial⟩ rfl rfl
      · have h5 : ¬ 0 < l[i].vers.length := by simpa using h5
        -- it goes
        refine ⟨_, i64_succ (n := i) (by omega), ?_⟩
        refine ⟨[], ⟨i + 1, g, mn⟩, ⟨by show i + 1 ≤ x.n; omega, hdis, ?_, by show g.length ≤ i + 1; omega⟩, by show x.n - (i + 1) < x.n - i; omega, entails_ren [] ⟨rfl, rfl, rfl, rfl, rfl, rfl, trivial⟩ ⟨rfl, rfl, trivial⟩ rfl rfl⟩
        show GOk _ ((l.take (i + 1)).filterMap (settleC y yes)) _
        rw [hnext, show settleC y yes l[i] = none from by unfold settleC; rw [if_neg hmine, if_neg (by rw [h2]; simp), if_neg h5]]; simpa using hg
  · have h1 : ¬ i < x.n := by simpa using h1
    rw [List.take_of_length_le (by omega)] at hg
    exact ⟨[], retXN [7] hdis ⟨g, hg, rfl, rfl⟩⟩
end Vc
end

section
open Go Go.Proofs Vc
namespace Vc

set_option maxHeartbeats 1000000 in
theorem f26 (m : Mem) (x : Sl) (l : List Cell) (y : Tri) (yes : Bool) (h : CellRow m x l) (hs : Small l) (hup : ∀ c ∈ l, VersUp c.vers) : FnX Try.prog 26 m [asl x, .agg (vmap y.c), .one (.v (.bool yes))] [] (NewCells 7 (l.filterMap (settleC y yes))) noPanic := by
  refine fnX (args := [asl x, .agg (vmap y.c), .one (.v (.bool yes))]) Γok mix Try.func26 rfl (by kernel_rfl) Try.ntmps26 rfl (by simp) (okv_cons rfl (okv_cons (okL_v rfl) (okv_cons rfl okv_nil))) ?_
  intro ρ W
  have hm := maxLen_le; have hs1 := hs.1
  have hmax : 2097152 ≤ maxLen := by decide
  refine ⟨[], callNC 1000 (f19 m x l h hs) rfl rfl (fun g0 mn0 hdis0 hg0 => ?_)⟩
  refine ⟨[.freeze 1003, .nilOwn 7 7 55 12], fun A c m1 hd1 e1 e2 e3 e4 => ?_⟩
  have hdb := hdis0.join hd1
  have hd01 : Mem.Disj mn0 m1 := fun b o hb => hd1 b o (Mem.join_right hdis0 b o hb)
  have hrow := hg0.row hd01 e1 e2 e3 e4
  generalize hx' : (⟨A, g0.length, c⟩ : Sl) = x' at hrow
  generalize hmb : mn0.join m1 = mb at hdb hrow
  have hx := hrow.bounds; have hn := hrow.n
  have hgl : g0.length = x'.n := by rw [← hx']
  refine ⟨⟨SeSt, fun s => s.i ≤ x'.n ∧ Mem.Disj m s.mn ∧ mb.le s.mn ∧ GOk s.g ((l.take s.i).filterMap (settleC y yes)) s.mn ∧ s.g.length ≤ s.i, fun s => x'.n - s.i,
    fun s => [(9, ai s.i), (8, asl x'), (7, .one (.own 7)), (4, .one (.ptr 4 0)), (2, .one (.v (.bool yes)))], fun s => [(7, crow s.g), (4, .box (vmap y.c) 33)], fun s => m.join s.mn,
    ⟨⟨0, [], mb⟩, ⟨Nat.zero_le _, hdb, Mem.le_refl _, ⟨rfl, fun p hp => by cases hp⟩, Nat.le_refl _⟩, entails_renM (by rw [← hmb]; exact Mem.join_assoc m mn0 m1) [] ⟨rfl, by rw [← hx']; rfl, rfl, rfl, rfl, trivial⟩ ⟨rfl, rfl, trivial⟩ rfl rfl⟩, fun s hi => ?_⟩⟩
  obtain ⟨i, g, mn⟩ := s
  obtain ⟨hin, hdis, hbl, hg, hgi⟩ := hi
  simp only at hin hdis hbl hg hgi
  refine ⟨fun h1 => ?_, fun h1 => ?_⟩
  · have h1 : i < x'.n := by simpa using h1
    have hlt : i < l.length := by omega
    obtain ⟨a, s, hA, hr, hv⟩ := hrow.at (List.getElem?_eq_getElem hlt)
    have hvm := hv.mono hbl
    have hle := Mem.le_trans hbl (Mem.join_right hdis)
    have hvn0 := hv.2
    have hvs := hs.2 _ (List.getElem_mem hlt)
    have hvu := hup _ (List.getElem_mem hlt)
    have hnext := fm_next hlt (settleC y yes)
    refine ⟨i, a, _, rfl, h1, hA, hr.mono' hle, ?_⟩
    refine ⟨fun h2 => ?_, fun h2 => ?_⟩
    · refine eq33 (a := l[i].lock.who) (b := y) rfl ?_
      refine ⟨fun h3 => ?_, fun h3 => ?_⟩
      · have hmine : mineP y l[i] = true := by unfold mineP; rw [h2, h3]; rfl
        refine ⟨fun h4 => ?_, fun h4 => ?_⟩
        · refine ⟨[], callXS [] 1000 (f52 (m.join mn) s l[i].vers ⟨l[i].lock.at_, l[i].lock.drop, l[i].lock.data⟩ (hv.mono hle) hvu hvs) rfl rfl trivial rfl rfl ?_⟩
          refine ⟨fun h5 => ?_, fun h5 => ?_⟩
          · have h5 : 0 < (withR l[i].vers ⟨l[i].lock.at_, l[i].lock.drop, l[i].lock.data⟩).length := by simpa using h5
            -- it stays, its versions one's own
            refine ⟨[.freeze 1005], fun A2 cp m2 hd e2 e3 e4 e5 => ⟨[], ?_, ?_, fun old2 => ?_⟩⟩
            · show g.length + 1 ≤ maxLen; omega
            · show (g.length + 1) * 128 ≤ 140737488355328; omega
            · refine ⟨_, i64_succ (n := i) (by omega), ?_⟩
              have hdis2 := hdis.join hd
              have hd1 : Mem.Disj mn m2 := fun b o hb => hd b o (Mem.join_right hdis b o hb)
              have hvn : VerRow (mn.join m2) ⟨A2, (withR l[i].vers ⟨l[i].lock.at_, l[i].lock.drop, l[i].lock.data⟩).length, cp⟩ (withR l[i].vers ⟨l[i].lock.at_, l[i].lock.drop, l[i].lock.data⟩) := row_of rfl e2 e3 e4 (fun hp => by
                obtain ⟨a', e6, e7⟩ := e5 hp
                exact ⟨a', e6, e7.mono' (Mem.join_right hd1)⟩)
              have hg2 := (hg.mono (Mem.le_join mn m2)).snoc (c := { l[i] with vers := withR l[i].vers ⟨l[i].lock.at_, l[i].lock.drop, l[i].lock.data⟩, locked := false, lock := Lk.zero }) hvn
              refine ⟨[], ⟨i + 1, g ++ [({ l[i] with vers := withR l[i].vers ⟨l[i].lock.at_, l[i].lock.drop, l[i].lock.data⟩, locked := false, lock := Lk.zero }, ⟨A2, (withR l[i].vers ⟨l[i].lock.at_, l[i].lock.drop, l[i].lock.data⟩).length, cp⟩)], mn.join m2⟩, ⟨by show i + 1 ≤ x'.n; omega, hdis2, Mem.le_trans hbl (Mem.le_join _ _), ?_, by show (g ++ _).length ≤ i + 1; simp; omega⟩, by show x'.n - (i + 1) < x'.n - i; omega, ?_⟩
              · show GOk _ ((l.take (i + 1)).filterMap (settleC y yes)) _
                rw [hnext, show settleC y yes l[i] = some ({ l[i] with vers := withR l[i].vers ⟨l[i].lock.at_, l[i].lock.drop, l[i].lock.data⟩, locked := false, lock := Lk.zero }) from by unfold settleC; rw [if_pos hmine, if_pos h4, if_pos h5]]; exact hg2
              · exact entails_renM (Mem.join_assoc m mn m2) [] ⟨rfl, rfl, rfl, rfl, rfl, trivial⟩ ⟨congrArg some (crow_snoc g ({ l[i] with vers := withR l[i].vers ⟨l[i].lock.at_, l[i].lock.drop, l[i].lock.data⟩, locked := false, lock := Lk.zero }) ⟨A2, (withR l[i].vers ⟨l[i].lock.at_, l[i].lock.drop, l[i].lock.data⟩).length, cp⟩), rfl, trivial⟩ rfl rfl
          · have h5 : ¬ 0 < (withR l[i].vers ⟨l[i].lock.at_, l[i].lock.drop, l[i].lock.data⟩).length := by simpa using h5
            -- it goes
            refine ⟨_, i64_succ (n := i) (by omega), ?_⟩
            refine ⟨[], ⟨i + 1, g, mn⟩, ⟨by show i + 1 ≤ x'.n; omega, hdis, hbl, ?_, by show g.length ≤ i + 1; omega⟩, by show x'.n - (i + 1) < x'.n - i; omega, entails_ren [] ⟨rfl, rfl, rfl, rfl, rfl, trivial⟩ ⟨rfl, rfl, trivial⟩ rfl rfl⟩
            show GOk _ ((l.take (i + 1)).filterMap (settleC y yes)) _
            rw [hnext, show settleC y yes l[i] = none from by unfold settleC; rw [if_pos hmine, if_pos h4, if_neg h5]]; simpa using hg
        · refine ⟨fun h5 => ?_, fun h5 => ?_⟩
          · have h5 : 0 < l[i].vers.length := by simp at h5; omega
            -- it stays, its versions as they lie
            refine ⟨[], [], ?_, ?_, fun old2 => ?_⟩
            · show g.length + 1 ≤ maxLen; omega
            · show (g.length + 1) * 128 ≤ 140737488355328; omega
            · refine ⟨_, i64_succ (n := i) (by omega), ?_⟩
              have hg2 := hg.snoc (c := { l[i] with locked := false, lock := Lk.zero }) (s := s) (hvm)
              refine ⟨[], ⟨i + 1, g ++ [({ l[i] with locked := false, lock := Lk.zero }, s)], mn⟩, ⟨by show i + 1 ≤ x'.n; omega, hdis, hbl, ?_, by show (g ++ _).length ≤ i + 1; simp; omega⟩, by show x'.n - (i + 1) < x'.n - i; omega, ?_⟩
              · show GOk _ ((l.take (i + 1)).filterMap (settleC y yes)) _
                rw [hnext, show settleC y yes l[i] = some ({ l[i] with locked := false, lock := Lk.zero }) from by unfold settleC; rw [if_pos hmine, if_neg (by rw [h4]; simp), if_pos h5]]; exact hg2
              · exact entails_ren [] ⟨rfl, rfl, rfl, rfl, rfl, trivial⟩ ⟨congrArg some (crow_snoc g ({ l[i] with locked := false, lock := Lk.zero }) s), rfl, trivial⟩ rfl rfl
          · have h5 : ¬ 0 < l[i].vers.length := by simp at h5; omega
            -- it goes
            refine ⟨_, i64_succ (n := i) (by omega), ?_⟩
            refine ⟨[], ⟨i + 1, g, mn⟩, ⟨by show i + 1 ≤ x'.n; omega, hdis, hbl, ?_, by show g.length ≤ i + 1; omega⟩, by show x'.n - (i + 1) < x'.n - i; omega, entails_ren [] ⟨rfl, rfl, rfl, rfl, rfl, trivial⟩ ⟨rfl, rfl, trivial⟩ rfl rfl⟩
            show GOk _ ((l.take (i + 1)).filterMap (settleC y yes)) _
            rw [hnext, show settleC y yes l[i] = none from by unfold settleC; rw [if_pos hmine, if_neg (by rw [h4]; simp), if_neg h5]]; simpa using hg
      · have hmine : ¬ mineP y l[i] = true := by unfold mineP; rw [h2, h3]; simp
        refine ⟨fun h5 => ?_, fun h5 => absurd (h2.symm.trans h5) (by simp)⟩
        have h6 : l[i].locked = true := h2
        -- it stays, its versions as they lie
        refine ⟨[], [], ?_, ?_, fun old2 => ?_⟩
        · show g.length + 1 ≤ maxLen; omega
        · show (g.length + 1) * 128 ≤ 140737488355328; omega
        · refine ⟨_, i64_succ (n := i) (by omega), ?_⟩
          have hg2 := hg.snoc (c := l[i]) (s := s) (hvm)
          refine ⟨[], ⟨i + 1, g ++ [(l[i], s)], mn⟩, ⟨by show i + 1 ≤ x'.n; omega, hdis, hbl, ?_, by show (g ++ _).length ≤ i + 1; simp; omega⟩, by show x'.n - (i + 1) < x'.n - i; omega, ?_⟩
          · show GOk _ ((l.take (i + 1)).filterMap (settleC y yes)) _
            rw [hnext, show settleC y yes l[i] = some (l[i]) from by unfold settleC; rw [if_neg hmine, if_pos h6]]; exact hg2
          · exact entails_ren [] ⟨rfl, rfl, rfl, rfl, rfl, trivial⟩ ⟨congrArg some (crow_snoc g (l[i]) s), rfl, trivial⟩ rfl rfl
    · have hmine : ¬ mineP y l[i] = true := by unfold mineP; rw [h2]; simp
      refine ⟨fun h5 => absurd (h2.symm.trans h5) (by simp), fun _ => ?_⟩
      refine ⟨fun h5 => ?_, fun h5 => ?_⟩
      · have h5 : 0 < l[i].vers.length := by simp at h5; omega
        -- it stays, its versions as they lie
        refine ⟨[], [], ?_, ?_, fun old2 => ?_⟩
        · show g.length + 1 ≤ maxLen; omega
        · show (g.length + 1) * 128 ≤ 140737488355328; omega
        · refine ⟨_, i64_succ (n := i) (by omega), ?_⟩
          have hg2 := hg.snoc (c := l[i]) (s := s) (hvm)
          refine ⟨[], ⟨i + 1, g ++ [(l[i], s)], mn⟩, ⟨by show i + 1 ≤ x'.n; omega, hdis, hbl, ?_, by show (g ++ _).length ≤ i + 1; simp; omega⟩, by show x'.n - (i + 1) < x'.n - i; omega, ?_⟩
          · show GOk _ ((l.take (i + 1)).filterMap (settleC y yes)) _
            rw [hnext, show settleC y yes l[i] = some (l[i]) from by unfold settleC; rw [if_neg hmine, if_neg (by rw [h2]; simp), if_pos h5]]; exact hg2
          · exact entails_ren [] ⟨rfl, rfl, rfl, rfl, rfl, trivial⟩ ⟨congrArg some (crow_snoc g (l[i]) s), rfl, trivial⟩ rfl rfl
      · have h5 : ¬ 0 < l[i].vers.length := by simp at h5; omega
        -- it goes
        refine ⟨_, i64_succ (n := i) (by omega), ?_⟩
        refine ⟨[], ⟨i + 1, g, mn⟩, ⟨by show i + 1 ≤ x'.n; omega, hdis, hbl, ?_, by show g.length ≤ i + 1; omega⟩, by show x'.n - (i + 1) < x'.n - i; omega, entails_ren [] ⟨rfl, rfl, rfl, rfl, rfl, trivial⟩ ⟨rfl, rfl, trivial⟩ rfl rfl⟩
        show GOk _ ((l.take (i + 1)).filterMap (settleC y yes)) _
        rw [hnext, show settleC y yes l[i] = none from by unfold settleC; rw [if_neg hmine, if_neg (by rw [h2]; simp), if_neg h5]]; simpa using hg
  · have h1 : ¬ i < x'.n := by simpa using h1
    rw [List.take_of_length_le (by omega)] at hg
    exact ⟨[], retXN [7] hdis ⟨g, hg, rfl, rfl⟩⟩
end Vc
end

section
open Go Go.Proofs Vc
namespace Vc

/-- from which version on a cell keeps them -/
def trimK (s : Stamp) (l : List Ver) : Nat := match l[upto l s - 1]? with
  | some v => if decide (0 < upto l s) && !v.drop then upto l s - 1 else upto l s
  | none => upto l s
def trimC (s : Stamp) (c : Cell) : Option Cell := if (c.locked || decide (0 < (c.vers.drop (trimK s c.vers)).length)) = true then some { c with vers := c.vers.drop (trimK s c.vers) } else none
theorem VerRow.drop {m : Mem} {x : Sl} {l : List Ver} (h : VerRow m x l) {lo : Nat} (hlo : lo ≤ l.length) : VerRow m (x.cut 4 lo x.n) (l.drop lo) := by
  have := Flat.cut h (fun _ => rfl) (lo := lo) (hi := l.length) hlo (Nat.le_refl _)
  rw [List.take_length] at this
  rw [h.2]; exact this

set_option maxHeartbeats 1000000 in
theorem f44 (m : Mem) (x : Sl) (l : List Cell) (b : Stamp) (h : CellRow m x l) (hs : Small l) (hup : ∀ c ∈ l, VersUp c.vers) : FnX Try.prog 44 m [asl x, .agg (vmap b.c)] [] (NewCells 5 (l.filterMap (trimC b))) noPanic := by
  refine fnX (args := [asl x, .agg (vmap b.c)]) Γok mix Try.func44 rfl (by kernel_rfl) Try.ntmps44 rfl (by simp) (okv_cons rfl (okv_cons (okL_v rfl) okv_nil)) ?_
  intro ρ W
  have hx := h.bounds; have hm := maxLen_le; have hn := h.n; have hs1 := hs.1
  have hmax : 2097152 ≤ maxLen := by decide
  refine ⟨[.nilOwn 5 5 55 12], ⟨⟨SeSt, fun s => s.i ≤ x.n ∧ Mem.Disj m s.mn ∧ GOk s.g ((l.take s.i).filterMap (trimC b)) s.mn ∧ s.g.length ≤ s.i, fun s => x.n - s.i,
    fun s => [(11, ai s.i), (10, ai x.n), (9, asl x), (5, .one (.own 5)), (3, .one (.ptr 3 0))], fun s => [(5, crow s.g), (3, .box (vmap b.c) 27)], fun s => m.join s.mn,
    ⟨⟨0, [], Mem.none⟩, ⟨Nat.zero_le _, Mem.disj_none m, ⟨rfl, fun p hp => by cases hp⟩, Nat.le_refl _⟩, entails_renM (Mem.join_none m).symm [] ⟨rfl, rfl, rfl, rfl, rfl, trivial⟩ ⟨rfl, rfl, trivial⟩ rfl rfl⟩, fun s hi => ?_⟩⟩⟩
  obtain ⟨i, g, mn⟩ := s
  obtain ⟨hin, hdis, hg, hgi⟩ := hi
  simp only at hin hdis hg hgi
  refine ⟨fun h1 => ?_, fun h1 => ?_⟩
  · have h1 : i < x.n := by simpa using h1
    have hlt : i < l.length := by omega
    obtain ⟨a, s, hA, hr, hv⟩ := h.at (List.getElem?_eq_getElem hlt)
    have hle : m.le (m.join mn) := Mem.le_join m mn
    have hvs := hs.2 _ (List.getElem_mem hlt)
    have hvu := hup _ (List.getElem_mem hlt)
    have hnext := fm_next hlt (trimC b)
    have hu := upto_le l[i].vers b
    have hlast := lastV_upto hvu b
    refine ⟨i, a, _, rfl, h1, hA, hr.mono' hle, ?_⟩
    refine ⟨[], callXS [] 1000 (f61 (m.join mn) l[i] s (hv.mono hle) hvs) rfl rfl trivial rfl rfl ?_⟩
    refine ⟨[.freeze 2005], fun A cp m1 hd e2 e3 e4 e5 => ?_⟩
    have hdis2 := hdis.join hd
    have hd1 : Mem.Disj mn m1 := fun b o hb => hd b o (Mem.join_right hdis b o hb)
    have hvn : VerRow (mn.join m1) ⟨A, l[i].vers.length, cp⟩ l[i].vers := row_of rfl e2 e3 e4 (fun hp => by
      obtain ⟨a', e6, e7⟩ := e5 hp
      exact ⟨a', e6, e7.mono' (Mem.join_right hd1)⟩)
    have hg2 := hg.mono (Mem.le_join mn m1)
    have hle2 : (mn.join m1).le ((m.join mn).join m1) := by rw [Mem.join_assoc]; exact Mem.join_right hdis2
    refine callS (f63 ((m.join mn).join m1) ⟨A, l[i].vers.length, cp⟩ l[i].vers b (hvn.mono hle2)) rfl rfl ?_
    refine ⟨fun h2 => ?_, fun h2 => ?_⟩
    · have h2 : 0 < upto l[i].vers b := by rw [hlast] at h2; simp at h2; omega
      have hul : upto l[i].vers b - 1 < l[i].vers.length := by omega
      have hgu := List.getElem?_eq_getElem hul
      obtain ⟨av, hvA, hvr⟩ := (hvn.mono hle2).at (fun _ => rfl) hgu
      refine ⟨upto l[i].vers b - 1, av, _, by rw [hlast]; omega, hul, hvA, hvr, ?_⟩
      refine ⟨fun h3 => ?_, fun h3 => ?_⟩
      · have hk : trimK b l[i].vers = upto l[i].vers b := by unfold trimK; rw [hgu]; simp [h3]
        refine ⟨((upto l[i].vers b : Nat) : Int), by rw [hlast, i64_in _ (by omega)]; omega, ?_⟩
        refine ⟨upto l[i].vers b, l[i].vers.length, hu, e3, rfl, rfl, ?_⟩
        have hvd := hvn.drop hu
        refine ⟨fun h5 => ?_, fun h5 => ⟨fun h6 => ?_, fun h6 => ?_⟩⟩
        · -- locked
          -- it stays
          refine ⟨[], [], ?_, ?_, fun old2 => ?_⟩
          · show g.length + 1 ≤ maxLen; omega
          · show (g.length + 1) * 128 ≤ 140737488355328; omega
          · refine ⟨_, i64_succ (n := i) (by omega), ?_⟩
            have hg3 := hg2.snoc (c := { l[i] with vers := l[i].vers.drop (upto l[i].vers b) }) (s := Sl.cut ⟨A, l[i].vers.length, cp⟩ 4 (upto l[i].vers b) l[i].vers.length) (hvd)
            refine ⟨[], ⟨i + 1, g ++ [({ l[i] with vers := l[i].vers.drop (upto l[i].vers b) }, Sl.cut ⟨A, l[i].vers.length, cp⟩ 4 (upto l[i].vers b) l[i].vers.length)], mn.join m1⟩, ⟨by show i + 1 ≤ x.n; omega, hdis2, ?_, by show (g ++ _).length ≤ i + 1; simp; omega⟩, by show x.n - (i + 1) < x.n - i; omega, ?_⟩
            · show GOk _ ((l.take (i + 1)).filterMap (trimC b)) _
              rw [hnext, show trimC b l[i] = some ({ l[i] with vers := l[i].vers.drop (upto l[i].vers b) }) from by unfold trimC; rw [hk, if_pos (by rw [h5]; rfl)]]; exact hg3
            · exact entails_renM (Mem.join_assoc m mn m1) [] ⟨rfl, rfl, rfl, rfl, rfl, trivial⟩ ⟨congrArg some (crow_snoc g ({ l[i] with vers := l[i].vers.drop (upto l[i].vers b) }) (Sl.cut ⟨A, l[i].vers.length, cp⟩ 4 (upto l[i].vers b) l[i].vers.length)), rfl, trivial⟩ rfl rfl
        · have h6 : 0 < (l[i].vers.drop (upto l[i].vers b)).length := by rw [List.length_drop]; have h6 := of_decide_eq_true h6; (try simp only at h6); omega
          -- it stays
          refine ⟨[], [], ?_, ?_, fun old2 => ?_⟩
          · show g.length + 1 ≤ maxLen; omega
          · show (g.length + 1) * 128 ≤ 140737488355328; omega
          · refine ⟨_, i64_succ (n := i) (by omega), ?_⟩
            have hg3 := hg2.snoc (c := { l[i] with vers := l[i].vers.drop (upto l[i].vers b) }) (s := Sl.cut ⟨A, l[i].vers.length, cp⟩ 4 (upto l[i].vers b) l[i].vers.length) (hvd)
            refine ⟨[], ⟨i + 1, g ++ [({ l[i] with vers := l[i].vers.drop (upto l[i].vers b) }, Sl.cut ⟨A, l[i].vers.length, cp⟩ 4 (upto l[i].vers b) l[i].vers.length)], mn.join m1⟩, ⟨by show i + 1 ≤ x.n; omega, hdis2, ?_, by show (g ++ _).length ≤ i + 1; simp; omega⟩, by show x.n - (i + 1) < x.n - i; omega, ?_⟩
            · show GOk _ ((l.take (i + 1)).filterMap (trimC b)) _
              rw [hnext, show trimC b l[i] = some ({ l[i] with vers := l[i].vers.drop (upto l[i].vers b) }) from by unfold trimC; rw [hk, if_pos (by rw [decide_eq_true h6]; simp)]]; exact hg3
            · exact entails_renM (Mem.join_assoc m mn m1) [] ⟨rfl, rfl, rfl, rfl, rfl, trivial⟩ ⟨congrArg some (crow_snoc g ({ l[i] with vers := l[i].vers.drop (upto l[i].vers b) }) (Sl.cut ⟨A, l[i].vers.length, cp⟩ 4 (upto l[i].vers b) l[i].vers.length)), rfl, trivial⟩ rfl rfl
        · have h6 : ¬ 0 < (l[i].vers.drop (upto l[i].vers b)).length := by rw [List.length_drop]; have h6 := of_decide_eq_false h6; (try simp only at h6); omega
          -- it goes
          refine ⟨_, i64_succ (n := i) (by omega), ?_⟩
          refine ⟨[], ⟨i + 1, g, mn.join m1⟩, ⟨by show i + 1 ≤ x.n; omega, hdis2, ?_, by show g.length ≤ i + 1; omega⟩, by show x.n - (i + 1) < x.n - i; omega, entails_renM (Mem.join_assoc m mn m1) [] ⟨rfl, rfl, rfl, rfl, rfl, trivial⟩ ⟨rfl, rfl, trivial⟩ rfl rfl⟩
          show GOk _ ((l.take (i + 1)).filterMap (trimC b)) _
          rw [hnext, show trimC b l[i] = none from by unfold trimC; rw [hk, if_neg (by rw [decide_eq_false h6, h5]; simp)]]; simpa using hg2
      · have hk : trimK b l[i].vers = upto l[i].vers b - 1 := by unfold trimK; rw [hgu]; simp [h3, h2]
        refine ⟨upto l[i].vers b - 1, l[i].vers.length, by omega, e3, by show lastV _ _ = _; rw [hlast]; omega, rfl, ?_⟩
        have hvd := hvn.drop (lo := upto l[i].vers b - 1) (by omega)
        refine ⟨fun h5 => ?_, fun h5 => ⟨fun h6 => ?_, fun h6 => ?_⟩⟩
        · -- locked
          -- it stays
          refine ⟨[], [], ?_, ?_, fun old2 => ?_⟩
          · show g.length + 1 ≤ maxLen; omega
          · show (g.length + 1) * 128 ≤ 140737488355328; omega
          · refine ⟨_, i64_succ (n := i) (by omega), ?_⟩
            have hg3 := hg2.snoc (c := { l[i] with vers := l[i].vers.drop (upto l[i].vers b - 1) }) (s := Sl.cut ⟨A, l[i].vers.length, cp⟩ 4 (upto l[i].vers b - 1) l[i].vers.length) (hvd)
            refine ⟨[], ⟨i + 1, g ++ [({ l[i] with vers := l[i].vers.drop (upto l[i].vers b - 1) }, Sl.cut ⟨A, l[i].vers.length, cp⟩ 4 (upto l[i].vers b - 1) l[i].vers.length)], mn.join m1⟩, ⟨by show i + 1 ≤ x.n; omega, hdis2, ?_, by show (g ++ _).length ≤ i + 1; simp; omega⟩, by show x.n - (i + 1) < x.n - i; omega, ?_⟩
            · show GOk _ ((l.take (i + 1)).filterMap (trimC b)) _
              rw [hnext, show trimC b l[i] = some ({ l[i] with vers := l[i].vers.drop (upto l[i].vers b - 1) }) from by unfold trimC; rw [hk, if_pos (by rw [h5]; rfl)]]; exact hg3
            · exact entails_renM (Mem.join_assoc m mn m1) [] ⟨rfl, rfl, rfl, rfl, rfl, trivial⟩ ⟨congrArg some (crow_snoc g ({ l[i] with vers := l[i].vers.drop (upto l[i].vers b - 1) }) (Sl.cut ⟨A, l[i].vers.length, cp⟩ 4 (upto l[i].vers b - 1) l[i].vers.length)), rfl, trivial⟩ rfl rfl
        · have h6 : 0 < (l[i].vers.drop (upto l[i].vers b - 1)).length := by rw [List.length_drop]; have h6 := of_decide_eq_true h6; (try simp only at h6); omega
          -- it stays
          refine ⟨[], [], ?_, ?_, fun old2 => ?_⟩
          · show g.length + 1 ≤ maxLen; omega
          · show (g.length + 1) * 128 ≤ 140737488355328; omega
          · refine ⟨_, i64_succ (n := i) (by omega), ?_⟩
            have hg3 := hg2.snoc (c := { l[i] with vers := l[i].vers.drop (upto l[i].vers b - 1) }) (s := Sl.cut ⟨A, l[i].vers.length, cp⟩ 4 (upto l[i].vers b - 1) l[i].vers.length) (hvd)
            refine ⟨[], ⟨i + 1, g ++ [({ l[i] with vers := l[i].vers.drop (upto l[i].vers b - 1) }, Sl.cut ⟨A, l[i].vers.length, cp⟩ 4 (upto l[i].vers b - 1) l[i].vers.length)], mn.join m1⟩, ⟨by show i + 1 ≤ x.n; omega, hdis2, ?_, by show (g ++ _).length ≤ i + 1; simp; omega⟩, by show x.n - (i + 1) < x.n - i; omega, ?_⟩
            · show GOk _ ((l.take (i + 1)).filterMap (trimC b)) _
              rw [hnext, show trimC b l[i] = some ({ l[i] with vers := l[i].vers.drop (upto l[i].vers b - 1) }) from by unfold trimC; rw [hk, if_pos (by rw [decide_eq_true h6]; simp)]]; exact hg3
            · exact entails_renM (Mem.join_assoc m mn m1) [] ⟨rfl, rfl, rfl, rfl, rfl, trivial⟩ ⟨congrArg some (crow_snoc g ({ l[i] with vers := l[i].vers.drop (upto l[i].vers b - 1) }) (Sl.cut ⟨A, l[i].vers.length, cp⟩ 4 (upto l[i].vers b - 1) l[i].vers.length)), rfl, trivial⟩ rfl rfl
        · have h6 : ¬ 0 < (l[i].vers.drop (upto l[i].vers b - 1)).length := by rw [List.length_drop]; have h6 := of_decide_eq_false h6; (try simp only at h6); omega
          -- it goes
          refine ⟨_, i64_succ (n := i) (by omega), ?_⟩
          refine ⟨[], ⟨i + 1, g, mn.join m1⟩, ⟨by show i + 1 ≤ x.n; omega, hdis2, ?_, by show g.length ≤ i + 1; omega⟩, by show x.n - (i + 1) < x.n - i; omega, entails_renM (Mem.join_assoc m mn m1) [] ⟨rfl, rfl, rfl, rfl, rfl, trivial⟩ ⟨rfl, rfl, trivial⟩ rfl rfl⟩
          show GOk _ ((l.take (i + 1)).filterMap (trimC b)) _
          rw [hnext, show trimC b l[i] = none from by unfold trimC; rw [hk, if_neg (by rw [decide_eq_false h6, h5]; simp)]]; simpa using hg2
    · have h2 : upto l[i].vers b = 0 := by rw [hlast] at h2; simp at h2; omega
      have hk : trimK b l[i].vers = 0 := by unfold trimK; rw [h2]; cases l[i].vers[0 - 1]? <;> simp
      refine ⟨fun h5 => ?_, fun h5 => ⟨fun h6 => ?_, fun h6 => ?_⟩⟩
      · -- locked
        -- it stays
        refine ⟨[], [], ?_, ?_, fun old2 => ?_⟩
        · show g.length + 1 ≤ maxLen; omega
        · show (g.length + 1) * 128 ≤ 140737488355328; omega
        · refine ⟨_, i64_succ (n := i) (by omega), ?_⟩
          have hg3 := hg2.snoc (c := { l[i] with vers := l[i].vers.drop (0) }) (s := ⟨A, l[i].vers.length, cp⟩) (hvn)
          refine ⟨[], ⟨i + 1, g ++ [({ l[i] with vers := l[i].vers.drop (0) }, ⟨A, l[i].vers.length, cp⟩)], mn.join m1⟩, ⟨by show i + 1 ≤ x.n; omega, hdis2, ?_, by show (g ++ _).length ≤ i + 1; simp; omega⟩, by show x.n - (i + 1) < x.n - i; omega, ?_⟩
          · show GOk _ ((l.take (i + 1)).filterMap (trimC b)) _
            rw [hnext, show trimC b l[i] = some ({ l[i] with vers := l[i].vers.drop (0) }) from by unfold trimC; rw [hk, if_pos (by rw [h5]; rfl)]]; exact hg3
          · exact entails_renM (Mem.join_assoc m mn m1) [] ⟨rfl, rfl, rfl, rfl, rfl, trivial⟩ ⟨congrArg some (crow_snoc g ({ l[i] with vers := l[i].vers.drop (0) }) (⟨A, l[i].vers.length, cp⟩)), rfl, trivial⟩ rfl rfl
      · have h6 : 0 < (l[i].vers.drop (0)).length := by rw [List.length_drop]; have h6 := of_decide_eq_true h6; (try simp only at h6); omega
        -- it stays
        refine ⟨[], [], ?_, ?_, fun old2 => ?_⟩
        · show g.length + 1 ≤ maxLen; omega
        · show (g.length + 1) * 128 ≤ 140737488355328; omega
        · refine ⟨_, i64_succ (n := i) (by omega), ?_⟩
          have hg3 := hg2.snoc (c := { l[i] with vers := l[i].vers.drop (0) }) (s := ⟨A, l[i].vers.length, cp⟩) (hvn)
          refine ⟨[], ⟨i + 1, g ++ [({ l[i] with vers := l[i].vers.drop (0) }, ⟨A, l[i].vers.length, cp⟩)], mn.join m1⟩, ⟨by show i + 1 ≤ x.n; omega, hdis2, ?_, by show (g ++ _).length ≤ i + 1; simp; omega⟩, by show x.n - (i + 1) < x.n - i; omega, ?_⟩
          · show GOk _ ((l.take (i + 1)).filterMap (trimC b)) _
            rw [hnext, show trimC b l[i] = some ({ l[i] with vers := l[i].vers.drop (0) }) from by unfold trimC; rw [hk, if_pos (by rw [decide_eq_true h6]; simp)]]; exact hg3
          · exact entails_renM (Mem.join_assoc m mn m1) [] ⟨rfl, rfl, rfl, rfl, rfl, trivial⟩ ⟨congrArg some (crow_snoc g ({ l[i] with vers := l[i].vers.drop (0) }) (⟨A, l[i].vers.length, cp⟩)), rfl, trivial⟩ rfl rfl
      · have h6 : ¬ 0 < (l[i].vers.drop (0)).length := by rw [List.length_drop]; have h6 := of_decide_eq_false h6; (try simp only at h6); omega
        -- it goes
        refine ⟨_, i64_succ (n := i) (by omega), ?_⟩
        refine ⟨[], ⟨i + 1, g, mn.join m1⟩, ⟨by show i + 1 ≤ x.n; omega, hdis2, ?_, by show g.length ≤ i + 1; omega⟩, by show x.n - (i + 1) < x.n - i; omega, entails_renM (Mem.join_assoc m mn m1) [] ⟨rfl, rfl, rfl, rfl, rfl, trivial⟩ ⟨rfl, rfl, trivial⟩ rfl rfl⟩
        show GOk _ ((l.take (i + 1)).filterMap (trimC b)) _
        rw [hnext, show trimC b l[i] = none from by unfold trimC; rw [hk, if_neg (by rw [decide_eq_false h6, h5]; simp)]]; simpa using hg2
  · have h1 : ¬ i < x.n := by simpa using h1
    rw [List.take_of_length_le (by omega)] at hg
    exact ⟨[], retXN [5] hdis ⟨g, hg, rfl, rfl⟩⟩
end Vc
end

section
open Go Go.Proofs Vc
namespace Vc

set_option maxHeartbeats 1000000 in
theorem f27 (m : Mem) (x : Sl) (l : List Cell) (b : Stamp) (h : CellRow m x l) (hs : Small l) (hup : ∀ c ∈ l, VersUp c.vers) : FnX Try.prog 27 m [asl x, .agg (vmap b.c)] [] (NewCells 5 (l.filterMap (trimC b))) noPanic := by
  refine fnX (args := [asl x, .agg (vmap b.c)]) Γok mix Try.func27 rfl (by kernel_rfl) Try.ntmps27 rfl (by simp) (okv_cons rfl (okv_cons (okL_v rfl) okv_nil)) ?_
  intro ρ W
  have hm := maxLen_le; have hs1 := hs.1
  have hmax : 2097152 ≤ maxLen := by decide
  refine ⟨[], callNC 1000 (f19 m x l h hs) rfl rfl (fun g0 mn0 hdis0 hg0 => ?_)⟩
  refine ⟨[.freeze 1003, .nilOwn 5 5 55 12], fun A c m1 hd1 e1 e2 e3 e4 => ?_⟩
  have hdb := hdis0.join hd1
  have hd01 : Mem.Disj mn0 m1 := fun b o hb => hd1 b o (Mem.join_right hdis0 b o hb)
  have hrow := hg0.row hd01 e1 e2 e3 e4
  generalize hx' : (⟨A, g0.length, c⟩ : Sl) = x' at hrow
  generalize hmb : mn0.join m1 = mb at hdb hrow
  have hx := hrow.bounds; have hn := hrow.n
  have hgl : g0.length = x'.n := by rw [← hx']
  refine ⟨⟨SeSt, fun s => s.i ≤ x'.n ∧ Mem.Disj m s.mn ∧ mb.le s.mn ∧ GOk s.g ((l.take s.i).filterMap (trimC b)) s.mn ∧ s.g.length ≤ s.i, fun s => x'.n - s.i,
    fun s => [(7, ai s.i), (6, asl x'), (5, .one (.own 5)), (3, .one (.ptr 3 0))], fun s => [(5, crow s.g), (3, .box (vmap b.c) 27)], fun s => m.join s.mn,
    ⟨⟨0, [], mb⟩, ⟨Nat.zero_le _, hdb, Mem.le_refl _, ⟨rfl, fun p hp => by cases hp⟩, Nat.le_refl _⟩, entails_renM (by rw [← hmb]; exact Mem.join_assoc m mn0 m1) [] ⟨rfl, by rw [← hx']; rfl, rfl, rfl, trivial⟩ ⟨rfl, rfl, trivial⟩ rfl rfl⟩, fun s hi => ?_⟩⟩
  obtain ⟨i, g, mn⟩ := s
  obtain ⟨hin, hdis2, hbl, hg2, hgi⟩ := hi
  simp only at hin hdis2 hbl hg2 hgi
  refine ⟨fun h1 => ?_, fun h1 => ?_⟩
  · have h1 : i < x'.n := by simpa using h1
    have hlt : i < l.length := by omega
    obtain ⟨a, s, hA, hr, hv⟩ := hrow.at (List.getElem?_eq_getElem hlt)
    have hvm := hv.mono hbl
    have hle := Mem.le_trans hbl (Mem.join_right hdis2)
    have hvn0 := hv.2
    have hvcap := hv.1.cap
    have hvs := hs.2 _ (List.getElem_mem hlt)
    have hvu := hup _ (List.getElem_mem hlt)
    have hnext := fm_next hlt (trimC b)
    have hu := upto_le l[i].vers b
    have hsp := upto_spec hvu b
    refine ⟨i, a, _, rfl, h1, hA, hr.mono' hle, ?_⟩
    refine ⟨[], ⟨⟨Nat, fun k => k ≤ upto l[i].vers b, fun k => l[i].vers.length - k,
      fun k => [(9, ai k), (8, .one (.ptr 8 0)), (7, ai i), (6, asl x'), (5, .one (.own 5)), (3, .one (.ptr 3 0))], fun _ => [(8, .box (vmap (l[i].c s)) 55), (5, crow g), (3, .box (vmap b.c) 27)], fun _ => m.join mn,
      ⟨0, Nat.zero_le _, entails_ren [] ⟨rfl, rfl, rfl, rfl, rfl, rfl, trivial⟩ ⟨rfl, rfl, rfl, trivial⟩ rfl rfl⟩, fun k hk => ?_⟩⟩⟩
    refine draw Γok [(2, 8), (6, 3), (8, 8)] [13] (.take 0 (.take 1 (.take 2 (.take 3 (.take 4 (.take 5 (.take 6 (.take 7 (.take 8 (.take 9 (.take 10 (.take 11 (.take 12 (.pcall 13 (.take 14 (.take 15 .done)))))))))))))))) (by kernel_rfl) ?_
    have fin : k = upto l[i].vers b → True := fun _ => trivial
    refine ⟨fun h2 => ?_, fun h2 => ?_⟩
    · have h2 : k < s.n := by simpa using h2
      have hkl : k < l[i].vers.length := by omega
      have hgk := List.getElem?_eq_getElem hkl
      obtain ⟨ak, hkA, hkr⟩ := (hv.mono hle).at (fun _ => rfl) hgk
      refine ⟨k, ak, _, rfl, h2, hkA, hkr, ?_⟩
      refine pureS (f48 (m.join mn) b l[i].vers[k].at_) rfl rfl ?_
      refine ⟨fun h3 => ?_, fun h3 => ?_⟩
      · have h3 : b.less l[i].vers[k].at_ = false := by simpa using h3
        have := (hsp k _ hgk).1 h3
        refine ⟨_, i64_succ (n := k) (by omega), ?_⟩
        exact ⟨[], k + 1, by omega, by show l[i].vers.length - (k + 1) < l[i].vers.length - k; omega, entails_ren [] ⟨rfl, rfl, rfl, rfl, rfl, rfl, trivial⟩ ⟨rfl, rfl, rfl, trivial⟩ rfl rfl⟩
      · have h3 : b.less l[i].vers[k].at_ = true := by simpa using h3
        have hke : k = upto l[i].vers b := by
          have : ¬ k < upto l[i].vers b := fun hh => by rw [(hsp k _ hgk).2 hh] at h3; cases h3
          omega
        subst hke
        refine ⟨fun h4 => ?_, fun h4 => ?_⟩
        · have h4 : 0 < upto l[i].vers b := by simp at h4; omega
          have hul : upto l[i].vers b - 1 < l[i].vers.length := by omega
          have hgu := List.getElem?_eq_getElem hul
          obtain ⟨av, hvA, hvr⟩ := (hv.mono hle).at (fun _ => rfl) hgu
          refine ⟨((upto l[i].vers b - 1 : Nat) : Int), by rw [i64_in _ (by omega)]; omega, ?_⟩
          refine ⟨upto l[i].vers b - 1, av, _, rfl, by omega, hvA, hvr, ?_⟩
          refine ⟨fun h7 => ?_, fun h7 => ?_⟩
          · have h7 : l[i].vers[upto l[i].vers b - 1].drop = false := by simpa using h7
            have hk : trimK b l[i].vers = upto l[i].vers b - 1 := by unfold trimK; rw [hgu]; simp [h7, h4]
            refine ⟨((upto l[i].vers b - 1 : Nat) : Int), by rw [i64_in _ (by omega)]; omega, ?_⟩
            refine ⟨upto l[i].vers b - 1, s.n, by omega, by omega, rfl, rfl, ?_⟩
            have hvd := VerRow.drop hvm (lo := upto l[i].vers b - 1) (by omega)
            refine ⟨fun h5 => ?_, fun h5 => ⟨fun h6 => ?_, fun h6 => ?_⟩⟩
            · -- locked
              -- it stays
              refine ⟨[], [], ?_, ?_, fun old2 => ?_⟩
              · show g.length + 1 ≤ maxLen; omega
              · show (g.length + 1) * 128 ≤ 140737488355328; omega
              · refine ⟨_, i64_succ (n := i) (by omega), ?_⟩
                have hg3 := hg2.snoc (c := { l[i] with vers := l[i].vers.drop (upto l[i].vers b - 1) }) (s := Sl.cut s 4 (upto l[i].vers b - 1) s.n) (hvd)
                refine ⟨[], ⟨i + 1, g ++ [({ l[i] with vers := l[i].vers.drop (upto l[i].vers b - 1) }, Sl.cut s 4 (upto l[i].vers b - 1) s.n)], mn⟩, ⟨by show i + 1 ≤ x'.n; omega, hdis2, hbl, ?_, by show (g ++ _).length ≤ i + 1; simp; omega⟩, by show x'.n - (i + 1) < x'.n - i; omega, ?_⟩
                · show GOk _ ((l.take (i + 1)).filterMap (trimC b)) _
                  rw [hnext, show trimC b l[i] = some ({ l[i] with vers := l[i].vers.drop (upto l[i].vers b - 1) }) from by unfold trimC; rw [hk, if_pos (by rw [h5]; rfl)]]; exact hg3
                · exact entails_renM rfl [] ⟨rfl, rfl, rfl, rfl, trivial⟩ ⟨congrArg some (crow_snoc g ({ l[i] with vers := l[i].vers.drop (upto l[i].vers b - 1) }) (Sl.cut s 4 (upto l[i].vers b - 1) s.n)), rfl, trivial⟩ rfl rfl
            · have h6 : 0 < (l[i].vers.drop (upto l[i].vers b - 1)).length := by rw [List.length_drop]; have h6 := of_decide_eq_true h6; (try simp only at h6); omega
              -- it stays
              refine ⟨[], [], ?_, ?_, fun old2 => ?_⟩
              · show g.length + 1 ≤ maxLen; omega
              · show (g.length + 1) * 128 ≤ 140737488355328; omega
              · refine ⟨_, i64_succ (n := i) (by omega), ?_⟩
                have hg3 := hg2.snoc (c := { l[i] with vers := l[i].vers.drop (upto l[i].vers b - 1) }) (s := Sl.cut s 4 (upto l[i].vers b - 1) s.n) (hvd)
                refine ⟨[], ⟨i + 1, g ++ [({ l[i] with vers := l[i].vers.drop (upto l[i].vers b - 1) }, Sl.cut s 4 (upto l[i].vers b - 1) s.n)], mn⟩, ⟨by show i + 1 ≤ x'.n; omega, hdis2, hbl, ?_, by show (g ++ _).length ≤ i + 1; simp; omega⟩, by show x'.n - (i + 1) < x'.n - i; omega, ?_⟩
                · show GOk _ ((l.take (i + 1)).filterMap (trimC b)) _
                  rw [hnext, show trimC b l[i] = some ({ l[i] with vers := l[i].vers.drop (upto l[i].vers b - 1) }) from by unfold trimC; rw [hk, if_pos (by rw [decide_eq_true h6]; simp)]]; exact hg3
                · exact entails_renM rfl [] ⟨rfl, rfl, rfl, rfl, trivial⟩ ⟨congrArg some (crow_snoc g ({ l[i] with vers := l[i].vers.drop (upto l[i].vers b - 1) }) (Sl.cut s 4 (upto l[i].vers b - 1) s.n)), rfl, trivial⟩ rfl rfl
            · have h6 : ¬ 0 < (l[i].vers.drop (upto l[i].vers b - 1)).length := by rw [List.length_drop]; have h6 := of_decide_eq_false h6; (try simp only at h6); omega
              -- it goes
              refine ⟨_, i64_succ (n := i) (by omega), ?_⟩
              refine ⟨[], ⟨i + 1, g, mn⟩, ⟨by show i + 1 ≤ x'.n; omega, hdis2, hbl, ?_, by show g.length ≤ i + 1; omega⟩, by show x'.n - (i + 1) < x'.n - i; omega, entails_renM rfl [] ⟨rfl, rfl, rfl, rfl, trivial⟩ ⟨rfl, rfl, trivial⟩ rfl rfl⟩
              show GOk _ ((l.take (i + 1)).filterMap (trimC b)) _
              rw [hnext, show trimC b l[i] = none from by unfold trimC; rw [hk, if_neg (by rw [decide_eq_false h6, h5]; simp)]]; simpa using hg2
          · have h7 : l[i].vers[upto l[i].vers b - 1].drop = true := by simpa using h7
            have hk : trimK b l[i].vers = upto l[i].vers b := by unfold trimK; rw [hgu]; simp [h7]
            refine ⟨upto l[i].vers b, s.n, by omega, by omega, rfl, rfl, ?_⟩
            have hvd := VerRow.drop hvm (lo := upto l[i].vers b) hu
            refine ⟨fun h5 => ?_, fun h5 => ⟨fun h6 => ?_, fun h6 => ?_⟩⟩
            · -- locked
              -- it stays
              refine ⟨[], [], ?_, ?_, fun old2 => ?_⟩
              · show g.length + 1 ≤ maxLen; omega
              · show (g.length + 1) * 128 ≤ 140737488355328; omega
              · refine ⟨_, i64_succ (n := i) (by omega), ?_⟩
                have hg3 := hg2.snoc (c := { l[i] with vers := l[i].vers.drop (upto l[i].vers b) }) (s := Sl.cut s 4 (upto l[i].vers b) s.n) (hvd)
                refine ⟨[], ⟨i + 1, g ++ [({ l[i] with vers := l[i].vers.drop (upto l[i].vers b) }, Sl.cut s 4 (upto l[i].vers b) s.n)], mn⟩, ⟨by show i + 1 ≤ x'.n; omega, hdis2, hbl, ?_, by show (g ++ _).length ≤ i + 1; simp; omega⟩, by show x'.n - (i + 1) < x'.n - i; omega, ?_⟩
                · show GOk _ ((l.take (i + 1)).filterMap (trimC b)) _
                  rw [hnext, show trimC b l[i] = some ({ l[i] with vers := l[i].vers.drop (upto l[i].vers b) }) from by unfold trimC; rw [hk, if_pos (by rw [h5]; rfl)]]; exact hg3
                · exact entails_renM rfl [] ⟨rfl, rfl, rfl, rfl, trivial⟩ ⟨congrArg some (crow_snoc g ({ l[i] with vers := l[i].vers.drop (upto l[i].vers b) }) (Sl.cut s 4 (upto l[i].vers b) s.n)), rfl, trivial⟩ rfl rfl
            · have h6 : 0 < (l[i].vers.drop (upto l[i].vers b)).length := by rw [List.length_drop]; have h6 := of_decide_eq_true h6; (try simp only at h6); omega
              -- it stays
              refine ⟨[], [], ?_, ?_, fun old2 => ?_⟩
              · show g.length + 1 ≤ maxLen; omega
              · show (g.length + 1) * 128 ≤ 140737488355328; omega
              · refine ⟨_, i64_succ (n := i) (by omega), ?_⟩
                have hg3 := hg2.snoc (c := { l[i] with vers := l[i].vers.drop (upto l[i].vers b) }) (s := Sl.cut s 4 (upto l[i].vers b) s.n) (hvd)
                refine ⟨[], ⟨i + 1, g ++ [({ l[i] with vers := l[i].vers.drop (upto l[i].vers b) }, Sl.cut s 4 (upto l[i].vers b) s.n)], mn⟩, ⟨by show i + 1 ≤ x'.n; omega, hdis2, hbl, ?_, by show (g ++ _).length ≤ i + 1; simp; omega⟩, by show x'.n - (i + 1) < x'.n - i; omega, ?_⟩
                · show GOk _ ((l.take (i + 1)).filterMap (trimC b)) _
                  rw [hnext, show trimC b l[i] = some ({ l[i] with vers := l[i].vers.drop (upto l[i].vers b) }) from by unfold trimC; rw [hk, if_pos (by rw [decide_eq_true h6]; simp)]]; exact hg3
                · exact entails_renM rfl [] ⟨rfl, rfl, rfl, rfl, trivial⟩ ⟨congrArg some (crow_snoc g ({ l[i] with vers := l[i].vers.drop (upto l[i].vers b) }) (Sl.cut s 4 (upto l[i].vers b) s.n)), rfl, trivial⟩ rfl rfl
            · have h6 : ¬ 0 < (l[i].vers.drop (upto l[i].vers b)).length := by rw [List.length_drop]; have h6 := of_decide_eq_false h6; (try simp only at h6); omega
              -- it goes
              refine ⟨_, i64_succ (n := i) (by omega), ?_⟩
              refine ⟨[], ⟨i + 1, g, mn⟩, ⟨by show i + 1 ≤ x'.n; omega, hdis2, hbl, ?_, by show g.length ≤ i + 1; omega⟩, by show x'.n - (i + 1) < x'.n - i; omega, entails_renM rfl [] ⟨rfl, rfl, rfl, rfl, trivial⟩ ⟨rfl, rfl, trivial⟩ rfl rfl⟩
              show GOk _ ((l.take (i + 1)).filterMap (trimC b)) _
              rw [hnext, show trimC b l[i] = none from by unfold trimC; rw [hk, if_neg (by rw [decide_eq_false h6, h5]; simp)]]; simpa using hg2
        · have h4 : upto l[i].vers b = 0 := by simp at h4; omega
          have hk : trimK b l[i].vers = upto l[i].vers b := by unfold trimK; rw [h4]; cases l[i].vers[0 - 1]? <;> simp
          refine ⟨upto l[i].vers b, s.n, by omega, by omega, rfl, rfl, ?_⟩
          have hvd := VerRow.drop hvm (lo := upto l[i].vers b) hu
          refine ⟨fun h5 => ?_, fun h5 => ⟨fun h6 => ?_, fun h6 => ?_⟩⟩
          · -- locked
            -- it stays
            refine ⟨[], [], ?_, ?_, fun old2 => ?_⟩
            · show g.length + 1 ≤ maxLen; omega
            · show (g.length + 1) * 128 ≤ 140737488355328; omega
            · refine ⟨_, i64_succ (n := i) (by omega), ?_⟩
              have hg3 := hg2.snoc (c := { l[i] with vers := l[i].vers.drop (upto l[i].vers b) }) (s := Sl.cut s 4 (upto l[i].vers b) s.n) (hvd)
              refine ⟨[], ⟨i + 1, g ++ [({ l[i] with vers := l[i].vers.drop (upto l[i].vers b) }, Sl.cut s 4 (upto l[i].vers b) s.n)], mn⟩, ⟨by show i + 1 ≤ x'.n; omega, hdis2, hbl, ?_, by show (g ++ _).length ≤ i + 1; simp; omega⟩, by show x'.n - (i + 1) < x'.n - i; omega, ?_⟩
              · show GOk _ ((l.take (i + 1)).filterMap (trimC b)) _
                rw [hnext, show trimC b l[i] = some ({ l[i] with vers := l[i].vers.drop (upto l[i].vers b) }) from by unfold trimC; rw [hk, if_pos (by rw [h5]; rfl)]]; exact hg3
              · exact entails_renM rfl [] ⟨rfl, rfl, rfl, rfl, trivial⟩ ⟨congrArg some (crow_snoc g ({ l[i] with vers := l[i].vers.drop (upto l[i].vers b) }) (Sl.cut s 4 (upto l[i].vers b) s.n)), rfl, trivial⟩ rfl rfl
          · have h6 : 0 < (l[i].vers.drop (upto l[i].vers b)).length := by rw [List.length_drop]; have h6 := of_decide_eq_true h6; (try simp only at h6); omega
            -- it stays
            refine ⟨[], [], ?_, ?_, fun old2 => ?_⟩
            · show g.length + 1 ≤ maxLen; omega
            · show (g.length + 1) * 128 ≤ 140737488355328; omega
            · refine ⟨_, i64_succ (n := i) (by omega), ?_⟩
              have hg3 := hg2.snoc (c := { l[i] with vers := l[i].vers.drop (upto l[i].vers b) }) (s := Sl.cut s 4 (upto l[i].vers b) s.n) (hvd)
              refine ⟨[], ⟨i + 1, g ++ [({ l[i] with vers := l[i].vers.drop (upto l[i].vers b) }, Sl.cut s 4 (upto l[i].vers b) s.n)], mn⟩, ⟨by show i + 1 ≤ x'.n; omega, hdis2, hbl, ?_, by show (g ++ _).length ≤ i + 1; simp; omega⟩, by show x'.n - (i + 1) < x'.n - i; omega, ?_⟩
              · show GOk _ ((l.take (i + 1)).filterMap (trimC b)) _
                rw [hnext, show trimC b l[i] = some ({ l[i] with vers := l[i].vers.drop (upto l[i].vers b) }) from by unfold trimC; rw [hk, if_pos (by rw [decide_eq_true h6]; simp)]]; exact hg3
              · exact entails_renM rfl [] ⟨rfl, rfl, rfl, rfl, trivial⟩ ⟨congrArg some (crow_snoc g ({ l[i] with vers := l[i].vers.drop (upto l[i].vers b) }) (Sl.cut s 4 (upto l[i].vers b) s.n)), rfl, trivial⟩ rfl rfl
          · have h6 : ¬ 0 < (l[i].vers.drop (upto l[i].vers b)).length := by rw [List.length_drop]; have h6 := of_decide_eq_false h6; (try simp only at h6); omega
            -- it goes
            refine ⟨_, i64_succ (n := i) (by omega), ?_⟩
            refine ⟨[], ⟨i + 1, g, mn⟩, ⟨by show i + 1 ≤ x'.n; omega, hdis2, hbl, ?_, by show g.length ≤ i + 1; omega⟩, by show x'.n - (i + 1) < x'.n - i; omega, entails_renM rfl [] ⟨rfl, rfl, rfl, rfl, trivial⟩ ⟨rfl, rfl, trivial⟩ rfl rfl⟩
            show GOk _ ((l.take (i + 1)).filterMap (trimC b)) _
            rw [hnext, show trimC b l[i] = none from by unfold trimC; rw [hk, if_neg (by rw [decide_eq_false h6, h5]; simp)]]; simpa using hg2
    · have h2 : ¬ k < s.n := by simpa using h2
      have hke : k = upto l[i].vers b := by omega
      subst hke
      refine ⟨fun h4 => ?_, fun h4 => ?_⟩
      · have h4 : 0 < upto l[i].vers b := by simp at h4; omega
        have hul : upto l[i].vers b - 1 < l[i].vers.length := by omega
        have hgu := List.getElem?_eq_getElem hul
        obtain ⟨av, hvA, hvr⟩ := (hv.mono hle).at (fun _ => rfl) hgu
        refine ⟨((upto l[i].vers b - 1 : Nat) : Int), by rw [i64_in _ (by omega)]; omega, ?_⟩
        refine ⟨upto l[i].vers b - 1, av, _, rfl, by omega, hvA, hvr, ?_⟩
        refine ⟨fun h7 => ?_, fun h7 => ?_⟩
        · have h7 : l[i].vers[upto l[i].vers b - 1].drop = false := by simpa using h7
          have hk : trimK b l[i].vers = upto l[i].vers b - 1 := by unfold trimK; rw [hgu]; simp [h7, h4]
          refine ⟨((upto l[i].vers b - 1 : Nat) : Int), by rw [i64_in _ (by omega)]; omega, ?_⟩
          refine ⟨upto l[i].vers b - 1, s.n, by omega, by omega, rfl, rfl, ?_⟩
          have hvd := VerRow.drop hvm (lo := upto l[i].vers b - 1) (by omega)
          refine ⟨fun h5 => ?_, fun h5 => ⟨fun h6 => ?_, fun h6 => ?_⟩⟩
          · -- locked
            -- it stays
            refine ⟨[], [], ?_, ?_, fun old2 => ?_⟩
            · show g.length + 1 ≤ maxLen; omega
            · show (g.length + 1) * 128 ≤ 140737488355328; omega
            · refine ⟨_, i64_succ (n := i) (by omega), ?_⟩
              have hg3 := hg2.snoc (c := { l[i] with vers := l[i].vers.drop (upto l[i].vers b - 1) }) (s := Sl.cut s 4 (upto l[i].vers b - 1) s.n) (hvd)
              refine ⟨[], ⟨i + 1, g ++ [({ l[i] with vers := l[i].vers.drop (upto l[i].vers b - 1) }, Sl.cut s 4 (upto l[i].vers b - 1) s.n)], mn⟩, ⟨by show i + 1 ≤ x'.n; omega, hdis2, hbl, ?_, by show (g ++ _).length ≤ i + 1; simp; omega⟩, by show x'.n - (i + 1) < x'.n - i; omega, ?_⟩
              · show GOk _ ((l.take (i + 1)).filterMap (trimC b)) _
                rw [hnext, show trimC b l[i] = some ({ l[i] with vers := l[i].vers.drop (upto l[i].vers b - 1) }) from by unfold trimC; rw [hk, if_pos (by rw [h5]; rfl)]]; exact hg3
              · exact entails_renM rfl [] ⟨rfl, rfl, rfl, rfl, trivial⟩ ⟨congrArg some (crow_snoc g ({ l[i] with vers := l[i].vers.drop (upto l[i].vers b - 1) }) (Sl.cut s 4 (upto l[i].vers b - 1) s.n)), rfl, trivial⟩ rfl rfl
          · have h6 : 0 < (l[i].vers.drop (upto l[i].vers b - 1)).length := by rw [List.length_drop]; have h6 := of_decide_eq_true h6; (try simp only at h6); omega
            -- it stays
            refine ⟨[], [], ?_, ?_, fun old2 => ?_⟩
            · show g.length + 1 ≤ maxLen; omega
            · show (g.length + 1) * 128 ≤ 140737488355328; omega
            · refine ⟨_, i64_succ (n := i) (by omega), ?_⟩
              have hg3 := hg2.snoc (c := { l[i] with vers := l[i].vers.drop (upto l[i].vers b - 1) }) (s := Sl.cut s 4 (upto l[i].vers b - 1) s.n) (hvd)
              refine ⟨[], ⟨i + 1, g ++ [({ l[i] with vers := l[i].vers.drop (upto l[i].vers b - 1) }, Sl.cut s 4 (upto l[i].vers b - 1) s.n)], mn⟩, ⟨by show i + 1 ≤ x'.n; omega, hdis2, hbl, ?_, by show (g ++ _).length ≤ i + 1; simp; omega⟩, by show x'.n - (i + 1) < x'.n - i; omega, ?_⟩
              · show GOk _ ((l.take (i + 1)).filterMap (trimC b)) _
                rw [hnext, show trimC b l[i] = some ({ l[i] with vers := l[i].vers.drop (upto l[i].vers b - 1) }) from by unfold trimC; rw [hk, if_pos (by rw [decide_eq_true h6]; simp)]]; exact hg3
              · exact entails_renM rfl [] ⟨rfl, rfl, rfl, rfl, trivial⟩ ⟨congrArg some (crow_snoc g ({ l[i] with vers := l[i].vers.drop (upto l[i].vers b - 1) }) (Sl.cut s 4 (upto l[i].vers b - 1) s.n)), rfl, trivial⟩ rfl rfl
          · have h6 : ¬ 0 < (l[i].vers.drop (upto l[i].vers b - 1)).length := by rw [List.length_drop]; have h6 := of_decide_eq_false h6; (try simp only at h6); omega
            -- it goes
            refine ⟨_, i64_succ (n := i) (by omega), ?_⟩
            refine ⟨[], ⟨i + 1, g, mn⟩, ⟨by show i + 1 ≤ x'.n; omega, hdis2, hbl, ?_, by show g.length ≤ i + 1; omega⟩, by show x'.n - (i + 1) < x'.n - i; omega, entails_renM rfl [] ⟨rfl, rfl, rfl, rfl, trivial⟩ ⟨rfl, rfl, trivial⟩ rfl rfl⟩
            show GOk _ ((l.take (i + 1)).filterMap (trimC b)) _
            rw [hnext, show trimC b l[i] = none from by unfold trimC; rw [hk, if_neg (by rw [decide_eq_false h6, h5]; simp)]]; simpa using hg2
        · have h7 : l[i].vers[upto l[i].vers b - 1].drop = true := by simpa using h7
          have hk : trimK b l[i].vers = upto l[i].vers b := by unfold trimK; rw [hgu]; simp [h7]
          refine ⟨upto l[i].vers b, s.n, by omega, by omega, rfl, rfl, ?_⟩
          have hvd := VerRow.drop hvm (lo := upto l[i].vers b) hu
          refine ⟨fun h5 => ?_, fun h5 => ⟨fun h6 => ?_, fun h6 => ?_⟩⟩
          · -- locked
            -- it stays
            refine ⟨[], [], ?_, ?_, fun old2 => ?_⟩
            · show g.length + 1 ≤ maxLen; omega
            · show (g.length + 1) * 128 ≤ 140737488355328; omega
            · refine ⟨_, i64_succ (n := i) (by omega), ?_⟩
              have hg3 := hg2.snoc (c := { l[i] with vers := l[i].vers.drop (upto l[i].vers b) }) (s := Sl.cut s 4 (upto l[i].vers b) s.n) (hvd)
              refine ⟨[], ⟨i + 1, g ++ [({ l[i] with vers := l[i].vers.drop (upto l[i].vers b) }, Sl.cut s 4 (upto l[i].vers b) s.n)], mn⟩, ⟨by show i + 1 ≤ x'.n; omega, hdis2, hbl, ?_, by show (g ++ _).length ≤ i + 1; simp; omega⟩, by show x'.n - (i + 1) < x'.n - i; omega, ?_⟩
              · show GOk _ ((l.take (i + 1)).filterMap (trimC b)) _
                rw [hnext, show trimC b l[i] = some ({ l[i] with vers := l[i].vers.drop (upto l[i].vers b) }) from by unfold trimC; rw [hk, if_pos (by rw [h5]; rfl)]]; exact hg3
              · exact entails_renM rfl [] ⟨rfl, rfl, rfl, rfl, trivial⟩ ⟨congrArg some (crow_snoc g ({ l[i] with vers := l[i].vers.drop (upto l[i].vers b) }) (Sl.cut s 4 (upto l[i].vers b) s.n)), rfl, trivial⟩ rfl rfl
          · have h6 : 0 < (l[i].vers.drop (upto l[i].vers b)).length := by rw [List.length_drop]; have h6 := of_decide_eq_true h6; (try simp only at h6); omega
            -- it stays
            refine ⟨[], [], ?_, ?_, fun old2 => ?_⟩
            · show g.length + 1 ≤ maxLen; omega
            · show (g.length + 1) * 128 ≤ 140737488355328; omega
            · refine ⟨_, i64_succ (n := i) (by omega), ?_⟩
              have hg3 := hg2.snoc (c := { l[i] with vers := l[i].vers.drop (upto l[i].vers b) }) (s := Sl.cut s 4 (upto l[i].vers b) s.n) (hvd)
              refine ⟨[], ⟨i + 1, g ++ [({ l[i] with vers := l[i].vers.drop (upto l[i].vers b) }, Sl.cut s 4 (upto l[i].vers b) s.n)], mn⟩, ⟨by show i + 1 ≤ x'.n; omega, hdis2, hbl, ?_, by show (g ++ _).length ≤ i + 1; simp; omega⟩, by show x'.n - (i + 1) < x'.n - i; omega, ?_⟩
              · show GOk _ ((l.take (i + 1)).filterMap (trimC b)) _
                rw [hnext, show trimC b l[i] = some ({ l[i] with vers := l[i].vers.drop (upto l[i].vers b) }) from by unfold trimC; rw [hk, if_pos (by rw [decide_eq_true h6]; simp)]]; exact hg3
              · exact entails_renM rfl [] ⟨rfl, rfl, rfl, rfl, trivial⟩ ⟨congrArg some (crow_snoc g ({ l[i] with vers := l[i].vers.drop (upto l[i].vers b) }) (Sl.cut s 4 (upto l[i].vers b) s.n)), rfl, trivial⟩ rfl rfl
          · have h6 : ¬ 0 < (l[i].vers.drop (upto l[i].vers b)).length := by rw [List.length_drop]; have h6 := of_decide_eq_false h6; (try simp only at h6); omega
            -- it goes
            refine ⟨_, i64_succ (n := i) (by omega), ?_⟩
            refine ⟨[], ⟨i + 1, g, mn⟩, ⟨by show i + 1 ≤ x'.n; omega, hdis2, hbl, ?_, by show g.length ≤ i + 1; omega⟩, by show x'.n - (i + 1) < x'.n - i; omega, entails_renM rfl [] ⟨rfl, rfl, rfl, rfl, trivial⟩ ⟨rfl, rfl, trivial⟩ rfl rfl⟩
            show GOk _ ((l.take (i + 1)).filterMap (trimC b)) _
            rw [hnext, show trimC b l[i] = none from by unfold trimC; rw [hk, if_neg (by rw [decide_eq_false h6, h5]; simp)]]; simpa using hg2
      · have h4 : upto l[i].vers b = 0 := by simp at h4; omega
        have hk : trimK b l[i].vers = upto l[i].vers b := by unfold trimK; rw [h4]; cases l[i].vers[0 - 1]? <;> simp
        refine ⟨upto l[i].vers b, s.n, by omega, by omega, rfl, rfl, ?_⟩
        have hvd := VerRow.drop hvm (lo := upto l[i].vers b) hu
        refine ⟨fun h5 => ?_, fun h5 => ⟨fun h6 => ?_, fun h6 => ?_⟩⟩
        · -- locked
          -- it stays
          refine ⟨[], [], ?_, ?_, fun old2 => ?_⟩
          · show g.length + 1 ≤ maxLen; omega
          · show (g.length + 1) * 128 ≤ 140737488355328; omega
          · refine ⟨_, i64_succ (n := i) (by omega), ?_⟩
            have hg3 := hg2.snoc (c := { l[i] with vers := l[i].vers.drop (upto l[i].vers b) }) (s := Sl.cut s 4 (upto l[i].vers b) s.n) (hvd)
            refine ⟨[], ⟨i + 1, g ++ [({ l[i] with vers := l[i].vers.drop (upto l[i].vers b) }, Sl.cut s 4 (upto l[i].vers b) s.n)], mn⟩, ⟨by show i + 1 ≤ x'.n; omega, hdis2, hbl, ?_, by show (g ++ _).length ≤ i + 1; simp; omega⟩, by show x'.n - (i + 1) < x'.n - i; omega, ?_⟩
            · show GOk _ ((l.take (i + 1)).filterMap (trimC b)) _
              rw [hnext, show trimC b l[i] = some ({ l[i] with vers := l[i].vers.drop (upto l[i].vers b) }) from by unfold trimC; rw [hk, if_pos (by rw [h5]; rfl)]]; exact hg3
            · exact entails_renM rfl [] ⟨rfl, rfl, rfl, rfl, trivial⟩ ⟨congrArg some (crow_snoc g ({ l[i] with vers := l[i].vers.drop (upto l[i].vers b) }) (Sl.cut s 4 (upto l[i].vers b) s.n)), rfl, trivial⟩ rfl rfl
        · have h6 : 0 < (l[i].vers.drop (upto l[i].vers b)).length := by rw [List.length_drop]; have h6 := of_decide_eq_true h6; (try simp only at h6); omega
          -- it stays
          refine ⟨[], [], ?_, ?_, fun old2 => ?_⟩
          · show g.length + 1 ≤ maxLen; omega
          · show (g.length + 1) * 128 ≤ 140737488355328; omega
          · refine ⟨_, i64_succ (n := i) (by omega), ?_⟩
            have hg3 := hg2.snoc (c := { l[i] with vers := l[i].vers.drop (upto l[i].vers b) }) (s := Sl.cut s 4 (upto l[i].vers b) s.n) (hvd)
            refine ⟨[], ⟨i + 1, g ++ [({ l[i] with vers := l[i].vers.drop (upto l[i].vers b) }, Sl.cut s 4 (upto l[i].vers b) s.n)], mn⟩, ⟨by show i + 1 ≤ x'.n; omega, hdis2, hbl, ?_, by show (g ++ _).length ≤ i + 1; simp; omega⟩, by show x'.n - (i + 1) < x'.n - i; omega, ?_⟩
            · show GOk _ ((l.take (i + 1)).filterMap (trimC b)) _
              rw [hnext, show trimC b l[i] = some ({ l[i] with vers := l[i].vers.drop (upto l[i].vers b) }) from by unfold trimC; rw [hk, if_pos (by rw [decide_eq_true h6]; simp)]]; exact hg3
            · exact entails_renM rfl [] ⟨rfl, rfl, rfl, rfl, trivial⟩ ⟨congrArg some (crow_snoc g ({ l[i] with vers := l[i].vers.drop (upto l[i].vers b) }) (Sl.cut s 4 (upto l[i].vers b) s.n)), rfl, trivial⟩ rfl rfl
        · have h6 : ¬ 0 < (l[i].vers.drop (upto l[i].vers b)).length := by rw [List.length_drop]; have h6 := of_decide_eq_false h6; (try simp only at h6); omega
          -- it goes
          refine ⟨_, i64_succ (n := i) (by omega), ?_⟩
          refine ⟨[], ⟨i + 1, g, mn⟩, ⟨by show i + 1 ≤ x'.n; omega, hdis2, hbl, ?_, by show g.length ≤ i + 1; omega⟩, by show x'.n - (i + 1) < x'.n - i; omega, entails_renM rfl [] ⟨rfl, rfl, rfl, rfl, trivial⟩ ⟨rfl, rfl, trivial⟩ rfl rfl⟩
          show GOk _ ((l.take (i + 1)).filterMap (trimC b)) _
          rw [hnext, show trimC b l[i] = none from by unfold trimC; rw [hk, if_neg (by rw [decide_eq_false h6, h5]; simp)]]; simpa using hg2
  · have h1 : ¬ i < x'.n := by simpa using h1
    rw [List.take_of_length_le (by omega)] at hg2
    exact ⟨[], retXN [5] hdis2 ⟨g, hg2, rfl, rfl⟩⟩
end Vc
end

section
open Go Go.Proofs Vc
namespace Vc

theorem flat_upd {α : Type} {f : α → List Value} {sz : Nat} (hf : ∀ x, (f x).length = sz) {l : List α} {k : Nat} {x : α} (hk : l[k]? = some x) (x' : α) (o : Nat) (us : List Value) (hon : o + us.length ≤ sz) (hx : f x' = (f x).take o ++ us ++ (f x).drop (o + us.length)) :
    (l.flatMap f).take (k * sz + o) ++ us ++ (l.flatMap f).drop (k * sz + o + us.length) = (l.set k x').flatMap f := by
  obtain ⟨hlt, rfl⟩ := List.getElem?_eq_some_iff.1 hk
  rw [← flat_set hf x' l k hlt, hx]
  have hself := flat_set hf l[k] l k hlt
  rw [List.set_getElem_self] at hself
  have hPl : ((l.flatMap f).take (k * sz)).length = k * sz := by
    rw [List.length_take, flat_length hf]
    exact Nat.min_eq_left (Nat.mul_le_mul_right _ (Nat.le_of_lt hlt))
  generalize (l.flatMap f).take (k * sz) = P at hself hPl ⊢
  generalize (l.flatMap f).drop (k * sz + sz) = S at hself ⊢
  rw [← hself]
  have hX := hf l[k]
  generalize f l[k] = X at hX ⊢
  rw [← hPl]
  have e1 : (P ++ X ++ S).take (P.length + o) = P ++ X.take o := by rw [List.append_assoc, List.take_length_add_append, List.take_append_of_le_length (by omega)]
  have e2 : (P ++ X ++ S).drop (P.length + o + us.length) = X.drop (o + us.length) ++ S := by rw [List.append_assoc, Nat.add_assoc, List.drop_length_add_append, List.drop_append_of_le_length (by omega)]
  rw [e1, e2]
  simp

def lockOf (w : Wr) (k : Lk) : Lk := { k with drop := w.drop, data := if w.drop = true then ByteArray.empty else w.data }
def lockR (l : List Cell) (w : Wr) (k : Lk) : List Cell :=
  match l[lb l w.key]? with
  | some c => if findL l w.key = true then l.set (lb l w.key) { c with locked := true, lock := lockOf w k } else l.take (lb l w.key) ++ [⟨w.key, [], true, lockOf w k⟩] ++ l.drop (lb l w.key)
  | none => l.take (lb l w.key) ++ [⟨w.key, [], true, lockOf w k⟩] ++ l.drop (lb l w.key)
theorem findL_lt {l : List Cell} {key : ByteArray} (h : findL l key = true) : lb l key < l.length := by
  unfold findL at h
  cases hg : l[lb l key]? with
  | none => rw [hg] at h; cases h
  | some c => exact (List.getElem?_eq_some_iff.1 hg).1
theorem lockR_new {l : List Cell} {w : Wr} {k : Lk} (h : findL l w.key = false) : lockR l w k = l.take (lb l w.key) ++ [⟨w.key, [], true, lockOf w k⟩] ++ l.drop (lb l w.key) := by
  unfold lockR
  split
  · rw [if_neg (by rw [h]; simp)]
  · rfl
theorem lockR_old {l : List Cell} {w : Wr} {k : Lk} (h : findL l w.key = true) {c : Cell} (hc : l[lb l w.key]? = some c) : lockR l w k = l.set (lb l w.key) { c with locked := true, lock := lockOf w k } := by
  unfold lockR
  rw [hc]
  simp only
  rw [if_pos h]

/-- The two stores that lock a cell. -/
theorem lock_cells {g : Gs} {k : Nat} {c : Cell} {s : Sl} (hk : g[k]? = some (c, s)) (q : Lk) :
    ((g.cells.take (k * 12 + 2) ++ [Value.bool true] ++ g.cells.drop (k * 12 + 2 + 1)).take (k * 12 + 3) ++ q.c ++ (g.cells.take (k * 12 + 2) ++ [Value.bool true] ++ g.cells.drop (k * 12 + 2 + 1)).drop (k * 12 + 3 + 9)) = Gs.cells (g.set k ({ c with locked := true, lock := q }, s)) := by
  have hlt := (List.getElem?_eq_some_iff.1 hk).1
  have h1 := flat_upd (f := fun p : Cell × Sl => p.1.c p.2) (sz := 12) (fun _ => rfl) hk ({ c with locked := true }, s) 2 [Value.bool true] (by decide) rfl
  have e1 : g.cells.take (k * 12 + 2) ++ [Value.bool true] ++ g.cells.drop (k * 12 + 2 + 1) = Gs.cells (g.set k ({ c with locked := true }, s)) := h1
  rw [e1]
  have hk2 : (g.set k ({ c with locked := true }, s))[k]? = some ({ c with locked := true }, s) := by rw [List.getElem?_set_self hlt]
  have h2 := flat_upd (f := fun p : Cell × Sl => p.1.c p.2) (sz := 12) (fun _ => rfl) hk2 ({ c with locked := true, lock := q }, s) 3 q.c (by show 3 + 9 ≤ 12; decide) rfl
  rw [List.set_set] at h2
  exact h2
theorem GOk.set {g : Gs} {l : List Cell} {mn : Mem} (h : GOk g l mn) {k : Nat} {c : Cell} {s : Sl} (hc : VerRow mn s c.vers) : GOk (g.set k (c, s)) (l.set k c) mn := by
  refine ⟨by rw [List.map_set, h.1], fun p hp => ?_⟩
  rcases List.mem_or_eq_of_mem_set hp with hp | rfl
  · exact h.2 p hp
  · exact hc
theorem GOk.ins {g : Gs} {l : List Cell} {mn : Mem} (h : GOk g l mn) {k : Nat} {c : Cell} {s : Sl} (hc : VerRow mn s c.vers) : GOk (g.take k ++ [(c, s)] ++ g.drop k) (l.take k ++ [c] ++ l.drop k) mn := by
  refine ⟨by rw [List.map_append, List.map_append, List.map_take, List.map_drop, h.1]; rfl, fun p hp => ?_⟩
  rcases List.mem_append.1 hp with hp | hp
  · rcases List.mem_append.1 hp with hp | hp
    · exact h.2 p (List.mem_of_mem_take hp)
    · have : p = (c, s) := by simpa using hp
      subst this; exact hc
  · exact h.2 p (List.mem_of_mem_drop hp)
theorem set_ins {α : Type} {l : List α} {k : Nat} (hk : k ≤ l.length) (a b : α) : (l.take k ++ [a] ++ l.drop k).set k b = l.take k ++ [b] ++ l.drop k ∧ (l.take k ++ [a] ++ l.drop k)[k]? = some a := by
  have hl : (l.take k).length = k := by rw [List.length_take]; exact Nat.min_eq_left hk
  constructor
  · rw [List.append_assoc, List.set_append_right _ _ (by omega), hl]; simp
  · rw [List.append_assoc, List.getElem?_append_right (by omega), hl]; simp
theorem verNil (mn : Mem) : VerRow mn Sl.nil [] := ⟨⟨rfl, Nat.le_refl _, Nat.zero_le _, fun h => absurd h (by decide)⟩, rfl⟩
set_option maxHeartbeats 1000000 in
theorem f60 (m : Mem) (x : Sl) (l : List Cell) (w : Wr) (k : Lk) (h : CellRow m x l) (hs : Small l) (hup : KeysUp l) : FnX Try.prog 60 m [asl x, .agg (vmap w.c), .agg (vmap k.c)] [] (NewCells 1003 (lockR l w k)) noPanic := by
  refine fnX (args := [asl x, .agg (vmap w.c), .agg (vmap k.c)]) Γok mix Try.func60 rfl (by kernel_rfl) Try.ntmps60 rfl (by simp) (okv_cons rfl (okv_cons (okL_v rfl) (okv_cons (okL_v rfl) okv_nil))) ?_
  intro ρ W
  have hm := maxLen_le; have hs1 := hs.1
  have hmax : 2097152 ≤ maxLen := by decide
  have hlb := lb_le l w.key
  refine draw_cut [(0, asl x), (4, .one (.ptr 4 0)), (5, .one (.ptr 5 0))] [(4, .box (vmap w.c) 63), (5, .box (vmap ({ k with drop := w.drop, data := w.data } : Lk).c) 53)] m ?_ ?_
  · refine draw Γok [(1, 4), (3, 4)] [5, 7] (.take 0 (.take 1 (.take 2 (.take 3 (.take 4 (.one 5 [4] (.take 6 (.one 7 [] .done)))))))) (by kernel_rfl) ?_
    exact entails_ren [] ⟨rfl, rfl, rfl, trivial⟩ ⟨rfl, rfl, trivial⟩ rfl rfl
  refine ⟨fun h1 => ⟨[.cut], cutR [] (F' := [(0, asl x), (4, .one (.ptr 4 0)), (5, .one (.ptr 5 0)), (19, asl x)]) (B' := [(4, .box (vmap w.c) 63), (5, .box (vmap (lockOf w k).c) 53)]) ⟨rfl, rfl, rfl, rfl, trivial⟩ ⟨rfl, by unfold lockOf; rw [h1]; rfl, trivial⟩ rfl rfl ?_⟩, fun h1 => ⟨[.cut], cutR [] (F' := [(0, asl x), (4, .one (.ptr 4 0)), (5, .one (.ptr 5 0)), (19, asl x)]) (B' := [(4, .box (vmap w.c) 63), (5, .box (vmap (lockOf w k).c) 53)]) ⟨rfl, rfl, rfl, rfl, trivial⟩ ⟨rfl, by unfold lockOf; rw [h1]; rfl, trivial⟩ rfl rfl ?_⟩⟩
  all_goals
    clear h1
    refine callNC 1000 (f74 m x l h hs) rfl rfl (fun g mn hd hg => ?_)
    have hgl := hg.len
    refine ⟨[], KeptNode.call (ws := []) (PureNode.kept ?_)⟩
    refine callSP [1003] (v := vib (lb l w.key) (findL l w.key)) rfl (fun A c m1 hd1 e1 e2 e3 e4 => ⟨_, rfl, f73 ((m.join mn).join m1) ⟨A, g.length, c⟩ l w.key ((hg.mono (Mem.join_right hd)).row hd1 e1 e2 e3 e4) hup⟩) rfl ?_
    refine ⟨fun h2 => ?_, fun h2 => ?_⟩
    · have h2 : findL l w.key = false := by simpa using h2
      refine ⟨[], [.keep [8, 4, 5]], ?_⟩
      refine KeptNode.call (ws := []) ?_
      refine keptRes [(0, 1003), (1, 35)] 10000 [] [(0, crow g), (1, .own 1 (Cell.c ⟨w.key, [], false, Lk.zero⟩ Sl.nil) 55 12)] (.one (.own 0)) [(0, .own (g.length + 1) (g.cells.take (lb l w.key * 12) ++ Cell.c ⟨w.key, [], false, Lk.zero⟩ Sl.nil ++ g.cells.drop (lb l w.key * 12)) 55 12)] ⟨[.one (.own 0), ai (lb l w.key), .one (.own 1)], rfl, f75 (m.join mn) g.length (lb l w.key) g.cells (Cell.c ⟨w.key, [], false, Lk.zero⟩ Sl.nil) (by omega) (by omega)⟩ rfl ⟨rfl, rfl, trivial⟩ rfl rfl ?_
      have hins := flat_ins (f := fun p : Cell × Sl => p.1.c p.2) (sz := 12) (fun _ => rfl) (⟨w.key, [], false, Lk.zero⟩, Sl.nil) g (lb l w.key)
      obtain ⟨hset, hget⟩ := set_ins (l := g) (k := lb l w.key) (by omega) ((⟨w.key, [], false, Lk.zero⟩ : Cell), Sl.nil) ((⟨w.key, [], true, lockOf w k⟩ : Cell), Sl.nil)
      have hlk := lock_cells hget (lockOf w k)
      have hlen1 : (Gs.cells (g.take (lb l w.key) ++ [((⟨w.key, [], false, Lk.zero⟩ : Cell), Sl.nil)] ++ g.drop (lb l w.key))).length = (g.length + 1) * 12 := by rw [Gs.cells_len, ins_len (by omega)]
      replace hins : g.cells.take (lb l w.key * 12) ++ Cell.c ⟨w.key, [], false, Lk.zero⟩ Sl.nil ++ g.cells.drop (lb l w.key * 12) = Gs.cells (g.take (lb l w.key) ++ [((⟨w.key, [], false, Lk.zero⟩ : Cell), Sl.nil)] ++ g.drop (lb l w.key)) := hins
      rw [hins]
      refine draw Γok [(4, 5)] [7, 10] (.take 0 (.take 1 (.take 2 (.take 3 (.take 4 (.take 5 (.take 6 (.one 7 [5] (.take 8 (.take 9 (.one 10 [] .done))))))))))) (by kernel_rfl) ?_
      refine ⟨lb l w.key, rfl, by omega, by show 0 < g.length + 1; omega, by show lb l w.key * 12 + 2 + 1 ≤ _; rw [hlen1]; omega, ?_⟩
      refine ⟨lb l w.key, rfl, by omega, by show 0 < g.length + 1; omega, ?_, ?_⟩
      · show lb l w.key * 12 + 3 + 9 ≤ (List.length _)
        rw [List.length_append, List.length_append, List.length_take, List.length_drop, hlen1]
        show _ ≤ min (lb l w.key * 12 + 2) ((g.length + 1) * 12) + 1 + ((g.length + 1) * 12 - (lb l w.key * 12 + 2 + 1))
        omega
      · refine ⟨[], retXO (.one (.own 1003)) [(1003, crow (g.take (lb l w.key) ++ [((⟨w.key, [], true, lockOf w k⟩ : Cell), Sl.nil)] ++ g.drop (lb l w.key)))] mn rfl rfl hd ⟨?_, trivial⟩ ⟨_, ?_, rfl, rfl⟩⟩
        · exact congrArg some (by rw [crow, ins_len (by omega), ← hset, ← hlk] : Ent.own (g.length + 1) (((Gs.cells (g.take (lb l w.key) ++ [((⟨w.key, [], false, Lk.zero⟩ : Cell), Sl.nil)] ++ g.drop (lb l w.key))).take (lb l w.key * 12 + 2) ++ [Value.bool true] ++ (Gs.cells (g.take (lb l w.key) ++ [((⟨w.key, [], false, Lk.zero⟩ : Cell), Sl.nil)] ++ g.drop (lb l w.key))).drop (lb l w.key * 12 + 2 + 1)).take (lb l w.key * 12 + 3) ++ (lockOf w k).c ++ ((Gs.cells (g.take (lb l w.key) ++ [((⟨w.key, [], false, Lk.zero⟩ : Cell), Sl.nil)] ++ g.drop (lb l w.key))).take (lb l w.key * 12 + 2) ++ [Value.bool true] ++ (Gs.cells (g.take (lb l w.key) ++ [((⟨w.key, [], false, Lk.zero⟩ : Cell), Sl.nil)] ++ g.drop (lb l w.key))).drop (lb l w.key * 12 + 2 + 1)).drop (lb l w.key * 12 + 3 + 9)) 55 12 = crow (g.take (lb l w.key) ++ [((⟨w.key, [], true, lockOf w k⟩ : Cell), Sl.nil)] ++ g.drop (lb l w.key)))
        · rw [lockR_new h2]; exact hg.ins (verNil mn)
    · have h2 : findL l w.key = true := by simpa using h2
      have hlt := findL_lt h2
      have hltg : lb l w.key < g.length := by omega
      have hget := List.getElem?_eq_getElem hltg
      have hgc : l[lb l w.key]? = some g[lb l w.key].1 := (congrArg (fun z : List Cell => z[lb l w.key]?) hg.1.symm).trans (by show (g.map (·.1))[lb l w.key]? = _; rw [List.getElem?_map, hget]; rfl)
      have hlk := lock_cells (c := g[lb l w.key].1) (s := g[lb l w.key].2) hget (lockOf w k)
      have hlen1 := Gs.cells_len g
      refine draw Γok [(4, 5)] [7, 10] (.take 0 (.take 1 (.take 2 (.take 3 (.take 4 (.take 5 (.take 6 (.one 7 [5] (.take 8 (.take 9 (.one 10 [] .done))))))))))) (by kernel_rfl) ?_
      refine ⟨lb l w.key, rfl, hltg, by show 0 < g.length; omega, by show lb l w.key * 12 + 2 + 1 ≤ g.cells.length; rw [hlen1]; omega, ?_⟩
      refine ⟨lb l w.key, rfl, hltg, by show 0 < g.length; omega, ?_, ?_⟩
      · show lb l w.key * 12 + 3 + 9 ≤ (List.length _)
        rw [List.length_append, List.length_append, List.length_take, List.length_drop, hlen1]
        show _ ≤ min (lb l w.key * 12 + 2) (g.length * 12) + 1 + (g.length * 12 - (lb l w.key * 12 + 2 + 1))
        omega
      · refine ⟨[], retXO (.one (.own 1003)) [(1003, crow (g.set (lb l w.key) ({ g[lb l w.key].1 with locked := true, lock := lockOf w k }, g[lb l w.key].2)))] mn rfl rfl hd ⟨?_, trivial⟩ ⟨_, ?_, rfl, rfl⟩⟩
        · exact congrArg some (by rw [crow, List.length_set, ← hlk] : Ent.own g.length ((g.cells.take (lb l w.key * 12 + 2) ++ [Value.bool true] ++ g.cells.drop (lb l w.key * 12 + 2 + 1)).take (lb l w.key * 12 + 3) ++ (lockOf w k).c ++ (g.cells.take (lb l w.key * 12 + 2) ++ [Value.bool true] ++ g.cells.drop (lb l w.key * 12 + 2 + 1)).drop (lb l w.key * 12 + 3 + 9)) 55 12 = crow (g.set (lb l w.key) ({ g[lb l w.key].1 with locked := true, lock := lockOf w k }, g[lb l w.key].2)))
        · rw [lockR_old h2 hgc]
          exact hg.set (hg.2 _ (List.getElem_mem hltg))

end Vc
end

section
open Go Go.Proofs Vc
namespace Vc

theorem idx_key {l : List Cell} (hup : KeysUp l) (key : ByteArray) : idxI (fun c => decide (c.key = key)) l 0 = if findL l key = true then (lb l key : Int) else -1 := by
  have hf := find_key hup key
  rcases idxI_spec (fun c : Cell => decide (c.key = key)) l 0 with ⟨h1, h2⟩ | ⟨j, c, h1, h2, h3, h4⟩
  · rw [find_none h2] at hf
    split
    · rename_i hh
      rw [if_pos hh, List.getElem?_eq_getElem (findL_lt hh)] at hf
      cases hf
    · exact h1
  · rw [find_some h2 h3 h4] at hf
    split at hf
    · rename_i hh
      rw [if_pos hh, h1]
      have hj : j = lb l key := by
        rcases Nat.lt_trichotomy j (lb l key) with h | h | h
        · have := hup _ _ _ _ h h2 hf.symm
          rw [sLt_irr] at this; cases this
        · exact h
        · have := hup _ _ _ _ h hf.symm h2
          rw [sLt_irr] at this; cases this
      rw [hj]; simp
    · cases hf

set_option maxHeartbeats 1000000 in
theorem f51 (m : Mem) (x : Sl) (l : List Cell) (w : Wr) (k : Lk) (h : CellRow m x l) (hs : Small l) (hup : KeysUp l) : FnX Try.prog 51 m [asl x, .agg (vmap w.c), .agg (vmap k.c)] [] (NewCells 1003 (lockR l w k)) noPanic := by
  refine fnX (args := [asl x, .agg (vmap w.c), .agg (vmap k.c)]) Γok mix Try.func51 rfl (by kernel_rfl) Try.ntmps51 rfl (by simp) (okv_cons rfl (okv_cons (okL_v rfl) (okv_cons (okL_v rfl) okv_nil))) ?_
  intro ρ W
  have hm := maxLen_le; have hs1 := hs.1
  have hmax : 2097152 ≤ maxLen := by decide
  have hlb := lb_le l w.key
  refine ⟨[], callNC 1000 (f19 m x l h hs) rfl rfl (fun g mn hd hg => ?_)⟩
  have hgl := hg.len
  refine draw_cut [(7, .one (.own 1003)), (4, .one (.ptr 4 0)), (5, .one (.ptr 5 0))] [(1003, crow g), (4, .box (vmap w.c) 63), (5, .box (vmap ({ k with drop := w.drop, data := w.data } : Lk).c) 53)] (m.join mn) ?_ ?_
  · refine draw Γok [(1, 4), (3, 4)] [5, 7] (.take 0 (.take 1 (.take 2 (.take 3 (.take 4 (.one 5 [4] (.take 6 (.one 7 [] .done)))))))) (by kernel_rfl) ?_
    exact entails_ren [] ⟨rfl, rfl, rfl, trivial⟩ ⟨rfl, rfl, rfl, trivial⟩ rfl rfl
  refine ⟨fun h1 => ⟨[.cut], cutR [] (F' := [(20, .one (.own 1003)), (22, .one (.v (.string w.key))), (7, .one (.own 1003)), (4, .one (.ptr 4 0)), (5, .one (.ptr 5 0))]) (B' := [(1003, crow g), (4, .box (vmap w.c) 63), (5, .box (vmap (lockOf w k).c) 53)]) ⟨rfl, rfl, rfl, rfl, rfl, trivial⟩ ⟨rfl, rfl, by unfold lockOf; rw [h1]; rfl, trivial⟩ rfl rfl ?_⟩,
    fun h1 => ⟨[.cut], cutR [] (F' := [(20, .one (.own 1003)), (22, .one (.v (.string w.key))), (7, .one (.own 1003)), (4, .one (.ptr 4 0)), (5, .one (.ptr 5 0))]) (B' := [(1003, crow g), (4, .box (vmap w.c) 63), (5, .box (vmap (lockOf w k).c) 53)]) ⟨rfl, rfl, rfl, rfl, rfl, trivial⟩ ⟨rfl, rfl, by unfold lockOf; rw [h1]; rfl, trivial⟩ rfl rfl ?_⟩⟩
  all_goals
    clear h1
    refine KeptNode.call (ws := []) (PureNode.kept ?_)
    refine callSP [1003] (v := vi (idxI (fun c : Cell => decide (c.key = w.key)) l 0)) rfl (fun A c m1 hd1 e1 e2 e3 e4 => ⟨_, rfl, f66 ((m.join mn).join m1) ⟨A, g.length, c⟩ l w.key ((hg.mono (Mem.join_right hd)).row hd1 e1 e2 e3 e4)⟩) rfl ?_
    have hidx := idx_key hup w.key
    refine ⟨fun h2 => ?_, fun h2 => ?_⟩
    · have h2 : findL l w.key = false := by
        cases hf : findL l w.key with
        | false => rfl
        | true => rw [hidx, hf] at h2; simp at h2; omega
      refine ⟨[.freeze 1003], fun A c m1 hd1 e1 e2 e3 e4 => ?_⟩
      have hd01 : Mem.Disj mn m1 := fun b o hb => hd1 b o (Mem.join_right hd b o hb)
      have hdb := hd.join hd1
      have hrow := hg.row hd01 e1 e2 e3 e4
      have hflat : Flat (fun p : Cell × Sl => p.1.c p.2) 12 m1 ⟨A, g.length, c⟩ g := row_of rfl e1 e2 e3 e4
      have hle : (mn.join m1).le ((m.join mn).join m1) := by rw [Mem.join_assoc]; exact Mem.join_right hdb
      have hle1 : m1.le ((m.join mn).join m1) := Mem.join_right hd1
      have hsp := lb_spec hup w.key
      refine ⟨⟨Nat, fun j => j ≤ lb l w.key, fun j => g.length - j,
        fun j => [(8, ai j), (7, asl ⟨A, g.length, c⟩), (4, .one (.ptr 4 0)), (5, .one (.ptr 5 0))], fun _ => [(4, .box (vmap w.c) 63), (5, .box (vmap (lockOf w k).c) 53)], fun _ => (m.join mn).join m1,
        ⟨0, Nat.zero_le _, entails_ren [] ⟨rfl, rfl, rfl, rfl, trivial⟩ ⟨rfl, rfl, trivial⟩ rfl rfl⟩, fun j hj => ?_⟩⟩
      refine drawQ Γok [0, 1, 2, 3, 4, 5, 6, 7, 8, 9, 10, 11, 12, 13] (by kernel_rfl) ?_
      refine ⟨fun h3 => ?_, fun h3 => ?_⟩
      · have h3 : j < g.length := by simpa using h3
        have hjl : j < l.length := by omega
        obtain ⟨a, s, hA, hr, _⟩ := hrow.at (List.getElem?_eq_getElem hjl)
        refine ⟨j, a, _, rfl, h3, hA, hr.mono' hle, ?_⟩
        refine ⟨fun h4 => ?_, fun h4 => ?_⟩
        · have := (hsp j _ (List.getElem?_eq_getElem hjl)).1 h4
          refine ⟨_, i64_succ (n := j) (by omega), ?_⟩
          exact ⟨[], j + 1, by omega, by show g.length - (j + 1) < g.length - j; omega, entails_ren [] ⟨rfl, rfl, rfl, rfl, trivial⟩ ⟨rfl, rfl, trivial⟩ rfl rfl⟩
        · have hke : j = lb l w.key := by
            have : ¬ j < lb l w.key := fun hh => by rw [(hsp j _ (List.getElem?_eq_getElem hjl)).2 hh] at h4; cases h4
            omega
          subst hke
          have hlo := hflat.cut (fun _ => rfl) (lo := 0) (hi := lb l w.key) (Nat.zero_le _) (by omega)
          have hhi := hflat.cut (fun _ => rfl) (lo := lb l w.key) (hi := g.length) (by omega) (Nat.le_refl _)
          have rlo := (hlo.mono hle1).1.reads
          have rhi := (hhi.mono hle1).1.reads
          have llo := hlo.1.len
          have lhi := hhi.1.len
          have b1 : 0 + (lb l w.key - 0) ≤ maxLen := by omega
          have b2 : (0 + (lb l w.key - 0)) * 128 ≤ 140737488355328 := by omega
          have b3 : 0 + (lb l w.key - 0) + 1 ≤ maxLen := by omega
          have b4 : (0 + (lb l w.key - 0) + 1) * 128 ≤ 140737488355328 := by omega
          have b5 : 0 + (lb l w.key - 0) + 1 + (g.length - lb l w.key) ≤ maxLen := by omega
          have b6 : (0 + (lb l w.key - 0) + 1 + (g.length - lb l w.key)) * 128 ≤ 140737488355328 := by omega
          have ecr : some (Ent.own (0 + (lb l w.key - 0) + 1 + (g.length - lb l w.key)) ([] ++ ((g.take (lb l w.key)).drop 0).flatMap (fun p : Cell × Sl => p.1.c p.2) ++ Cell.c ⟨w.key, [], false, Lk.zero⟩ Sl.nil ++ ((g.take g.length).drop (lb l w.key)).flatMap (fun p : Cell × Sl => p.1.c p.2)) 55 12) = some (crow (g.take (lb l w.key) ++ [((⟨w.key, [], false, Lk.zero⟩ : Cell), Sl.nil)] ++ g.drop (lb l w.key))) := by
            rw [crow, ins_len (by omega), List.take_length, List.drop_zero]
            congr 2
            · omega
            · simp [Gs.cells]
          refine draw_cut [(7, .one (.own 42)), (8, ai (lb l w.key)), (4, .one (.ptr 4 0)), (5, .one (.ptr 5 0))] [(42, crow (g.take (lb l w.key) ++ [((⟨w.key, [], false, Lk.zero⟩ : Cell), Sl.nil)] ++ g.drop (lb l w.key))), (4, .box (vmap w.c) 63), (5, .box (vmap (lockOf w k).c) 53)] ((m.join mn).join m1) ?_ ?_
          · refine draw Γok [(6, 4)] [0, 4, 8, 9, 13] (.take 1 (.take 2 (.take 3 (.take 5 (.take 6 (.take 7 (.take 10 (.take 11 (.take 12 (.two 0 [4] (.two 4 [4] (.one 8 [] (.one 9 [] (.one 13 [] (.take 14 .done)))) 8 [] (.one 4 [] (.one 9 [] (.one 13 [] (.take 14 .done))))) 8 [] (.one 0 [] (.one 4 [] (.one 9 [] (.one 13 [] (.take 14 .done))))))))))))))) (by kernel_rfl) ?_
            refine ⟨0, lb l w.key, Nat.zero_le _, by show lb l w.key ≤ c; omega, rfl, rfl, lb l w.key, g.length, by omega, e2, rfl, rfl, ?_⟩
            refine ⟨⟨[], ⟨_, llo, rlo, b1, b2, fun o1 => ⟨[], b3, b4, fun o2 => ⟨_, lhi, rhi, b5, b6, fun o3 => ?_⟩⟩⟩, ⟨[], _, llo, rlo, b1, b2, fun o1 => ⟨b3, b4, fun o2 => ⟨_, lhi, rhi, b5, b6, fun o3 => ?_⟩⟩⟩⟩, ⟨[], ⟨[], _, llo, rlo, b1, b2, fun o1 => ⟨b3, b4, fun o2 => ⟨_, lhi, rhi, b5, b6, fun o3 => ?_⟩⟩⟩⟩⟩ <;>
              exact entails_ren [] ⟨rfl, rfl, rfl, rfl, trivial⟩ ⟨ecr, rfl, rfl, trivial⟩ rfl rfl
          obtain ⟨hset, hget⟩ := set_ins (l := g) (k := lb l w.key) (by omega) ((⟨w.key, [], false, Lk.zero⟩ : Cell), Sl.nil) ((⟨w.key, [], true, lockOf w k⟩ : Cell), Sl.nil)
          have hlk := lock_cells hget (lockOf w k)
          have hlen0 := ins_len (l := g) (k := lb l w.key) (v := ((⟨w.key, [], false, Lk.zero⟩ : Cell), Sl.nil)) (by omega)
          have hlen1 : (Gs.cells (g.take (lb l w.key) ++ [((⟨w.key, [], false, Lk.zero⟩ : Cell), Sl.nil)] ++ g.drop (lb l w.key))).length = (g.length + 1) * 12 := by rw [Gs.cells_len, hlen0]
          refine draw Γok [(4, 5)] [7, 10] (.take 0 (.take 1 (.take 2 (.take 3 (.take 4 (.take 5 (.take 6 (.one 7 [5] (.take 8 (.take 9 (.one 10 [] .done))))))))))) (by kernel_rfl) ?_
          refine ⟨lb l w.key, rfl, by rw [hlen0]; omega, by rw [hlen0]; omega, by show lb l w.key * 12 + 2 + 1 ≤ _; rw [hlen1]; omega, ?_⟩
          refine ⟨lb l w.key, rfl, by rw [hlen0]; omega, by rw [hlen0]; omega, ?_, ?_⟩
          · show lb l w.key * 12 + 3 + 9 ≤ (List.length _)
            rw [List.length_append, List.length_append, List.length_take, List.length_drop, hlen1]
            show _ ≤ min (lb l w.key * 12 + 2) ((g.length + 1) * 12) + 1 + ((g.length + 1) * 12 - (lb l w.key * 12 + 2 + 1))
            omega
          · refine ⟨[.cut], cutR [(1003, 42)] (F' := [(6, .one (.own 1003))]) (B' := [(1003, crow (g.take (lb l w.key) ++ [((⟨w.key, [], true, lockOf w k⟩ : Cell), Sl.nil)] ++ g.drop (lb l w.key)))]) ⟨rfl, trivial⟩ ⟨?_, trivial⟩ rfl rfl (retXO (.one (.own 1003)) [(1003, crow (g.take (lb l w.key) ++ [((⟨w.key, [], true, lockOf w k⟩ : Cell), Sl.nil)] ++ g.drop (lb l w.key)))] (mn.join m1) rfl (Mem.join_assoc m mn m1) hdb ⟨rfl, trivial⟩ ⟨_, ?_, rfl, rfl⟩)⟩
            · exact congrArg some (by rw [crow, ← hset, List.length_set, ← hlk] : Ent.own (g.take (lb l w.key) ++ [((⟨w.key, [], false, Lk.zero⟩ : Cell), Sl.nil)] ++ g.drop (lb l w.key)).length (((Gs.cells (g.take (lb l w.key) ++ [((⟨w.key, [], false, Lk.zero⟩ : Cell), Sl.nil)] ++ g.drop (lb l w.key))).take (lb l w.key * 12 + 2) ++ [Value.bool true] ++ (Gs.cells (g.take (lb l w.key) ++ [((⟨w.key, [], false, Lk.zero⟩ : Cell), Sl.nil)] ++ g.drop (lb l w.key))).drop (lb l w.key * 12 + 2 + 1)).take (lb l w.key * 12 + 3) ++ (lockOf w k).c ++ ((Gs.cells (g.take (lb l w.key) ++ [((⟨w.key, [], false, Lk.zero⟩ : Cell), Sl.nil)] ++ g.drop (lb l w.key))).take (lb l w.key * 12 + 2) ++ [Value.bool true] ++ (Gs.cells (g.take (lb l w.key) ++ [((⟨w.key, [], false, Lk.zero⟩ : Cell), Sl.nil)] ++ g.drop (lb l w.key))).drop (lb l w.key * 12 + 2 + 1)).drop (lb l w.key * 12 + 3 + 9)) 55 12 = crow (g.take (lb l w.key) ++ [((⟨w.key, [], true, lockOf w k⟩ : Cell), Sl.nil)] ++ g.drop (lb l w.key)))
            · rw [lockR_new h2]; exact (hg.mono (Mem.le_join mn m1)).ins (verNil _)
      · have h3 : ¬ j < g.length := by simpa using h3
        have hke : j = lb l w.key := by omega
        subst hke
        have hlo := hflat.cut (fun _ => rfl) (lo := 0) (hi := lb l w.key) (Nat.zero_le _) (by omega)
        have hhi := hflat.cut (fun _ => rfl) (lo := lb l w.key) (hi := g.length) (by omega) (Nat.le_refl _)
        have rlo := (hlo.mono hle1).1.reads
        have rhi := (hhi.mono hle1).1.reads
        have llo := hlo.1.len
        have lhi := hhi.1.len
        have b1 : 0 + (lb l w.key - 0) ≤ maxLen := by omega
        have b2 : (0 + (lb l w.key - 0)) * 128 ≤ 140737488355328 := by omega
        have b3 : 0 + (lb l w.key - 0) + 1 ≤ maxLen := by omega
        have b4 : (0 + (lb l w.key - 0) + 1) * 128 ≤ 140737488355328 := by omega
        have b5 : 0 + (lb l w.key - 0) + 1 + (g.length - lb l w.key) ≤ maxLen := by omega
        have b6 : (0 + (lb l w.key - 0) + 1 + (g.length - lb l w.key)) * 128 ≤ 140737488355328 := by omega
        have ecr : some (Ent.own (0 + (lb l w.key - 0) + 1 + (g.length - lb l w.key)) ([] ++ ((g.take (lb l w.key)).drop 0).flatMap (fun p : Cell × Sl => p.1.c p.2) ++ Cell.c ⟨w.key, [], false, Lk.zero⟩ Sl.nil ++ ((g.take g.length).drop (lb l w.key)).flatMap (fun p : Cell × Sl => p.1.c p.2)) 55 12) = some (crow (g.take (lb l w.key) ++ [((⟨w.key, [], false, Lk.zero⟩ : Cell), Sl.nil)] ++ g.drop (lb l w.key))) := by
          rw [crow, ins_len (by omega), List.take_length, List.drop_zero]
          congr 2
          · omega
          · simp [Gs.cells]
        refine draw_cut [(7, .one (.own 42)), (8, ai (lb l w.key)), (4, .one (.ptr 4 0)), (5, .one (.ptr 5 0))] [(42, crow (g.take (lb l w.key) ++ [((⟨w.key, [], false, Lk.zero⟩ : Cell), Sl.nil)] ++ g.drop (lb l w.key))), (4, .box (vmap w.c) 63), (5, .box (vmap (lockOf w k).c) 53)] ((m.join mn).join m1) ?_ ?_
        · refine draw Γok [(6, 4)] [0, 4, 8, 9, 13] (.take 1 (.take 2 (.take 3 (.take 5 (.take 6 (.take 7 (.take 10 (.take 11 (.take 12 (.two 0 [4] (.two 4 [4] (.one 8 [] (.one 9 [] (.one 13 [] (.take 14 .done)))) 8 [] (.one 4 [] (.one 9 [] (.one 13 [] (.take 14 .done))))) 8 [] (.one 0 [] (.one 4 [] (.one 9 [] (.one 13 [] (.take 14 .done))))))))))))))) (by kernel_rfl) ?_
          refine ⟨0, lb l w.key, Nat.zero_le _, by show lb l w.key ≤ c; omega, rfl, rfl, lb l w.key, g.length, by omega, e2, rfl, rfl, ?_⟩
          refine ⟨⟨[], ⟨_, llo, rlo, b1, b2, fun o1 => ⟨[], b3, b4, fun o2 => ⟨_, lhi, rhi, b5, b6, fun o3 => ?_⟩⟩⟩, ⟨[], _, llo, rlo, b1, b2, fun o1 => ⟨b3, b4, fun o2 => ⟨_, lhi, rhi, b5, b6, fun o3 => ?_⟩⟩⟩⟩, ⟨[], ⟨[], _, llo, rlo, b1, b2, fun o1 => ⟨b3, b4, fun o2 => ⟨_, lhi, rhi, b5, b6, fun o3 => ?_⟩⟩⟩⟩⟩ <;>
            exact entails_ren [] ⟨rfl, rfl, rfl, rfl, trivial⟩ ⟨ecr, rfl, rfl, trivial⟩ rfl rfl
        obtain ⟨hset, hget⟩ := set_ins (l := g) (k := lb l w.key) (by omega) ((⟨w.key, [], false, Lk.zero⟩ : Cell), Sl.nil) ((⟨w.key, [], true, lockOf w k⟩ : Cell), Sl.nil)
        have hlk := lock_cells hget (lockOf w k)
        have hlen0 := ins_len (l := g) (k := lb l w.key) (v := ((⟨w.key, [], false, Lk.zero⟩ : Cell), Sl.nil)) (by omega)
        have hlen1 : (Gs.cells (g.take (lb l w.key) ++ [((⟨w.key, [], false, Lk.zero⟩ : Cell), Sl.nil)] ++ g.drop (lb l w.key))).length = (g.length + 1) * 12 := by rw [Gs.cells_len, hlen0]
        refine draw Γok [(4, 5)] [7, 10] (.take 0 (.take 1 (.take 2 (.take 3 (.take 4 (.take 5 (.take 6 (.one 7 [5] (.take 8 (.take 9 (.one 10 [] .done))))))))))) (by kernel_rfl) ?_
        refine ⟨lb l w.key, rfl, by rw [hlen0]; omega, by rw [hlen0]; omega, by show lb l w.key * 12 + 2 + 1 ≤ _; rw [hlen1]; omega, ?_⟩
        refine ⟨lb l w.key, rfl, by rw [hlen0]; omega, by rw [hlen0]; omega, ?_, ?_⟩
        · show lb l w.key * 12 + 3 + 9 ≤ (List.length _)
          rw [List.length_append, List.length_append, List.length_take, List.length_drop, hlen1]
          show _ ≤ min (lb l w.key * 12 + 2) ((g.length + 1) * 12) + 1 + ((g.length + 1) * 12 - (lb l w.key * 12 + 2 + 1))
          omega
        · refine ⟨[.cut], cutR [(1003, 42)] (F' := [(6, .one (.own 1003))]) (B' := [(1003, crow (g.take (lb l w.key) ++ [((⟨w.key, [], true, lockOf w k⟩ : Cell), Sl.nil)] ++ g.drop (lb l w.key)))]) ⟨rfl, trivial⟩ ⟨?_, trivial⟩ rfl rfl (retXO (.one (.own 1003)) [(1003, crow (g.take (lb l w.key) ++ [((⟨w.key, [], true, lockOf w k⟩ : Cell), Sl.nil)] ++ g.drop (lb l w.key)))] (mn.join m1) rfl (Mem.join_assoc m mn m1) hdb ⟨rfl, trivial⟩ ⟨_, ?_, rfl, rfl⟩)⟩
          · exact congrArg some (by rw [crow, ← hset, List.length_set, ← hlk] : Ent.own (g.take (lb l w.key) ++ [((⟨w.key, [], false, Lk.zero⟩ : Cell), Sl.nil)] ++ g.drop (lb l w.key)).length (((Gs.cells (g.take (lb l w.key) ++ [((⟨w.key, [], false, Lk.zero⟩ : Cell), Sl.nil)] ++ g.drop (lb l w.key))).take (lb l w.key * 12 + 2) ++ [Value.bool true] ++ (Gs.cells (g.take (lb l w.key) ++ [((⟨w.key, [], false, Lk.zero⟩ : Cell), Sl.nil)] ++ g.drop (lb l w.key))).drop (lb l w.key * 12 + 2 + 1)).take (lb l w.key * 12 + 3) ++ (lockOf w k).c ++ ((Gs.cells (g.take (lb l w.key) ++ [((⟨w.key, [], false, Lk.zero⟩ : Cell), Sl.nil)] ++ g.drop (lb l w.key))).take (lb l w.key * 12 + 2) ++ [Value.bool true] ++ (Gs.cells (g.take (lb l w.key) ++ [((⟨w.key, [], false, Lk.zero⟩ : Cell), Sl.nil)] ++ g.drop (lb l w.key))).drop (lb l w.key * 12 + 2 + 1)).drop (lb l w.key * 12 + 3 + 9)) 55 12 = crow (g.take (lb l w.key) ++ [((⟨w.key, [], true, lockOf w k⟩ : Cell), Sl.nil)] ++ g.drop (lb l w.key)))
          · rw [lockR_new h2]; exact (hg.mono (Mem.le_join mn m1)).ins (verNil _)
    · have h2 : findL l w.key = true := by
        cases hf : findL l w.key with
        | true => rfl
        | false => rw [hidx, hf] at h2; simp at h2
      have hlt := findL_lt h2
      have hltg : lb l w.key < g.length := by omega
      rw [if_pos h2] at hidx
      have hget := List.getElem?_eq_getElem hltg
      have hgc : l[lb l w.key]? = some g[lb l w.key].1 := (congrArg (fun z : List Cell => z[lb l w.key]?) hg.1.symm).trans (by show (g.map (·.1))[lb l w.key]? = _; rw [List.getElem?_map, hget]; rfl)
      have hlk := lock_cells (c := g[lb l w.key].1) (s := g[lb l w.key].2) hget (lockOf w k)
      have hlen1 := Gs.cells_len g
      refine draw Γok [(4, 5)] [7, 10] (.take 0 (.take 1 (.take 2 (.take 3 (.take 4 (.take 5 (.take 6 (.one 7 [5] (.take 8 (.take 9 (.one 10 [] .done))))))))))) (by kernel_rfl) ?_
      refine ⟨lb l w.key, hidx, hltg, by show 0 < g.length; omega, by show lb l w.key * 12 + 2 + 1 ≤ g.cells.length; rw [hlen1]; omega, ?_⟩
      refine ⟨lb l w.key, hidx, hltg, by show 0 < g.length; omega, ?_, ?_⟩
      · show lb l w.key * 12 + 3 + 9 ≤ (List.length _)
        rw [List.length_append, List.length_append, List.length_take, List.length_drop, hlen1]
        show _ ≤ min (lb l w.key * 12 + 2) (g.length * 12) + 1 + (g.length * 12 - (lb l w.key * 12 + 2 + 1))
        omega
      · refine ⟨[], retXO (.one (.own 1003)) [(1003, crow (g.set (lb l w.key) ({ g[lb l w.key].1 with locked := true, lock := lockOf w k }, g[lb l w.key].2)))] mn rfl rfl hd ⟨?_, trivial⟩ ⟨_, ?_, rfl, rfl⟩⟩
        · exact congrArg some (by rw [crow, List.length_set, ← hlk] : Ent.own g.length ((g.cells.take (lb l w.key * 12 + 2) ++ [Value.bool true] ++ g.cells.drop (lb l w.key * 12 + 2 + 1)).take (lb l w.key * 12 + 3) ++ (lockOf w k).c ++ (g.cells.take (lb l w.key * 12 + 2) ++ [Value.bool true] ++ g.cells.drop (lb l w.key * 12 + 2 + 1)).drop (lb l w.key * 12 + 3 + 9)) 55 12 = crow (g.set (lb l w.key) ({ g[lb l w.key].1 with locked := true, lock := lockOf w k }, g[lb l w.key].2)))
        · rw [lockR_old h2 hgc]
          exact hg.set (hg.2 _ (List.getElem_mem hltg))
end Vc
end

section
open Go Go.Proofs Vc
namespace Vc

theorem keptNC {E : Env} {f : FuncId} {args : List AV} {ws : List Nat} {d : Option Nat} {F : Fr} {B : Ents} {m : Mem} {K : Cont} {Q : SPost} (base : Nat) (is : List Nat) {k : Nat} {l : List Cell}
    (hf : Borrow is B m args fun args' mb => ∃ argsC, renAVs (renOf [] base) argsC = args' ∧ FnX E.P f mb argsC [] (NewCells k l) noPanic) (hc : callOk [] base is ws F B [] E.pins = true)
    (hK : ∀ g mn, Mem.Disj m mn → GOk g l mn → putK E d (.one (.own (base + k))) F ((base + k, crow g) :: restB [] B) (m.join mn) K) : KeptNode E f args ws d F B m K Q :=
  callXK [] base is hc trivial hf (fun u0 B0 mn hd h => by
    obtain ⟨g, hg, rfl, rfl⟩ := h
    exact ⟨rfl, rfl, hK g mn hd hg⟩) (fun _ _ _ _ h => h.elim)

/-! ### what a command does: the walk's words -/
def leaseR (p : Part) (k : Cmd) : Part × Rep := if k.epoch ≠ p.epoch + 1 ∨ k.epoch > 1099511627776 then (p, { Rep.zero with err := 25 }) else ({ p with epoch := k.epoch, holder := k.node }, Rep.zero)
def heldW (cells : List Cell) : List Wr → Lk × Bool
  | [] => (Lk.zero, false)
  | w :: r => if (heldR w.key cells).2 = true then heldR w.key cells else heldW cells r
theorem heldW_drop {cells : List Cell} {l : List Wr} {i : Nat} {w : Wr} (h : l[i]? = some w) : heldW cells (l.drop i) = if (heldR w.key cells).2 = true then heldR w.key cells else heldW cells (l.drop (i + 1)) := by
  obtain ⟨hlt, rfl⟩ := List.getElem?_eq_some_iff.1 h
  rw [List.drop_eq_getElem_cons hlt]; rfl
def lk0 (k : Cmd) : Lk := ⟨k.who, k.home, k.at_, false, ByteArray.empty⟩
def locksR (k : Cmd) (cells : List Cell) (l : List Wr) : List Cell := l.foldl (fun cs w => lockR cs w (lk0 k)) cells
def prepareR (p : Part) (k : Cmd) : Part × Rep :=
  if (findR k.who p.done).2 = true then (p, { Rep.zero with err := 26, yes := (findR k.who p.done).1.yes })
  else if mineR k.who p.cells = true then (p, Rep.zero)
  else if k.at_.wall ≤ p.closed then (p, { Rep.zero with err := 21, wall := p.closed })
  else if k.at_.less p.floor = true then (p, { Rep.zero with err := 22, at_ := p.floor })
  else if (heldW p.cells k.writes).2 = true then (p, lockedR (heldW p.cells k.writes).1)
  else ({ p with cells := locksR k p.cells k.writes }, Rep.zero)

theorem ins_get {α : Type} {l : List α} {k : Nat} (hk : k ≤ l.length) (a : α) (i : Nat) : (l.take k ++ [a] ++ l.drop k)[i]? = if i < k then l[i]? else if i = k then some a else l[i - 1]? := by
  simp only [List.getElem?_append, List.getElem?_take, List.getElem?_drop, List.length_append, List.length_take, List.length_singleton]
  grind
theorem lb_after {l : List Cell} (h : KeysUp l) {key : ByteArray} (hf : findL l key = false) {i : Nat} {c : Cell} (hi : l[i]? = some c) (hle : lb l key ≤ i) : sLt key c.key = true := by
  have hsp := lb_spec h key
  have hno : ∀ (j : Nat) (d : Cell), l[j]? = some d → lb l key ≤ j → sLt d.key key = false := by
    intro j d hj hlj
    cases hs : sLt d.key key with
    | false => rfl
    | true => have := (hsp j d hj).1 hs; omega
  have hlt : lb l key < l.length := by have := (List.getElem?_eq_some_iff.1 hi).1; omega
  have hg := List.getElem?_eq_getElem hlt
  have h0 := hno _ _ hg (Nat.le_refl _)
  have hne : l[lb l key].key ≠ key := by
    intro he
    unfold findL at hf
    rw [hg] at hf
    simp [he] at hf
  have h1 : sLt key l[lb l key].key = true := by
    cases hs : sLt key l[lb l key].key with
    | true => rfl
    | false => exact absurd (sLt_tri h0 hs) hne
  rcases Nat.eq_or_lt_of_le hle with he | hlt2
  · subst he; rw [hg] at hi; cases hi; exact h1
  · exact sLt_trans h1 (h _ _ _ _ hlt2 hg hi)
theorem lockR_keys {l : List Cell} (h : KeysUp l) (w : Wr) (k : Lk) : KeysUp (lockR l w k) := by
  cases hf : findL l w.key with
  | true =>
    have hlt := findL_lt hf
    have hg := List.getElem?_eq_getElem hlt
    rw [lockR_old hf hg]
    intro i j a b hij ha hb
    have key : ∀ (i : Nat) (a : Cell), (l.set (lb l w.key) { l[lb l w.key] with locked := true, lock := lockOf w k })[i]? = some a → ∃ a0, l[i]? = some a0 ∧ a0.key = a.key := by
      intro i a ha
      rw [List.getElem?_set] at ha
      by_cases he : lb l w.key = i
      · subst he
        rw [if_pos rfl] at ha
        simp [hlt] at ha
        subst ha
        exact ⟨_, hg, rfl⟩
      · rw [if_neg he] at ha; exact ⟨a, ha, rfl⟩
    obtain ⟨a0, ha0, hka⟩ := key i a ha
    obtain ⟨b0, hb0, hkb⟩ := key j b hb
    rw [← hka, ← hkb]
    exact h i j a0 b0 hij ha0 hb0
  | false =>
    rw [lockR_new hf]
    have hsp := lb_spec h w.key
    intro i j a b hij ha hb
    rw [ins_get (lb_le l w.key)] at ha hb
    split at ha
    · rename_i hi
      have hak := (hsp i a ha).2 hi
      split at hb
      · exact h i j a b hij ha hb
      · split at hb
        · cases hb; exact hak
        · exact h i (j - 1) a b (by omega) ha hb
    · split at ha
      · cases ha
        rw [if_neg (by omega), if_neg (by omega)] at hb
        exact lb_after h hf hb (by omega)
      · rw [if_neg (by omega), if_neg (by omega)] at hb
        exact h (i - 1) (j - 1) a b (by omega) ha hb
theorem lockR_len (l : List Cell) (w : Wr) (k : Lk) : (lockR l w k).length ≤ l.length + 1 := by
  unfold lockR
  have := lb_le l w.key
  split
  · split
    · rw [List.length_set]; omega
    · rw [ins_len this]; exact Nat.le_refl _
  · rw [ins_len this]; exact Nat.le_refl _
theorem lockR_vers {l : List Cell} {w : Wr} {k : Lk} {P : List Ver → Prop} (h0 : P []) (h : ∀ c ∈ l, P c.vers) : ∀ c ∈ lockR l w k, P c.vers := by
  have hnew : ∀ c ∈ l.take (lb l w.key) ++ [(⟨w.key, [], true, lockOf w k⟩ : Cell)] ++ l.drop (lb l w.key), P c.vers := by
    intro c hc
    rcases List.mem_append.1 hc with hc | hc
    · rcases List.mem_append.1 hc with hc | hc
      · exact h c (List.mem_of_mem_take hc)
      · have : c = (⟨w.key, [], true, lockOf w k⟩ : Cell) := by simpa using hc
        subst this; exact h0
    · exact h c (List.mem_of_mem_drop hc)
  unfold lockR
  split
  · rename_i c0 hc0
    split
    · intro c hc
      rcases List.mem_or_eq_of_mem_set hc with hc | rfl
      · exact h c hc
      · exact h c0 (List.mem_of_getElem? hc0)
    · exact hnew
  · exact hnew

theorem f21 (m : Mem) (p : Part) (g : Gs) (k : Cmd) (xs xw : Sl) (hg : GOk g p.cells m) (h0 : 0 ≤ p.epoch) (h1 : p.epoch ≤ 1099511627776) : FnX Try.prog 21 m [.one (.ptr 0 0), .agg (vmap (k.c xs xw))] (PB p g) (DoesOut m (leaseR p k)) noPanic := by
  refine fnX (args := [.one (.ptr 0 0), .agg (vmap (k.c xs xw))]) Γok mix Try.func21 rfl (by kernel_rfl) Try.ntmps21 rfl (by simp) (okv_cons trivial (okv_cons (okL_v rfl) okv_nil)) ?_
  intro ρ W
  have hw : IntKind.i64.wrap (p.epoch + 1) = p.epoch + 1 := i64_in _ (by omega)
  have bad : leaseR p k = (p, { Rep.zero with err := 25 }) → ∀ {F : Fr}, look 4 F = some (.one (.ptr 4 0)) → True := fun _ _ _ => trivial
  refine drawQ Γok [0, 1, 2, 3, 4, 5, 6, 7, 8, 9, 10, 11, 12, 13, 14, 15, 16, 17, 18, 19] (by kernel_rfl) ?_
  refine ⟨fun h2 => ?_, fun h2 => ⟨_, hw, ⟨fun h3 => ?_, fun h3 => ⟨fun h4 => ?_, fun h4 => ?_⟩⟩⟩⟩
  · have h2 : p.epoch ≥ 1099511627776 := by simpa using h2
    have e : leaseR p k = (p, { Rep.zero with err := 25 }) := by unfold leaseR; rw [if_pos (by omega)]
    rw [e]
    exact ⟨[.cut], nilCut 60 (F' := [(4, .one (.ptr 4 0))]) (B' := (4, .box (({ Rep.zero with err := 25 } : Rep).lv (.own 60)) 43) :: (60, .own 0 [] 50 2) :: PB p g) ⟨rfl, trivial⟩ ⟨rfl, rfl, rfl, rfl, rfl, rfl, trivial⟩ (retDoes0 (p, { Rep.zero with err := 25 }) hg rfl)⟩
  · have h3 : k.epoch ≠ p.epoch + 1 := by simpa using h3
    have e : leaseR p k = (p, { Rep.zero with err := 25 }) := by unfold leaseR; rw [if_pos (.inl h3)]
    rw [e]
    exact ⟨[.cut], nilCut 60 (F' := [(4, .one (.ptr 4 0))]) (B' := (4, .box (({ Rep.zero with err := 25 } : Rep).lv (.own 60)) 43) :: (60, .own 0 [] 50 2) :: PB p g) ⟨rfl, trivial⟩ ⟨rfl, rfl, rfl, rfl, rfl, rfl, trivial⟩ (retDoes0 (p, { Rep.zero with err := 25 }) hg rfl)⟩
  · have h4 : k.epoch > 1099511627776 := by simpa using h4
    have e : leaseR p k = (p, { Rep.zero with err := 25 }) := by unfold leaseR; rw [if_pos (.inr h4)]
    rw [e]
    exact ⟨[.cut], nilCut 60 (F' := [(4, .one (.ptr 4 0))]) (B' := (4, .box (({ Rep.zero with err := 25 } : Rep).lv (.own 60)) 43) :: (60, .own 0 [] 50 2) :: PB p g) ⟨rfl, trivial⟩ ⟨rfl, rfl, rfl, rfl, rfl, rfl, trivial⟩ (retDoes0 (p, { Rep.zero with err := 25 }) hg rfl)⟩
  · have h3 : k.epoch = p.epoch + 1 := by simpa using h3
    have h4 : ¬ k.epoch > 1099511627776 := by simpa using h4
    have e : leaseR p k = ({ p with epoch := k.epoch, holder := k.node }, Rep.zero) := by unfold leaseR; rw [if_neg (by omega)]
    rw [e]
    refine draw Γok [(3, 3), (5, 3)] [8, 11] (.take 0 (.take 1 (.take 2 (.take 3 (.take 4 (.take 5 (.take 6 (.take 7 (.one 8 [3] (.take 9 (.take 10 (.one 11 [] .done)))))))))))) (by kernel_rfl) ?_
    exact ⟨[.cut], nilCut 60 (F' := [(4, .one (.ptr 4 0))]) (B' := (4, .box (Rep.zero.lv (.own 60)) 43) :: (60, .own 0 [] 50 2) :: PB { p with epoch := k.epoch, holder := k.node } g) ⟨rfl, trivial⟩ ⟨rfl, rfl, rfl, rfl, rfl, rfl, trivial⟩ (retDoes0 ({ p with epoch := k.epoch, holder := k.node }, Rep.zero) hg rfl)⟩
end Vc
end

section
open Go Go.Proofs Vc
namespace Vc

theorem orow_row {l : List Outc} {m m1 : Mem} {A : Option Addr} {c : Nat} (hd : Mem.Disj m m1) (h1 : (l.flatMap Outc.c).length = l.length * 7) (h2 : l.length ≤ c) (h3 : c ≤ maxLen) (h4 : 0 < l.length → ∃ a, A = some a ∧ MemReads m1 a (l.flatMap Outc.c)) : OutRow (m.join m1) ⟨A, l.length, c⟩ l :=
  row_of rfl h1 h2 h3 (fun hp => by obtain ⟨a, h5, h6⟩ := h4 hp; exact ⟨a, h5, h6.mono' (Mem.join_right hd)⟩)
structure LoSt where
  i : Nat
  g : Gs
  mn : Mem

set_option maxHeartbeats 1000000 in
theorem f42 (m : Mem) (p : Part) (g : Gs) (k : Cmd) (xs xw : Sl) (hg : GOk g p.cells m) (hk : CmdRow m k xs xw) (hup : KeysUp p.cells) (hs : SmallP p) (hroom : p.cells.length + k.writes.length ≤ 1048576) : FnX Try.prog 42 m [.one (.ptr 0 0), .agg (vmap (k.c xs xw))] (PB p g) (DoesOut m (prepareR p k)) noPanic := by
  refine fnX (args := [.one (.ptr 0 0), .agg (vmap (k.c xs xw))]) Γok mix Try.func42 rfl (by kernel_rfl) Try.ntmps42 rfl (by simp) (okv_cons trivial (okv_cons (okL_v rfl) okv_nil)) ?_
  intro ρ W
  have hm := maxLen_le; have hmax : 2097152 ≤ maxLen := by decide
  have hx := hk.writes.1.cap; have hx' := hk.writes.1.most; have hn := hk.writes.2
  refine draw_cut [(6, .one (.v (.bool (findR k.who p.done).2))), (5, .one (.ptr 5 0)), (0, .one (.ptr 0 0)), (3, .one (.ptr 3 0)), (4, .one (.ptr 4 0))] ((5, .box (vmap (findR k.who p.done).1.c) 58) :: (3, .box (vmap (k.c xs xw)) 37) :: (4, .box (vmap zrep) 43) :: PB p g) m ?_ ?_
  · refine draw Γok [(3, 0), (5, 3)] [6, 10, 11] (.take 0 (.take 1 (.take 2 (.take 3 (.take 4 (.take 5 (.two 6 [] (.take 7 (.take 8 (.take 9 (.one 10 [] (.one 11 [] (.take 12 .done)))))) 10 [0, 3] (.one 6 [] (.take 7 (.take 8 (.take 9 (.one 11 [] (.take 12 .done))))))))))))) (by kernel_rfl) ?_
    refine ⟨PureNode.kept (callSP [3005] (v := voutb (findR k.who p.done)) rfl (fun A c m1 hd h1 h2 h3 h4 => ⟨_, rfl, f16 _ ⟨A, p.done.length, c⟩ p.done k.who (orow_row hd h1 h2 h3 h4)⟩) rfl ?_), PureNode.kept (callSP [3005] (v := voutb (findR k.who p.done)) rfl (fun A c m1 hd h1 h2 h3 h4 => ⟨_, rfl, f16 _ ⟨A, p.done.length, c⟩ p.done k.who (orow_row hd h1 h2 h3 h4)⟩) rfl ?_)⟩ <;>
      exact entails_ren [] ⟨rfl, rfl, rfl, rfl, rfl, trivial⟩ ⟨rfl, rfl, rfl, rfl, rfl, rfl, rfl, trivial⟩ rfl rfl
  refine ⟨fun h1 => ?_, fun h1 => ?_⟩
  · have e : prepareR p k = (p, { Rep.zero with err := 26, yes := (findR k.who p.done).1.yes }) := by unfold prepareR; rw [if_pos h1]
    rw [e]
    exact ⟨[.cut], nilCut 60 (F' := [(4, .one (.ptr 4 0))]) (B' := (4, .box (({ Rep.zero with err := 26, yes := (findR k.who p.done).1.yes } : Rep).lv (.own 60)) 43) :: (60, .own 0 [] 50 2) :: PB p g) ⟨rfl, trivial⟩ ⟨rfl, rfl, rfl, rfl, rfl, rfl, trivial⟩ (retDoes0 (p, { Rep.zero with err := 26, yes := (findR k.who p.done).1.yes }) hg rfl)⟩
  refine draw Γok [(3, 0), (5, 3)] [6] (.take 0 (.take 1 (.take 2 (.take 3 (.take 4 (.take 5 (.pcall 6 (.take 7 .done)))))))) (by kernel_rfl) ?_
  refine callSP [1005] (v := .bool (mineR k.who p.cells)) rfl (fun A c m1 hd h1 h2 h3 h4 => ⟨_, rfl, f58 _ ⟨A, g.length, c⟩ p.cells k.who (hg.row hd h1 h2 h3 h4)⟩) rfl ?_
  refine ⟨fun h2 => ?_, fun h2 => ?_⟩
  · have e : prepareR p k = (p, Rep.zero) := by unfold prepareR; rw [if_neg (by rw [h1]; simp), if_pos h2]
    rw [e]
    exact ⟨[.cut], nilCut 60 (F' := [(4, .one (.ptr 4 0))]) (B' := (4, .box ((Rep.zero : Rep).lv (.own 60)) 43) :: (60, .own 0 [] 50 2) :: PB p g) ⟨rfl, trivial⟩ ⟨rfl, rfl, rfl, rfl, rfl, rfl, trivial⟩ (retDoes0 (p, Rep.zero) hg rfl)⟩
  refine draw Γok [(2, 3), (6, 0)] [] (.take 0 (.take 1 (.take 2 (.take 3 (.take 4 (.take 5 (.take 6 (.take 7 (.take 8 .done))))))))) (by kernel_rfl) ?_
  refine ⟨fun h3 => ?_, fun h3 => ?_⟩
  · have h3 : k.at_.wall ≤ p.closed := by simpa using h3
    have e : prepareR p k = (p, { Rep.zero with err := 21, wall := p.closed }) := by unfold prepareR; rw [if_neg (by rw [h1]; simp), if_neg (by rw [h2]; simp), if_pos h3]
    rw [e]
    exact ⟨[.cut], nilCut 60 (F' := [(4, .one (.ptr 4 0))]) (B' := (4, .box (({ Rep.zero with err := 21, wall := p.closed } : Rep).lv (.own 60)) 43) :: (60, .own 0 [] 50 2) :: PB p g) ⟨rfl, trivial⟩ ⟨rfl, rfl, rfl, rfl, rfl, rfl, trivial⟩ (retDoes0 (p, { Rep.zero with err := 21, wall := p.closed }) hg rfl)⟩
  have h3 : ¬ k.at_.wall ≤ p.closed := by simpa using h3
  refine draw Γok [(1, 3), (5, 0)] [6] (.take 0 (.take 1 (.take 2 (.take 3 (.take 4 (.take 5 (.pcall 6 (.take 7 .done)))))))) (by kernel_rfl) ?_
  refine pureS (f53 m k.at_ p.floor) rfl rfl ?_
  refine ⟨fun h4 => ?_, fun h4 => ?_⟩
  · have e : prepareR p k = (p, { Rep.zero with err := 22, at_ := p.floor }) := by unfold prepareR; rw [if_neg (by rw [h1]; simp), if_neg (by rw [h2]; simp), if_neg h3, if_pos h4]
    rw [e]
    exact ⟨[.cut], nilCut 60 (F' := [(4, .one (.ptr 4 0))]) (B' := (4, .box (({ Rep.zero with err := 22, at_ := p.floor } : Rep).lv (.own 60)) 43) :: (60, .own 0 [] 50 2) :: PB p g) ⟨rfl, trivial⟩ ⟨rfl, rfl, rfl, rfl, rfl, rfl, trivial⟩ (retDoes0 (p, { Rep.zero with err := 22, at_ := p.floor }) hg rfl)⟩
  have e0 : prepareR p k = if (heldW p.cells k.writes).2 = true then (p, lockedR (heldW p.cells k.writes).1) else ({ p with cells := locksR k p.cells k.writes }, Rep.zero) := by unfold prepareR; rw [if_neg (by rw [h1]; simp), if_neg (by rw [h2]; simp), if_neg h3, if_neg (by rw [h4]; simp)]
  rw [e0]
  clear h1 h2 h3 h4 e0
  refine ⟨[], ⟨⟨Nat, fun i => i ≤ xw.n ∧ heldW p.cells k.writes = heldW p.cells (k.writes.drop i), fun i => xw.n - i,
    fun i => [(66, ai i), (65, ai xw.n), (64, asl xw), (0, .one (.ptr 0 0)), (3, .one (.ptr 3 0)), (4, .one (.ptr 4 0))], fun i => (3, .box (vmap (k.c xs xw)) 37) :: (4, .box (vmap zrep) 43) :: PB p g, fun _ => m,
    ⟨0, ⟨Nat.zero_le _, rfl⟩, entails_ren [] ⟨rfl, rfl, rfl, rfl, rfl, rfl, trivial⟩ ⟨rfl, rfl, rfl, rfl, rfl, rfl, trivial⟩ rfl rfl⟩, fun i hi => ?_⟩⟩⟩
  obtain ⟨hin, hor⟩ := hi
  refine ⟨fun h2 => ?_, fun h2 => ?_⟩
  · have h2 : i < xw.n := by simpa using h2
    have hlt : i < k.writes.length := by omega
    obtain ⟨a, hA, hr⟩ := hk.writes.at (fun _ => rfl) (List.getElem?_eq_getElem hlt)
    have hd := heldW_drop (cells := p.cells) (List.getElem?_eq_getElem hlt)
    refine ⟨i, a, _, rfl, h2, hA, hr, ?_⟩
    refine draw_cut [(10, .one (.v (.bool (heldR k.writes[i].key p.cells).2))), (9, .one (.ptr 9 0)), (66, ai i), (65, ai xw.n), (64, asl xw), (0, .one (.ptr 0 0)), (3, .one (.ptr 3 0)), (4, .one (.ptr 4 0))] ((9, .box (vmap (heldR k.writes[i].key p.cells).1.c) 53) :: (3, .box (vmap (k.c xs xw)) 37) :: (4, .box (vmap zrep) 43) :: PB p g) m ?_ ?_
    · refine draw Γok [(3, 0), (5, 8)] [6, 10, 11] (.take 0 (.take 1 (.take 2 (.take 3 (.take 4 (.take 5 (.two 6 [] (.take 7 (.take 8 (.take 9 (.one 10 [] (.one 11 [] (.take 12 .done)))))) 10 [0, 8] (.one 6 [] (.take 7 (.take 8 (.take 9 (.one 11 [] (.take 12 .done))))))))))))) (by kernel_rfl) ?_
      refine ⟨PureNode.kept (callSP [1005] (v := vlkb (heldR k.writes[i].key p.cells)) rfl (fun A c m1 hd h1 h2 h3 h4 => ⟨_, rfl, f59 _ ⟨A, g.length, c⟩ p.cells k.writes[i].key (hg.row hd h1 h2 h3 h4) hup⟩) rfl ?_), PureNode.kept (callSP [1005] (v := vlkb (heldR k.writes[i].key p.cells)) rfl (fun A c m1 hd h1 h2 h3 h4 => ⟨_, rfl, f59 _ ⟨A, g.length, c⟩ p.cells k.writes[i].key (hg.row hd h1 h2 h3 h4) hup⟩) rfl ?_)⟩ <;>
        exact entails_ren [] ⟨rfl, rfl, rfl, rfl, rfl, rfl, rfl, rfl, trivial⟩ ⟨rfl, rfl, rfl, rfl, rfl, rfl, rfl, trivial⟩ rfl rfl
    refine ⟨fun h3 => ?_, fun h3 => ?_⟩
    · rw [if_pos h3] at hd
      have hb : heldW p.cells k.writes = heldR k.writes[i].key p.cells := by rw [hor, hd]
      rw [hb, if_pos h3]
      refine ⟨[], callS (f55 m _) rfl rfl ?_⟩
      exact ⟨[.cut], nilCut 60 (F' := [(4, .one (.ptr 4 0))]) (B' := (4, .box ((lockedR (heldR k.writes[i].key p.cells).1 : Rep).lv (.own 60)) 43) :: (60, .own 0 [] 50 2) :: PB p g) ⟨rfl, trivial⟩ ⟨rfl, rfl, rfl, rfl, rfl, rfl, trivial⟩ (retDoes0 (p, lockedR (heldR k.writes[i].key p.cells).1) hg rfl)⟩
    · rw [if_neg (by rw [h3]; simp)] at hd
      refine ⟨_, i64_succ (n := i) (by omega), ?_⟩
      exact ⟨[], i + 1, ⟨by omega, by rw [hor, hd]⟩, by show xw.n - (i + 1) < xw.n - i; omega, entails_ren [] ⟨rfl, rfl, rfl, rfl, rfl, rfl, trivial⟩ ⟨rfl, rfl, rfl, rfl, rfl, rfl, trivial⟩ rfl rfl⟩
  have h2 : ¬ i < xw.n := by simpa using h2
  have hnb : heldW p.cells k.writes = (Lk.zero, false) := by rw [hor, List.drop_eq_nil_of_le (by omega)]; rfl
  rw [hnb, if_neg (by simp)]
  clear hor h2 hin hnb
  refine ⟨[], ⟨⟨LoSt, fun s => s.i ≤ xw.n ∧ Mem.Disj m s.mn ∧ GOk s.g (locksR k p.cells (k.writes.take s.i)) (m.join s.mn) ∧ KeysUp (locksR k p.cells (k.writes.take s.i)) ∧ Small (locksR k p.cells (k.writes.take s.i)) ∧ (locksR k p.cells (k.writes.take s.i)).length ≤ p.cells.length + s.i, fun s => xw.n - s.i,
    fun s => [(87, ai s.i), (86, ai xw.n), (85, asl xw), (0, .one (.ptr 0 0)), (3, .one (.ptr 3 0)), (4, .one (.ptr 4 0))], fun s => (3, .box (vmap (k.c xs xw)) 37) :: (4, .box (vmap zrep) 43) :: PBn 7005 p s.g, fun s => m.join s.mn,
    ⟨⟨0, g, Mem.none⟩, ⟨Nat.zero_le _, Mem.disj_none m, by rw [Mem.join_none]; exact hg, hup, hs.1, Nat.le_refl _⟩, entails_renM (Mem.join_none m).symm [(7005, 1005)] ⟨rfl, rfl, rfl, rfl, rfl, rfl, trivial⟩ ⟨rfl, rfl, rfl, rfl, rfl, rfl, trivial⟩ rfl rfl⟩, fun s hi => ?_⟩⟩⟩
  obtain ⟨i, g1, mn⟩ := s
  obtain ⟨hin, hdis, hg1, hku, hsm, hln⟩ := hi
  simp only at hin hdis hg1 hku hsm hln
  refine ⟨fun h2 => ?_, fun h2 => ?_⟩
  · have h2 : i < xw.n := by simpa using h2
    have hlt : i < k.writes.length := by omega
    obtain ⟨a, hA, hr⟩ := hk.writes.at (fun _ => rfl) (List.getElem?_eq_getElem hlt)
    have hnext : locksR k p.cells (k.writes.take (i + 1)) = lockR (locksR k p.cells (k.writes.take i)) k.writes[i] (lk0 k) := by unfold locksR; rw [← take_snoc hlt, List.foldl_append]; rfl
    refine ⟨i, a, _, rfl, h2, hA, hr.mono' (Mem.le_join m mn), ?_⟩
    refine draw Γok [(4, 0), (5, 12), (7, 3), (9, 3), (11, 3)] [13, 16] (.take 0 (.take 1 (.take 2 (.take 3 (.take 4 (.take 5 (.take 6 (.take 7 (.take 8 (.take 9 (.take 10 (.take 11 (.take 12 (.one 13 [] (.take 14 (.take 15 (.one 16 [] .done))))))))))))))))) (by kernel_rfl) ?_
    refine keptNC 10000 [7005] (k := 1003) (l := lockR (locksR k p.cells (k.writes.take i)) k.writes[i] (lk0 k)) (fun A c m1 hd h1 h2 h3 h4 => ⟨[asl ⟨A, g1.length, c⟩, .agg (vmap k.writes[i].c), .agg (vmap (lk0 k).c)], rfl, f60 _ ⟨A, g1.length, c⟩ _ k.writes[i] (lk0 k) (hg1.row hd h1 h2 h3 h4) hsm hku⟩) rfl (fun g2 mn2 hd2 hg2 => ?_)
    refine ⟨_, i64_succ (n := i) (by omega), ?_⟩
    have hl2 := lockR_len (locksR k p.cells (k.writes.take i)) k.writes[i] (lk0 k)
    refine ⟨[], ⟨i + 1, g2, mn.join mn2⟩, ⟨by show i + 1 ≤ xw.n; omega, hdis.join hd2, ?_, by rw [hnext]; exact lockR_keys hku _ _, ⟨by show List.length _ ≤ _; rw [hnext]; omega, ?_⟩, by show List.length _ ≤ p.cells.length + (i + 1); rw [hnext]; omega⟩, by show xw.n - (i + 1) < xw.n - i; omega, entails_renM (Mem.join_assoc m mn mn2) [(7005, 11003)] ⟨rfl, rfl, rfl, rfl, rfl, rfl, trivial⟩ ⟨rfl, rfl, rfl, rfl, rfl, rfl, trivial⟩ rfl rfl⟩
    · show GOk g2 (locksR k p.cells (k.writes.take (i + 1))) _
      rw [hnext, ← Mem.join_assoc]; exact hg2.mono (Mem.join_right hd2)
    · show ∀ c ∈ locksR k p.cells (k.writes.take (i + 1)), c.vers.length ≤ 1048576
      rw [hnext]
      exact lockR_vers (P := fun v => v.length ≤ 1048576) (Nat.zero_le _) hsm.2
  have h2 : ¬ i < xw.n := by simpa using h2
  rw [List.take_of_length_le (by omega)] at hg1
  exact ⟨[.cut], nilCut 60 (F' := [(4, .one (.ptr 4 0))]) (B' := (4, .box (Rep.zero.lv (.own 60)) 43) :: (60, .own 0 [] 50 2) :: PBn 7005 { p with cells := locksR k p.cells k.writes } g1) ⟨rfl, trivial⟩ ⟨rfl, rfl, rfl, rfl, rfl, rfl, trivial⟩ (retDoesN 7005 (.inr rfl) ({ p with cells := locksR k p.cells k.writes }, Rep.zero) hdis hg1 rfl)⟩
end Vc
end

section
open Go Go.Proofs Vc
namespace Vc

def prepU (xc xr xd : Sl) (o : Part × Rep) : AV := .tup [(true, vmap (o.1.c xc xr xd)), (true, vmap (o.2.c Sl.nil))]
def PrepOut (m : Mem) (xr xd : Sl) (o : Part × Rep) : AV → Ents → Mem → Prop := fun u B mn => ∃ xc, CellRow (m.join mn) xc o.1.cells ∧ u = prepU xc xr xd o ∧ B = []
abbrev zpart : List Value := [.int .i64 0, .int .i64 0, .int .i64 0, .int .i64 0, .int .i64 0, .int .i64 0, .slice none 0 0, .slice none 0 0, .slice none 0 0]
structure LpSt where
  i : Nat
  x : Sl
  mn : Mem

set_option maxHeartbeats 1000000 in
theorem f25 (m : Mem) (p : Part) (xc xr xd : Sl) (k : Cmd) (xs xw : Sl) (hp : PartRow m p xc xr xd) (hk : CmdRow m k xs xw) (hup : KeysUp p.cells) (hs : SmallP p) (hroom : p.cells.length + k.writes.length ≤ 1048576) : FnX Try.prog 25 m [.agg (vmap (p.c xc xr xd)), .agg (vmap (k.c xs xw))] [] (PrepOut m xr xd (prepareR p k)) noPanic := by
  refine fnX (args := [.agg (vmap (p.c xc xr xd)), .agg (vmap (k.c xs xw))]) Γok mix Try.func25 rfl (by kernel_rfl) Try.ntmps25 rfl (by simp) (okv_cons (okL_v rfl) (okv_cons (okL_v rfl) okv_nil)) ?_
  intro ρ W
  have hm := maxLen_le; have hmax : 2097152 ≤ maxLen := by decide
  have hx := hk.writes.1.cap; have hx' := hk.writes.1.most; have hn := hk.writes.2
  refine ⟨[], callS (f17 m xd p.done k.who hp.done) rfl rfl ?_⟩
  refine ⟨fun h1 => ?_, fun h1 => ?_⟩
  · have e : prepareR p k = (p, { Rep.zero with err := 26, yes := (findR k.who p.done).1.yes }) := by unfold prepareR; rw [if_pos h1]
    rw [e]
    refine draw Γok [(0, 2), (2, 6)] [4, 5] (.take 0 (.take 1 (.take 2 (.take 3 (.one 4 [6] (.one 5 [] .done)))))) (by kernel_rfl) ?_
    exact ⟨[], retXO (prepU xc xr xd (p, { Rep.zero with err := 26, yes := (findR k.who p.done).1.yes })) [] Mem.none rfl (Mem.join_none m).symm (Mem.disj_none m) trivial ⟨xc, by rw [Mem.join_none]; exact hp.cells, rfl, rfl⟩⟩
  refine ⟨[], callS (f49 m xc p.cells k.who hp.cells) rfl rfl ?_⟩
  refine ⟨fun h2 => ?_, fun h2 => ?_⟩
  · have e : prepareR p k = (p, Rep.zero) := by unfold prepareR; rw [if_neg (by rw [h1]; simp), if_pos h2]
    rw [e]
    exact ⟨[], retXO (prepU xc xr xd (p, Rep.zero)) [] Mem.none rfl (Mem.join_none m).symm (Mem.disj_none m) trivial ⟨xc, by rw [Mem.join_none]; exact hp.cells, rfl, rfl⟩⟩
  refine ⟨fun h3 => ?_, fun h3 => ?_⟩
  · have h3 : k.at_.wall ≤ p.closed := by simpa using h3
    have e : prepareR p k = (p, { Rep.zero with err := 21, wall := p.closed }) := by unfold prepareR; rw [if_neg (by rw [h1]; simp), if_neg (by rw [h2]; simp), if_pos h3]
    rw [e]
    refine draw Γok [(0, 2), (2, 2)] [4, 5] (.take 0 (.take 1 (.take 2 (.take 3 (.one 4 [2] (.one 5 [] .done)))))) (by kernel_rfl) ?_
    exact ⟨[], retXO (prepU xc xr xd (p, { Rep.zero with err := 21, wall := p.closed })) [] Mem.none rfl (Mem.join_none m).symm (Mem.disj_none m) trivial ⟨xc, by rw [Mem.join_none]; exact hp.cells, rfl, rfl⟩⟩
  have h3 : ¬ k.at_.wall ≤ p.closed := by simpa using h3
  refine ⟨[], callS (f48 m k.at_ p.floor) rfl rfl ?_⟩
  refine ⟨fun h4 => ?_, fun h4 => ?_⟩
  · have e : prepareR p k = (p, { Rep.zero with err := 22, at_ := p.floor }) := by unfold prepareR; rw [if_neg (by rw [h1]; simp), if_neg (by rw [h2]; simp), if_neg h3, if_pos h4]
    rw [e]
    refine draw Γok [(0, 2), (2, 2)] [4, 5] (.take 0 (.take 1 (.take 2 (.take 3 (.one 4 [2] (.one 5 [] .done)))))) (by kernel_rfl) ?_
    exact ⟨[], retXO (prepU xc xr xd (p, { Rep.zero with err := 22, at_ := p.floor })) [] Mem.none rfl (Mem.join_none m).symm (Mem.disj_none m) trivial ⟨xc, by rw [Mem.join_none]; exact hp.cells, rfl, rfl⟩⟩
  have e0 : prepareR p k = if (heldW p.cells k.writes).2 = true then (p, lockedR (heldW p.cells k.writes).1) else ({ p with cells := locksR k p.cells k.writes }, Rep.zero) := by unfold prepareR; rw [if_neg (by rw [h1]; simp), if_neg (by rw [h2]; simp), if_neg h3, if_neg (by rw [h4]; simp)]
  rw [e0]
  clear h1 h2 h3 h4 e0
  refine ⟨[], ⟨⟨Nat, fun i => i ≤ xw.n ∧ heldW p.cells k.writes = heldW p.cells (k.writes.drop i), fun i => xw.n - i,
    fun i => [(8, ai i), (2, .one (.ptr 2 0)), (3, .one (.ptr 3 0)), (4, .one (.ptr 4 0)), (5, .one (.ptr 5 0))], fun i => [(2, .box (vmap (p.c xc xr xd)) 31), (3, .box (vmap (k.c xs xw)) 37), (4, .box (vmap (zpart)) 31), (5, .box (vmap zrep) 43)], fun _ => m,
    ⟨0, ⟨Nat.zero_le _, rfl⟩, entails_ren [] ⟨rfl, rfl, rfl, rfl, rfl, trivial⟩ ⟨rfl, rfl, rfl, rfl, trivial⟩ rfl rfl⟩, fun i hi => ?_⟩⟩⟩
  obtain ⟨hin, hor⟩ := hi
  refine ⟨fun h2 => ?_, fun h2 => ?_⟩
  · have h2 : i < xw.n := by simpa using h2
    have hlt : i < k.writes.length := by omega
    obtain ⟨a, hA, hr⟩ := hk.writes.at (fun _ => rfl) (List.getElem?_eq_getElem hlt)
    have hd := heldW_drop (cells := p.cells) (List.getElem?_eq_getElem hlt)
    refine draw_cut [(10, .one (.v (.bool (heldR k.writes[i].key p.cells).2))), (9, .one (.ptr 9 0)), (8, ai i), (2, .one (.ptr 2 0)), (3, .one (.ptr 3 0)), (4, .one (.ptr 4 0)), (5, .one (.ptr 5 0))] [(9, .box (vmap (heldR k.writes[i].key p.cells).1.c) 53), (2, .box (vmap (p.c xc xr xd)) 31), (3, .box (vmap (k.c xs xw)) 37), (4, .box (vmap (zpart)) 31), (5, .box (vmap zrep) 43)] m ?_ ?_
    · refine draw Γok [(1, 2), (3, 3)] [8, 12, 13] (.take 0 (.take 1 (.take 2 (.take 3 (.take 4 (.take 5 (.take 6 (.take 7 (.two 8 [] (.take 9 (.take 10 (.take 11 (.one 12 [] (.one 13 [] (.take 14 .done)))))) 12 [2, 3] (.one 8 [] (.take 9 (.take 10 (.take 11 (.one 13 [] (.take 14 .done))))))))))))))) (by kernel_rfl) ?_
      refine ⟨i, a, _, rfl, h2, hA, hr, ?_⟩
      refine ⟨PureNode.kept (pureS (f50 m xc p.cells k.writes[i].key hp.cells) rfl rfl ?_), PureNode.kept (pureS (f50 m xc p.cells k.writes[i].key hp.cells) rfl rfl ?_)⟩ <;>
        exact entails_ren [] ⟨rfl, rfl, rfl, rfl, rfl, rfl, rfl, trivial⟩ ⟨rfl, rfl, rfl, rfl, rfl, trivial⟩ rfl rfl
    refine ⟨fun h3 => ?_, fun h3 => ?_⟩
    · rw [if_pos h3] at hd
      have hb : heldW p.cells k.writes = heldR k.writes[i].key p.cells := by rw [hor, hd]
      rw [hb, if_pos h3]
      refine draw Γok [(0, 2), (1, 9)] [2, 3, 4] (.take 0 (.take 1 (.pcall 2 (.one 3 [] (.one 4 [] .done))))) (by kernel_rfl) ?_
      refine pureS (f46 m _) rfl rfl ?_
      exact ⟨[], retXO (prepU xc xr xd (p, lockedR (heldR k.writes[i].key p.cells).1)) [] Mem.none rfl (Mem.join_none m).symm (Mem.disj_none m) trivial ⟨xc, by rw [Mem.join_none]; exact hp.cells, rfl, rfl⟩⟩
    · rw [if_neg (by rw [h3]; simp)] at hd
      refine ⟨_, i64_succ (n := i) (by omega), ?_⟩
      exact ⟨[], i + 1, ⟨by omega, by rw [hor, hd]⟩, by show xw.n - (i + 1) < xw.n - i; omega, entails_ren [] ⟨rfl, rfl, rfl, rfl, rfl, trivial⟩ ⟨rfl, rfl, rfl, rfl, trivial⟩ rfl rfl⟩
  have h2 : ¬ i < xw.n := by simpa using h2
  have hnb : heldW p.cells k.writes = (Lk.zero, false) := by rw [hor, List.drop_eq_nil_of_le (by omega)]; rfl
  rw [hnb, if_neg (by simp)]
  clear hor h2 hin hnb
  refine ⟨[], ⟨⟨LpSt, fun s => s.i ≤ xw.n ∧ Mem.Disj m s.mn ∧ CellRow (m.join s.mn) s.x (locksR k p.cells (k.writes.take s.i)) ∧ KeysUp (locksR k p.cells (k.writes.take s.i)) ∧ Small (locksR k p.cells (k.writes.take s.i)) ∧ (locksR k p.cells (k.writes.take s.i)).length ≤ p.cells.length + s.i, fun s => xw.n - s.i,
    fun s => [(11, ai s.i), (2, .one (.ptr 2 0)), (3, .one (.ptr 3 0)), (4, .one (.ptr 4 0)), (5, .one (.ptr 5 0))], fun s => [(2, .box (vmap (p.c s.x xr xd)) 31), (3, .box (vmap (k.c xs xw)) 37), (4, .box (vmap (zpart)) 31), (5, .box (vmap zrep) 43)], fun s => m.join s.mn,
    ⟨⟨0, xc, Mem.none⟩, ⟨Nat.zero_le _, Mem.disj_none m, by rw [Mem.join_none]; exact hp.cells, hup, hs.1, Nat.le_refl _⟩, entails_renM (Mem.join_none m).symm [] ⟨rfl, rfl, rfl, rfl, rfl, trivial⟩ ⟨rfl, rfl, rfl, rfl, trivial⟩ rfl rfl⟩, fun s hi => ?_⟩⟩⟩
  obtain ⟨i, x1, mn⟩ := s
  obtain ⟨hin, hdis, hg1, hku, hsm, hln⟩ := hi
  simp only at hin hdis hg1 hku hsm hln
  refine ⟨fun h2 => ?_, fun h2 => ?_⟩
  · have h2 : i < xw.n := by simpa using h2
    have hlt : i < k.writes.length := by omega
    obtain ⟨a, hA, hr⟩ := hk.writes.at (fun _ => rfl) (List.getElem?_eq_getElem hlt)
    have hnext : locksR k p.cells (k.writes.take (i + 1)) = lockR (locksR k p.cells (k.writes.take i)) k.writes[i] (lk0 k) := by unfold locksR; rw [← take_snoc hlt, List.foldl_append]; rfl
    refine draw Γok [(1, 2), (3, 3), (8, 3), (10, 3), (12, 3)] [14, 16] (.take 0 (.take 1 (.take 2 (.take 3 (.take 4 (.take 5 (.take 6 (.take 7 (.take 8 (.take 9 (.take 10 (.take 11 (.take 12 (.take 13 (.one 14 [] (.take 15 (.one 16 [] .done))))))))))))))))) (by kernel_rfl) ?_
    refine ⟨i, a, _, rfl, h2, hA, hr.mono' (Mem.le_join m mn), ?_⟩
    refine keptNC 10000 [] (k := 1003) (l := lockR (locksR k p.cells (k.writes.take i)) k.writes[i] (lk0 k)) ⟨[asl x1, .agg (vmap k.writes[i].c), .agg (vmap (lk0 k).c)], rfl, f51 _ x1 _ k.writes[i] (lk0 k) hg1 hsm hku⟩ rfl (fun g2 mn2 hd2 hg2 => ?_)
    refine ⟨_, i64_succ (n := i) (by omega), ?_⟩
    have hl2 := lockR_len (locksR k p.cells (k.writes.take i)) k.writes[i] (lk0 k)
    refine ⟨[.freeze 11003], fun A c m1 hd h1 h3 h4 h5 => ?_⟩
    have hdj := hdis.join hd2
    have hd' : Mem.Disj (m.join (mn.join mn2)) m1 := by rw [← Mem.join_assoc]; exact hd
    have hdj2 := hdj.join hd'
    have hrow := (hg2.mono (Mem.join_right hd2)).row hd h1 h3 h4 h5
    refine ⟨⟨i + 1, ⟨A, g2.length, c⟩, (mn.join mn2).join m1⟩, ⟨by show i + 1 ≤ xw.n; omega, hdj2, ?_, by rw [hnext]; exact lockR_keys hku _ _, ⟨by show List.length _ ≤ _; rw [hnext]; omega, ?_⟩, by show List.length _ ≤ p.cells.length + (i + 1); rw [hnext]; omega⟩, by show xw.n - (i + 1) < xw.n - i; omega, entails_renM (by show ((m.join mn).join mn2).join m1 = m.join ((mn.join mn2).join m1); rw [Mem.join_assoc, Mem.join_assoc, Mem.join_assoc]) [] ⟨rfl, rfl, rfl, rfl, rfl, trivial⟩ ⟨rfl, rfl, rfl, rfl, trivial⟩ rfl rfl⟩
    · show CellRow (m.join ((mn.join mn2).join m1)) _ (locksR k p.cells (k.writes.take (i + 1)))
      rw [hnext]
      have : m.join ((mn.join mn2).join m1) = ((m.join mn).join mn2).join m1 := by rw [Mem.join_assoc, Mem.join_assoc, Mem.join_assoc]
      rw [this]; exact hrow
    · show ∀ c ∈ locksR k p.cells (k.writes.take (i + 1)), c.vers.length ≤ 1048576
      rw [hnext]
      exact lockR_vers (P := fun v => v.length ≤ 1048576) (Nat.zero_le _) hsm.2
  have h2 : ¬ i < xw.n := by simpa using h2
  rw [List.take_of_length_le (by omega)] at hg1
  exact ⟨[], retXO (prepU x1 xr xd ({ p with cells := locksR k p.cells k.writes }, Rep.zero)) [] mn rfl rfl hdis trivial ⟨x1, hg1, rfl, rfl⟩⟩
end Vc
end

section
open Go Go.Proofs Vc
namespace Vc

def oc (k : Cmd) : Outc := ⟨k.who, k.at_, k.yes⟩
def decideR (p : Part) (k : Cmd) : Part × Rep :=
  if (findR k.who p.records).2 = true then (p, { Rep.zero with at_ := (findR k.who p.records).1.at_, yes := (findR k.who p.records).1.yes })
  else ({ p with records := p.records ++ [oc k] }, { Rep.zero with at_ := k.at_, yes := k.yes })
def settlePR (p : Part) (k : Cmd) : Part × Rep :=
  ({ p with cells := p.cells.filterMap (settleC k.who k.yes), done := if (findR k.who p.done).2 = true then p.done else p.done ++ [oc k] }, Rep.zero)
def closeR (p : Part) (k : Cmd) : Part × Rep :=
  ({ p with closed := max p.closed (min k.wall 4611686018427387904) }, { Rep.zero with wall := max p.closed (min k.wall 4611686018427387904) })
def trimPR (p : Part) (k : Cmd) : Part × Rep :=
  ({ p with low := max p.low (min k.wall p.closed), cells := p.cells.filterMap (trimC ⟨max p.low (min k.wall p.closed), 0⟩) }, { Rep.zero with wall := max p.low (min k.wall p.closed) })
def doesR (p : Part) (k : Cmd) : Part × Rep :=
  if k.kind = 2 then readR p k else if k.kind = 3 then prepareR p k else if k.kind = 4 then decideR p k else if k.kind = 5 then settlePR p k else if k.kind = 6 then closeR p k else if k.kind = 7 then trimPR p k else (p, { Rep.zero with err := 9 })
theorem orow_snoc (l : List Outc) (o : Outc) : Ent.own (l.length + 1) (l.flatMap Outc.c ++ o.c) 58 7 = orow (l ++ [o]) := by simp [orow]
theorem max_if (a b : Int) : (if b > a then b else a) = max a b := by split <;> omega
theorem min_if (a b : Int) : (if b < a then b else a) = min a b := by split <;> omega

abbrev lPB : List (Nat × Nat) := [(0, 0), (1005, 1005), (2005, 2005), (3005, 3005)]
theorem callDoes {E : Env} {f : FuncId} {args : List AV} {d : Option Nat} {F : Fr} {B : Ents} {m : Mem} {K : Cont} {Q : SPost} {p : Part} {g : Gs} {o : Part × Rep} (hf : FnX E.P f m args (PB p g) (DoesOut m o) noPanic) (ha : renAVs (renOf lPB 10000) args = args)
    (hc : callOk lPB 10000 [] [] F B (PB p g) E.pins = true) (hB : sameB (renOf lPB 10000) (PB p g) B)
    (hK1 : ∀ g' mn, Mem.Disj m mn → GOk g' o.1.cells (m.join mn) → putK E d (.agg (o.2.lv (.own 10060))) F ((10060, prow o.2.pairs) :: PBn 1005 o.1 g' ++ restB lPB B) (m.join mn) K)
    (hK2 : ∀ g' mn, Mem.Disj m mn → GOk g' o.1.cells (m.join mn) → putK E d (.agg (o.2.lv (.own 10060))) F ((10060, prow o.2.pairs) :: PBn 17005 o.1 g' ++ restB lPB B) (m.join mn) K) : CallNode E f args d F B m K Q :=
  KeptNode.call (callXK lPB 10000 [] hc hB ⟨args, ha, hf⟩ (fun u0 B0 mn hd h => by
    obtain ⟨c, g', hc, hg, rfl, rfl⟩ := h
    rcases hc with rfl | rfl
    · exact ⟨rfl, rfl, hK1 g' mn hd hg⟩
    · exact ⟨rfl, rfl, hK2 g' mn hd hg⟩) (fun _ _ _ _ h => h.elim))

set_option maxHeartbeats 1000000 in
theorem f22 (m : Mem) (p : Part) (g : Gs) (k : Cmd) (xs xw : Sl) (hg : GOk g p.cells m) (hk : CmdRow m k xs xw) (hup : Up p.cells) (hs : SmallP p) (hroom : p.cells.length + k.writes.length ≤ 1048576) : FnX Try.prog 22 m [.one (.ptr 0 0), .agg (vmap (k.c xs xw))] (PB p g) (DoesOut m (doesR p k)) noPanic := by
  refine fnX (args := [.one (.ptr 0 0), .agg (vmap (k.c xs xw))]) Γok mix Try.func22 rfl (by kernel_rfl) Try.ntmps22 rfl (by simp) (okv_cons trivial (okv_cons (okL_v rfl) okv_nil)) ?_
  intro ρ W
  have hm := maxLen_le; have hmax : 2097152 ≤ maxLen := by decide
  have hsr := hs.2.1; have hsd := hs.2.2
  unfold doesR
  refine ⟨fun h1 => ?_, fun h1 => ⟨fun h2 => ?_, fun h2 => ⟨fun h3 => ?_, fun h3 => ⟨fun h4 => ?_, fun h4 => ⟨fun h5 => ?_, fun h5 => ⟨fun h6 => ?_, fun h6 => ?_⟩⟩⟩⟩⟩⟩
  · have h1 : k.kind = 2 := by simpa using h1
    rw [if_pos h1]
    generalize ho : readR p k = o
    refine ⟨[], callDoes (o := o) (ho ▸ f41 m p g k xs xw hg hk hup hs.1) rfl rfl ⟨rfl, rfl, rfl, rfl, trivial⟩ (fun g' mn hd hg' => ?_) (fun g' mn hd hg' => ?_)⟩
    · exact ⟨[.cut], cutR [(60, 10060)] (F' := [(4, .one (.ptr 4 0))]) (B' := (4, .box (o.2.lv (.own 60)) 43) :: (60, prow o.2.pairs) :: PBn 1005 o.1 g') ⟨rfl, trivial⟩ ⟨rfl, rfl, rfl, rfl, rfl, rfl, trivial⟩ rfl rfl (retXO (.agg (o.2.lv (.own 60))) ((60, prow o.2.pairs) :: PBn 1005 o.1 g') mn rfl rfl hd ⟨rfl, rfl, rfl, rfl, rfl, trivial⟩ ⟨1005, g', .inl rfl, hg', rfl, rfl⟩)⟩
    · exact ⟨[.cut], cutR [(60, 10060), (7005, 17005)] (F' := [(4, .one (.ptr 4 0))]) (B' := (4, .box (o.2.lv (.own 60)) 43) :: (60, prow o.2.pairs) :: PBn 7005 o.1 g') ⟨rfl, trivial⟩ ⟨rfl, rfl, rfl, rfl, rfl, rfl, trivial⟩ rfl rfl (retXO (.agg (o.2.lv (.own 60))) ((60, prow o.2.pairs) :: PBn 7005 o.1 g') mn rfl rfl hd ⟨rfl, rfl, rfl, rfl, rfl, trivial⟩ ⟨7005, g', .inr rfl, hg', rfl, rfl⟩)⟩
  · have h1 : ¬ k.kind = 2 := by simpa using h1
    have h2 : k.kind = 3 := by simpa using h2
    rw [if_neg h1, if_pos h2]
    generalize ho : prepareR p k = o
    refine ⟨[], callDoes (o := o) (ho ▸ f42 m p g k xs xw hg hk hup.1 hs hroom) rfl rfl ⟨rfl, rfl, rfl, rfl, trivial⟩ (fun g' mn hd hg' => ?_) (fun g' mn hd hg' => ?_)⟩
    · exact ⟨[.cut], cutR [(60, 10060)] (F' := [(4, .one (.ptr 4 0))]) (B' := (4, .box (o.2.lv (.own 60)) 43) :: (60, prow o.2.pairs) :: PBn 1005 o.1 g') ⟨rfl, trivial⟩ ⟨rfl, rfl, rfl, rfl, rfl, rfl, trivial⟩ rfl rfl (retXO (.agg (o.2.lv (.own 60))) ((60, prow o.2.pairs) :: PBn 1005 o.1 g') mn rfl rfl hd ⟨rfl, rfl, rfl, rfl, rfl, trivial⟩ ⟨1005, g', .inl rfl, hg', rfl, rfl⟩)⟩
    · exact ⟨[.cut], cutR [(60, 10060), (7005, 17005)] (F' := [(4, .one (.ptr 4 0))]) (B' := (4, .box (o.2.lv (.own 60)) 43) :: (60, prow o.2.pairs) :: PBn 7005 o.1 g') ⟨rfl, trivial⟩ ⟨rfl, rfl, rfl, rfl, rfl, rfl, trivial⟩ rfl rfl (retXO (.agg (o.2.lv (.own 60))) ((60, prow o.2.pairs) :: PBn 7005 o.1 g') mn rfl rfl hd ⟨rfl, rfl, rfl, rfl, rfl, trivial⟩ ⟨7005, g', .inr rfl, hg', rfl, rfl⟩)⟩
  · have h1 : ¬ k.kind = 2 := by simpa using h1
    have h2 : ¬ k.kind = 3 := by simpa using h2
    have h3 : k.kind = 4 := by simpa using h3
    rw [if_neg h1, if_neg h2, if_pos h3]
    refine draw_cut [(6, .one (.v (.bool (findR k.who p.records).2))), (5, .one (.ptr 5 0)), (0, .one (.ptr 0 0)), (3, .one (.ptr 3 0)), (4, .one (.ptr 4 0))] ((5, .box (vmap (findR k.who p.records).1.c) 58) :: (3, .box (vmap (k.c xs xw)) 37) :: (4, .box (vmap zrep) 43) :: PB p g) m ?_ ?_
    · refine draw Γok [(3, 0), (5, 3)] [6, 10, 11] (.take 0 (.take 1 (.take 2 (.take 3 (.take 4 (.take 5 (.two 6 [] (.take 7 (.take 8 (.take 9 (.one 10 [] (.one 11 [] (.take 12 .done)))))) 10 [0, 3] (.one 6 [] (.take 7 (.take 8 (.take 9 (.one 11 [] (.take 12 .done))))))))))))) (by kernel_rfl) ?_
      refine ⟨PureNode.kept (callSP [2005] (v := voutb (findR k.who p.records)) rfl (fun A c m1 hd h1 h2 h3 h4 => ⟨_, rfl, f16 _ ⟨A, p.records.length, c⟩ p.records k.who (orow_row hd h1 h2 h3 h4)⟩) rfl ?_), PureNode.kept (callSP [2005] (v := voutb (findR k.who p.records)) rfl (fun A c m1 hd h1 h2 h3 h4 => ⟨_, rfl, f16 _ ⟨A, p.records.length, c⟩ p.records k.who (orow_row hd h1 h2 h3 h4)⟩) rfl ?_)⟩ <;>
        exact entails_ren [] ⟨rfl, rfl, rfl, rfl, rfl, trivial⟩ ⟨rfl, rfl, rfl, rfl, rfl, rfl, rfl, trivial⟩ rfl rfl
    refine ⟨fun h4 => ?_, fun h4 => ?_⟩
    · have e : decideR p k = (p, { Rep.zero with at_ := (findR k.who p.records).1.at_, yes := (findR k.who p.records).1.yes }) := by unfold decideR; rw [if_pos h4]
      rw [e]
      exact ⟨[.cut], nilCut 60 (F' := [(4, .one (.ptr 4 0))]) (B' := (4, .box (({ Rep.zero with at_ := (findR k.who p.records).1.at_, yes := (findR k.who p.records).1.yes } : Rep).lv (.own 60)) 43) :: (60, .own 0 [] 50 2) :: PB p g) ⟨rfl, trivial⟩ ⟨rfl, rfl, rfl, rfl, rfl, rfl, trivial⟩ (retDoes0 (p, { Rep.zero with at_ := (findR k.who p.records).1.at_, yes := (findR k.who p.records).1.yes }) hg rfl)⟩
    · have e : decideR p k = ({ p with records := p.records ++ [oc k] }, { Rep.zero with at_ := k.at_, yes := k.yes }) := by unfold decideR; rw [if_neg (by rw [h4]; simp)]
      rw [e]
      refine draw Γok [(4, 0), (6, 3), (8, 3), (10, 3)] [12, 13, 16] (.take 0 (.take 1 (.take 2 (.take 3 (.take 4 (.take 5 (.take 6 (.take 7 (.take 8 (.take 9 (.take 10 (.take 11 (.one 12 [0] (.one 13 [] (.take 14 (.take 15 (.one 16 [] .done))))))))))))))))) (by kernel_rfl) ?_
      refine ⟨[], by show p.records.length + 1 ≤ maxLen; omega, by show (p.records.length + 1) * 56 ≤ 140737488355328; omega, fun old => ?_⟩
      exact ⟨[.cut], nilCut 60 (F' := [(4, .one (.ptr 4 0))]) (B' := (4, .box (({ Rep.zero with at_ := k.at_, yes := k.yes } : Rep).lv (.own 60)) 43) :: (60, .own 0 [] 50 2) :: PB { p with records := p.records ++ [oc k] } g) ⟨rfl, trivial⟩ ⟨rfl, rfl, rfl, rfl, congrArg some (orow_snoc p.records (oc k)), rfl, trivial⟩ (retDoes0 ({ p with records := p.records ++ [oc k] }, { Rep.zero with at_ := k.at_, yes := k.yes }) hg rfl)⟩
  · have h1 : ¬ k.kind = 2 := by simpa using h1
    have h2 : ¬ k.kind = 3 := by simpa using h2
    have h3 : ¬ k.kind = 4 := by simpa using h3
    have h4 : k.kind = 5 := by simpa using h4
    rw [if_neg h1, if_neg h2, if_neg h3, if_pos h4]
    refine draw Γok [(4, 0), (6, 3), (8, 3)] [9, 12] (.take 0 (.take 1 (.take 2 (.take 3 (.take 4 (.take 5 (.take 6 (.take 7 (.take 8 (.one 9 [] (.take 10 (.take 11 (.one 12 [] .done))))))))))))) (by kernel_rfl) ?_
    refine keptNC 10000 [1005] (k := 7) (l := p.cells.filterMap (settleC k.who k.yes)) (fun A c m1 hd h1 h2 h3 h4 => ⟨[asl ⟨A, g.length, c⟩, .agg (vmap k.who.c), .one (.v (.bool k.yes))], rfl, f43 _ ⟨A, g.length, c⟩ _ k.who k.yes (hg.row hd h1 h2 h3 h4) hs.1 hup.2⟩) rfl (fun g2 mn hd hg2 => ?_)
    have hgm : GOk g2 (p.cells.filterMap (settleC k.who k.yes)) (m.join mn) := hg2.mono (Mem.join_right hd)
    refine draw_cut [(8, .one (.v (.bool (findR k.who p.done).2))), (7, .one (.ptr 7 0)), (0, .one (.ptr 0 0)), (3, .one (.ptr 3 0)), (4, .one (.ptr 4 0))] ((7, .box (vmap (findR k.who p.done).1.c) 58) :: (3, .box (vmap (k.c xs xw)) 37) :: (4, .box (vmap zrep) 43) :: PBn 10007 p g2) (m.join mn) ?_ ?_
    · refine draw Γok [(3, 0), (5, 3)] [6, 10, 11] (.take 0 (.take 1 (.take 2 (.take 3 (.take 4 (.take 5 (.two 6 [] (.take 7 (.take 8 (.take 9 (.one 10 [] (.one 11 [] (.take 12 .done)))))) 10 [0, 3] (.one 6 [] (.take 7 (.take 8 (.take 9 (.one 11 [] (.take 12 .done))))))))))))) (by kernel_rfl) ?_
      refine ⟨PureNode.kept (callSP [3005] (v := voutb (findR k.who p.done)) rfl (fun A c m1 hd h1 h2 h3 h4 => ⟨_, rfl, f16 _ ⟨A, p.done.length, c⟩ p.done k.who (orow_row hd h1 h2 h3 h4)⟩) rfl ?_), PureNode.kept (callSP [3005] (v := voutb (findR k.who p.done)) rfl (fun A c m1 hd h1 h2 h3 h4 => ⟨_, rfl, f16 _ ⟨A, p.done.length, c⟩ p.done k.who (orow_row hd h1 h2 h3 h4)⟩) rfl ?_)⟩ <;>
        exact entails_ren [] ⟨rfl, rfl, rfl, rfl, rfl, trivial⟩ ⟨rfl, rfl, rfl, rfl, rfl, rfl, rfl, trivial⟩ rfl rfl
    refine ⟨fun h5 => ?_, fun h5 => ?_⟩
    · have h5 : (findR k.who p.done).2 = false := by simpa using h5
      have e : settlePR p k = ({ p with cells := p.cells.filterMap (settleC k.who k.yes), done := p.done ++ [oc k] }, Rep.zero) := by unfold settlePR; rw [if_neg (by rw [h5]; simp)]
      rw [e]
      refine draw Γok [(4, 0), (6, 3), (8, 3), (10, 3)] [12, 13, 16] (.take 0 (.take 1 (.take 2 (.take 3 (.take 4 (.take 5 (.take 6 (.take 7 (.take 8 (.take 9 (.take 10 (.take 11 (.one 12 [0] (.one 13 [] (.take 14 (.take 15 (.one 16 [] .done))))))))))))))))) (by kernel_rfl) ?_
      refine ⟨[], by show p.done.length + 1 ≤ maxLen; omega, by show (p.done.length + 1) * 56 ≤ 140737488355328; omega, fun old => ?_⟩
      exact ⟨[.cut, .cut], cutR [(7005, 10007)] (F' := [(4, .one (.ptr 4 0))]) (B' := (4, .box (vmap zrep) 43) :: PBn 7005 { p with cells := p.cells.filterMap (settleC k.who k.yes), done := p.done ++ [oc k] } g2) ⟨rfl, trivial⟩ ⟨rfl, rfl, rfl, rfl, congrArg some (orow_snoc p.done (oc k)), trivial⟩ rfl rfl (nilCut 60 (F' := [(4, .one (.ptr 4 0))]) (B' := (4, .box (Rep.zero.lv (.own 60)) 43) :: (60, .own 0 [] 50 2) :: PBn 7005 { p with cells := p.cells.filterMap (settleC k.who k.yes), done := p.done ++ [oc k] } g2) ⟨rfl, trivial⟩ ⟨rfl, rfl, rfl, rfl, rfl, rfl, trivial⟩ (retDoesN 7005 (.inr rfl) ({ p with cells := p.cells.filterMap (settleC k.who k.yes), done := p.done ++ [oc k] }, Rep.zero) hd hgm rfl))⟩
    · have h5 : (findR k.who p.done).2 = true := by simpa using h5
      have e : settlePR p k = ({ p with cells := p.cells.filterMap (settleC k.who k.yes) }, Rep.zero) := by unfold settlePR; rw [if_pos h5]
      rw [e]
      exact ⟨[.cut, .cut], cutR [(7005, 10007)] (F' := [(4, .one (.ptr 4 0))]) (B' := (4, .box (vmap zrep) 43) :: PBn 7005 { p with cells := p.cells.filterMap (settleC k.who k.yes) } g2) ⟨rfl, trivial⟩ ⟨rfl, rfl, rfl, rfl, rfl, trivial⟩ rfl rfl (nilCut 60 (F' := [(4, .one (.ptr 4 0))]) (B' := (4, .box (Rep.zero.lv (.own 60)) 43) :: (60, .own 0 [] 50 2) :: PBn 7005 { p with cells := p.cells.filterMap (settleC k.who k.yes) } g2) ⟨rfl, trivial⟩ ⟨rfl, rfl, rfl, rfl, rfl, rfl, trivial⟩ (retDoesN 7005 (.inr rfl) ({ p with cells := p.cells.filterMap (settleC k.who k.yes) }, Rep.zero) hd hgm rfl))⟩
  · have h1 : ¬ k.kind = 2 := by simpa using h1
    have h2 : ¬ k.kind = 3 := by simpa using h2
    have h3 : ¬ k.kind = 4 := by simpa using h3
    have h4 : ¬ k.kind = 5 := by simpa using h4
    have h5 : k.kind = 6 := by simpa using h5
    rw [if_neg h1, if_neg h2, if_neg h3, if_neg h4, if_pos h5]
    unfold closeR
    rw [← min_if, ← max_if]
    refine draw Γok [(4, 0), (6, 3)] [11] (.take 0 (.take 1 (.take 2 (.take 3 (.take 4 (.take 5 (.take 6 (.take 7 (.take 8 (.take 9 (.take 10 (.one 11 [] .done)))))))))))) (by kernel_rfl) ?_
    exact ⟨[.cut], nilCut 60 (F' := [(4, .one (.ptr 4 0))]) (B' := (4, .box (({ Rep.zero with wall := (if (if (4611686018427387904 : Int) < k.wall then 4611686018427387904 else k.wall) > p.closed then (if (4611686018427387904 : Int) < k.wall then 4611686018427387904 else k.wall) else p.closed) } : Rep).lv (.own 60)) 43) :: (60, .own 0 [] 50 2) :: PB { p with closed := (if (if (4611686018427387904 : Int) < k.wall then 4611686018427387904 else k.wall) > p.closed then (if (4611686018427387904 : Int) < k.wall then 4611686018427387904 else k.wall) else p.closed) } g) ⟨rfl, trivial⟩ ⟨rfl, rfl, rfl, rfl, rfl, rfl, trivial⟩ (retDoes0 ({ p with closed := (if (if (4611686018427387904 : Int) < k.wall then 4611686018427387904 else k.wall) > p.closed then (if (4611686018427387904 : Int) < k.wall then 4611686018427387904 else k.wall) else p.closed) }, { Rep.zero with wall := (if (if (4611686018427387904 : Int) < k.wall then 4611686018427387904 else k.wall) > p.closed then (if (4611686018427387904 : Int) < k.wall then 4611686018427387904 else k.wall) else p.closed) }) hg rfl)⟩
  · have h1 : ¬ k.kind = 2 := by simpa using h1
    have h2 : ¬ k.kind = 3 := by simpa using h2
    have h3 : ¬ k.kind = 4 := by simpa using h3
    have h4 : ¬ k.kind = 5 := by simpa using h4
    have h5 : ¬ k.kind = 6 := by simpa using h5
    have h6 : k.kind = 7 := by simpa using h6
    rw [if_neg h1, if_neg h2, if_neg h3, if_neg h4, if_neg h5, if_pos h6]
    unfold trimPR
    rw [← min_if, ← max_if]
    refine draw Γok [(4, 0), (6, 3), (10, 0)] [15] (.take 0 (.take 1 (.take 2 (.take 3 (.take 4 (.take 5 (.take 6 (.take 7 (.take 8 (.take 9 (.take 10 (.take 11 (.take 12 (.take 13 (.take 14 (.one 15 [] .done)))))))))))))))) (by kernel_rfl) ?_
    refine draw Γok [(4, 0), (8, 0)] [10, 13] (.take 0 (.take 1 (.take 2 (.take 3 (.take 4 (.take 5 (.take 6 (.take 7 (.take 8 (.take 9 (.one 10 [] (.take 11 (.take 12 (.one 13 [] .done)))))))))))))) (by kernel_rfl) ?_
    refine keptNC 10000 [1005] (k := 5) (l := p.cells.filterMap (trimC ⟨(if (if p.closed < k.wall then p.closed else k.wall) > p.low then (if p.closed < k.wall then p.closed else k.wall) else p.low), 0⟩)) (fun A c m1 hd h1 h2 h3 h4 => ⟨[asl ⟨A, g.length, c⟩, .agg (vmap (Stamp.c ⟨(if (if p.closed < k.wall then p.closed else k.wall) > p.low then (if p.closed < k.wall then p.closed else k.wall) else p.low), 0⟩))], rfl, f44 _ ⟨A, g.length, c⟩ _ ⟨(if (if p.closed < k.wall then p.closed else k.wall) > p.low then (if p.closed < k.wall then p.closed else k.wall) else p.low), 0⟩ (hg.row hd h1 h2 h3 h4) hs.1 hup.2⟩) rfl (fun g2 mn hd hg2 => ?_)
    have hgm : GOk g2 (p.cells.filterMap (trimC ⟨(if (if p.closed < k.wall then p.closed else k.wall) > p.low then (if p.closed < k.wall then p.closed else k.wall) else p.low), 0⟩)) (m.join mn) := hg2.mono (Mem.join_right hd)
    exact ⟨[.cut, .cut], cutR [(7005, 10005)] (F' := [(4, .one (.ptr 4 0))]) (B' := (4, .box (vmap (({ Rep.zero with wall := (if (if p.closed < k.wall then p.closed else k.wall) > p.low then (if p.closed < k.wall then p.closed else k.wall) else p.low) } : Rep).c Sl.nil)) 43) :: PBn 7005 { p with low := (if (if p.closed < k.wall then p.closed else k.wall) > p.low then (if p.closed < k.wall then p.closed else k.wall) else p.low), cells := p.cells.filterMap (trimC ⟨(if (if p.closed < k.wall then p.closed else k.wall) > p.low then (if p.closed < k.wall then p.closed else k.wall) else p.low), 0⟩) } g2) ⟨rfl, trivial⟩ ⟨rfl, rfl, rfl, rfl, rfl, trivial⟩ rfl rfl (nilCut 60 (F' := [(4, .one (.ptr 4 0))]) (B' := (4, .box (({ Rep.zero with wall := (if (if p.closed < k.wall then p.closed else k.wall) > p.low then (if p.closed < k.wall then p.closed else k.wall) else p.low) } : Rep).lv (.own 60)) 43) :: (60, .own 0 [] 50 2) :: PBn 7005 { p with low := (if (if p.closed < k.wall then p.closed else k.wall) > p.low then (if p.closed < k.wall then p.closed else k.wall) else p.low), cells := p.cells.filterMap (trimC ⟨(if (if p.closed < k.wall then p.closed else k.wall) > p.low then (if p.closed < k.wall then p.closed else k.wall) else p.low), 0⟩) } g2) ⟨rfl, trivial⟩ ⟨rfl, rfl, rfl, rfl, rfl, rfl, trivial⟩ (retDoesN 7005 (.inr rfl) ({ p with low := (if (if p.closed < k.wall then p.closed else k.wall) > p.low then (if p.closed < k.wall then p.closed else k.wall) else p.low), cells := p.cells.filterMap (trimC ⟨(if (if p.closed < k.wall then p.closed else k.wall) > p.low then (if p.closed < k.wall then p.closed else k.wall) else p.low), 0⟩) }, { Rep.zero with wall := (if (if p.closed < k.wall then p.closed else k.wall) > p.low then (if p.closed < k.wall then p.closed else k.wall) else p.low) }) hd hgm rfl))⟩
  · have h1 : ¬ k.kind = 2 := by simpa using h1
    have h2 : ¬ k.kind = 3 := by simpa using h2
    have h3 : ¬ k.kind = 4 := by simpa using h3
    have h4 : ¬ k.kind = 5 := by simpa using h4
    have h5 : ¬ k.kind = 6 := by simpa using h5
    have h6 : ¬ k.kind = 7 := by simpa using h6
    rw [if_neg h1, if_neg h2, if_neg h3, if_neg h4, if_neg h5, if_neg h6]
    exact ⟨[.cut], nilCut 60 (F' := [(4, .one (.ptr 4 0))]) (B' := (4, .box (({ Rep.zero with err := 9 } : Rep).lv (.own 60)) 43) :: (60, .own 0 [] 50 2) :: PB p g) ⟨rfl, trivial⟩ ⟨rfl, rfl, rfl, rfl, rfl, rfl, trivial⟩ (retDoes0 (p, { Rep.zero with err := 9 }) hg rfl)⟩
end Vc
end

section
open Go Go.Proofs Vc
namespace Vc

def applyR (p : Part) (k : Cmd) : Part × Rep :=
  if k.kind = 1 then leaseR p k else if p.epoch = 0 ∨ k.epoch ≠ p.epoch then (p, { Rep.zero with err := 25 }) else doesR p k
theorem leaseR_err (p : Part) (k : Cmd) (h : (leaseR p k).2.err ≠ 0) : (leaseR p k).1 = p := by
  unfold leaseR at h ⊢
  split
  · rfl
  · rename_i hh; rw [if_neg hh] at h; exact absurd rfl h
theorem readR_err (p : Part) (k : Cmd) (h : (readR p k).2.err ≠ 0) : (readR p k).1 = p := by
  unfold readR at h ⊢
  split
  · rfl
  rename_i h0; rw [if_neg h0] at h
  split
  · rfl
  rename_i h1; rw [if_neg h1] at h
  split
  · rfl
  rename_i h2; rw [if_neg h2] at h
  exact absurd rfl h
theorem prepareR_err (p : Part) (k : Cmd) (h : (prepareR p k).2.err ≠ 0) : (prepareR p k).1 = p := by
  unfold prepareR at h ⊢
  split
  · rfl
  rename_i h0; rw [if_neg h0] at h
  split
  · rfl
  rename_i h1; rw [if_neg h1] at h
  split
  · rfl
  rename_i h2; rw [if_neg h2] at h
  split
  · rfl
  rename_i h3; rw [if_neg h3] at h
  split
  · rfl
  rename_i h4; rw [if_neg h4] at h
  exact absurd rfl h
theorem doesR_err (p : Part) (k : Cmd) (h : (doesR p k).2.err ≠ 0) : (doesR p k).1 = p := by
  unfold doesR at h ⊢
  split
  · rename_i h1; rw [if_pos h1] at h; exact readR_err p k h
  rename_i h1; rw [if_neg h1] at h
  split
  · rename_i h2; rw [if_pos h2] at h; exact prepareR_err p k h
  rename_i h2; rw [if_neg h2] at h
  split
  · rename_i h3; rw [if_pos h3] at h
    unfold decideR at h ⊢
    split
    · rfl
    · rename_i hh; rw [if_neg hh] at h; exact absurd rfl h
  rename_i h3; rw [if_neg h3] at h
  split
  · rename_i h4; rw [if_pos h4] at h; exact absurd rfl h
  rename_i h4; rw [if_neg h4] at h
  split
  · rename_i h5; rw [if_pos h5] at h; exact absurd rfl h
  rename_i h5; rw [if_neg h5] at h
  split
  · rename_i h6; rw [if_pos h6] at h; exact absurd rfl h
  rfl

def PBm (b c r d : Nat) (p : Part) (g : Gs) : Ents := [(b, .box (p.lv (.own c) (.own r) (.own d)) 31), (c, crow g), (r, orow p.records), (d, orow p.done)]
abbrev lPA : List (Nat × Nat) := [(0, 6), (1005, 11005), (2005, 12005), (3005, 13005)]
theorem callDoesA {E : Env} {f : FuncId} {args argsC : List AV} {d : Option Nat} {F : Fr} {B : Ents} {m : Mem} {K : Cont} {Q : SPost} {p : Part} {g : Gs} {o : Part × Rep} (hf : FnX E.P f m argsC (PB p g) (DoesOut m o) noPanic) (ha : renAVs (renOf lPA 100000) argsC = args)
    (hc : callOk lPA 100000 [] [] F B (PB p g) E.pins = true) (hB : sameB (renOf lPA 100000) (PB p g) B)
    (hK1 : ∀ g' mn, Mem.Disj m mn → GOk g' o.1.cells (m.join mn) → putK E d (.agg (o.2.lv (.own 100060))) F ((100060, prow o.2.pairs) :: PBm 6 11005 12005 13005 o.1 g' ++ restB lPA B) (m.join mn) K)
    (hK2 : ∀ g' mn, Mem.Disj m mn → GOk g' o.1.cells (m.join mn) → putK E d (.agg (o.2.lv (.own 100060))) F ((100060, prow o.2.pairs) :: PBm 6 107005 12005 13005 o.1 g' ++ restB lPA B) (m.join mn) K) : CallNode E f args d F B m K Q :=
  KeptNode.call (callXK lPA 100000 [] hc hB ⟨argsC, ha, hf⟩ (fun u0 B0 mn hd h => by
    obtain ⟨c, g', hc, hg, rfl, rfl⟩ := h
    rcases hc with rfl | rfl
    · exact ⟨rfl, rfl, hK1 g' mn hd hg⟩
    · exact ⟨rfl, rfl, hK2 g' mn hd hg⟩) (fun _ _ _ _ h => h.elim))
theorem keptNP {E : Env} {f : FuncId} {args : List AV} {ws : List Nat} {d0 : Option Nat} {F : Fr} {B : Ents} {m : Mem} {K : Cont} {Q : SPost} (base : Nat) (is : List Nat) {c r d : Nat} {p : Part}
    (hf : Borrow is B m args fun args' mb => ∃ argsC, renAVs (renOf [] base) argsC = args' ∧ FnX E.P f mb argsC [] (NewPart c r d p) noPanic) (hc : callOk [] base is ws F B [] E.pins = true)
    (hK : ∀ g mn, Mem.Disj m mn → GOk g p.cells mn → putK E d0 (.agg (p.lv (.own (base + c)) (.own (base + r)) (.own (base + d)))) F ((base + d, orow p.done) :: (base + r, orow p.records) :: (base + c, crow g) :: restB [] B) (m.join mn) K) : KeptNode E f args ws d0 F B m K Q :=
  callXK [] base is hc trivial hf (fun u0 B0 mn hd h => by
    obtain ⟨g, hg, rfl, rfl⟩ := h
    exact ⟨rfl, rfl, hK g mn hd hg⟩) (fun _ _ _ _ h => h.elim)

def applyU (o : Part × Rep) : AV := .tup [(true, o.1.lv (.own 1) (.own 2) (.own 3)), (true, o.2.lv (.own 14))]
def ApplyOut (m : Mem) (o : Part × Rep) : AV → Ents → Mem → Prop := fun u B mn => ∃ g, GOk g o.1.cells (m.join mn) ∧ u = applyU o ∧ B = [(1, crow g), (2, orow o.1.records), (3, orow o.1.done), (14, prow o.2.pairs)]

theorem retXR {P : Program} {Γ : Types} {N : Nat} {W : World} {m0 m : Mem} {ρ0 : Val} {B0 : Ents} {o : Part × Rep} {g : Gs} {mn : Mem} {Ψ : List PanicEntry → Ents → Mem → Prop} (hm : m = m0.join mn) (hd : Mem.Disj m0 mn) (hg : GOk g o.1.cells (m0.join mn)) :
    RetNode (envX P Γ N W m0 ρ0 B0) (applyU o) [(4, .box (o.1.lv (.own 1) (.own 2) (.own 3)) 31), (5, .box (o.2.lv (.own 14)) 43), (1, crow g), (2, orow o.1.records), (3, orow o.1.done), (14, prow o.2.pairs)] m (RX (envX P [] 0 W m0 ρ0 B0) (ApplyOut m0 o) Ψ) :=
  retXO (applyU o) [(1, crow g), (2, orow o.1.records), (3, orow o.1.done), (14, prow o.2.pairs)] mn rfl hm hd ⟨rfl, rfl, rfl, rfl, trivial⟩ ⟨g, hg, rfl, rfl⟩

set_option maxHeartbeats 1000000 in
theorem f9 (m : Mem) (p : Part) (xc xr xd : Sl) (k : Cmd) (xs xw : Sl) (hp : PartRow m p xc xr xd) (hk : CmdRow m k xs xw) (hup : Up p.cells) (hs : SmallP p) (hroom : p.cells.length + k.writes.length ≤ 1048576) (h0 : 0 ≤ p.epoch) (h1 : p.epoch ≤ 1099511627776) : FnX Try.prog 9 m [.agg (vmap (p.c xc xr xd)), .agg (vmap (k.c xs xw))] [] (ApplyOut m (applyR p k)) noPanic := by
  refine fnX (args := [.agg (vmap (p.c xc xr xd)), .agg (vmap (k.c xs xw))]) Γok mix Try.func9 rfl (by kernel_rfl) Try.ntmps9 rfl (by simp) (okv_cons (okL_v rfl) (okv_cons (okL_v rfl) okv_nil)) ?_
  intro ρ W
  refine ⟨[], KeptNode.call (ws := []) ?_⟩
  refine keptNP 10000 [] (c := 1005) (r := 2005) (d := 3005) (p := p) ⟨[.agg (vmap (p.c xc xr xd))], rfl, f20 m p xc xr xd hp hs⟩ rfl (fun g mn hd hg => ?_)
  have hle := Mem.le_join m mn
  have hgm : GOk g p.cells (m.join mn) := hg.mono (Mem.join_right hd)
  unfold applyR
  refine ⟨fun hk1 => ?_, fun hk1 => ⟨fun he => ?_, fun he => ⟨fun he2 => ?_, fun he2 => ?_⟩⟩⟩
  · have hk1 : k.kind = 1 := by simpa using hk1
    rw [if_pos hk1]
    have herr := leaseR_err p k
    have hcall := f21 (m.join mn) p g k xs xw hgm h0 h1
    generalize leaseR p k = o at herr hcall
    refine ⟨[.keep [2, 3, 4, 5, 6, 7]], callDoesA (o := o) (argsC := [.one (.ptr 0 0), .agg (vmap (k.c xs xw))]) hcall rfl rfl ⟨rfl, rfl, rfl, rfl, trivial⟩ (fun g' mn2 hd2 hg' => ?_) (fun g' mn2 hd2 hg' => ?_)⟩
    · have hdj := hd.join hd2
      refine ⟨fun h3 => ?_, fun h3 => ?_⟩
      · have h3 : o.2.err ≠ 0 := by simpa using h3
        have h4 := herr h3
        have hle2 : m.le ((m.join mn).join mn2) := Mem.le_trans hle (Mem.le_join _ _)
        refine draw Γok [(0, 2), (2, 7)] [1, 3, 4] (.take 0 (.take 2 (.one 1 [7] (.one 3 [7] (.one 4 [] .done))))) (by kernel_rfl) ?_
        refine keptNP 200000 [] (c := 1005) (r := 2005) (d := 3005) (p := p) ⟨[.agg (vmap (p.c xc xr xd))], rfl, f20 _ p xc xr xd (hp.mono hle2) hs⟩ rfl (fun g3 mn3 hd3 hg3 => ?_)
        obtain ⟨o1, o2⟩ := o
        simp only at h4
        subst h4
        have hdj3 := hdj.join (by rw [← Mem.join_assoc]; exact hd3)
        exact ⟨[.cut], cutR [(1, 201005), (2, 202005), (3, 203005), (14, 100060)] (F' := [(4, .one (.ptr 4 0)), (5, .one (.ptr 5 0))]) (B' := [(4, .box (o1.lv (.own 1) (.own 2) (.own 3)) 31), (5, .box (o2.lv (.own 14)) 43), (1, crow g3), (2, orow o1.records), (3, orow o1.done), (14, prow o2.pairs)]) ⟨rfl, rfl, trivial⟩ ⟨rfl, rfl, rfl, rfl, rfl, rfl, trivial⟩ rfl rfl
          (retXR (o := (o1, o2)) (mn := (mn.join mn2).join mn3) (by rw [Mem.join_assoc, Mem.join_assoc, Mem.join_assoc]) hdj3 (by have := hg3.mono (Mem.join_right hd3); rwa [show ((m.join mn).join mn2).join mn3 = m.join ((mn.join mn2).join mn3) by rw [Mem.join_assoc, Mem.join_assoc, Mem.join_assoc]] at this))⟩
      · refine draw Γok [(0, 6), (1, 7)] [2, 3] (.take 0 (.take 1 (.one 2 [7] (.one 3 [] .done)))) (by kernel_rfl) ?_
        exact ⟨[.cut], cutR [(1, 11005), (2, 12005), (3, 13005), (14, 100060)] (F' := [(4, .one (.ptr 4 0)), (5, .one (.ptr 5 0))]) (B' := [(4, .box (o.1.lv (.own 1) (.own 2) (.own 3)) 31), (5, .box (o.2.lv (.own 14)) 43), (1, crow g'), (2, orow o.1.records), (3, orow o.1.done), (14, prow o.2.pairs)]) ⟨rfl, rfl, trivial⟩ ⟨rfl, rfl, rfl, rfl, rfl, rfl, trivial⟩ rfl rfl
          (retXR (mn := mn.join mn2) (Mem.join_assoc m mn mn2) hdj (by rw [← Mem.join_assoc]; exact hg'))⟩
    · have hdj := hd.join hd2
      refine ⟨fun h3 => ?_, fun h3 => ?_⟩
      · have h3 : o.2.err ≠ 0 := by simpa using h3
        have h4 := herr h3
        have hle2 : m.le ((m.join mn).join mn2) := Mem.le_trans hle (Mem.le_join _ _)
        refine draw Γok [(0, 2), (2, 7)] [1, 3, 4] (.take 0 (.take 2 (.one 1 [7] (.one 3 [7] (.one 4 [] .done))))) (by kernel_rfl) ?_
        refine keptNP 200000 [] (c := 1005) (r := 2005) (d := 3005) (p := p) ⟨[.agg (vmap (p.c xc xr xd))], rfl, f20 _ p xc xr xd (hp.mono hle2) hs⟩ rfl (fun g3 mn3 hd3 hg3 => ?_)
        obtain ⟨o1, o2⟩ := o
        simp only at h4
        subst h4
        have hdj3 := hdj.join (by rw [← Mem.join_assoc]; exact hd3)
        exact ⟨[.cut], cutR [(1, 201005), (2, 202005), (3, 203005), (14, 100060)] (F' := [(4, .one (.ptr 4 0)), (5, .one (.ptr 5 0))]) (B' := [(4, .box (o1.lv (.own 1) (.own 2) (.own 3)) 31), (5, .box (o2.lv (.own 14)) 43), (1, crow g3), (2, orow o1.records), (3, orow o1.done), (14, prow o2.pairs)]) ⟨rfl, rfl, trivial⟩ ⟨rfl, rfl, rfl, rfl, rfl, rfl, trivial⟩ rfl rfl
          (retXR (o := (o1, o2)) (mn := (mn.join mn2).join mn3) (by rw [Mem.join_assoc, Mem.join_assoc, Mem.join_assoc]) hdj3 (by have := hg3.mono (Mem.join_right hd3); rwa [show ((m.join mn).join mn2).join mn3 = m.join ((mn.join mn2).join mn3) by rw [Mem.join_assoc, Mem.join_assoc, Mem.join_assoc]] at this))⟩
      · refine draw Γok [(0, 6), (1, 7)] [2, 3] (.take 0 (.take 1 (.one 2 [7] (.one 3 [] .done)))) (by kernel_rfl) ?_
        exact ⟨[.cut], cutR [(1, 107005), (2, 12005), (3, 13005), (14, 100060)] (F' := [(4, .one (.ptr 4 0)), (5, .one (.ptr 5 0))]) (B' := [(4, .box (o.1.lv (.own 1) (.own 2) (.own 3)) 31), (5, .box (o.2.lv (.own 14)) 43), (1, crow g'), (2, orow o.1.records), (3, orow o.1.done), (14, prow o.2.pairs)]) ⟨rfl, rfl, trivial⟩ ⟨rfl, rfl, rfl, rfl, rfl, rfl, trivial⟩ rfl rfl
          (retXR (mn := mn.join mn2) (Mem.join_assoc m mn mn2) hdj (by rw [← Mem.join_assoc]; exact hg'))⟩
  · have hk1 : ¬ k.kind = 1 := by simpa using hk1
    have he : p.epoch = 0 := by simpa using he
    rw [if_neg hk1, if_pos (.inl he)]
    refine ⟨fun _ => ?_, fun h => absurd h (by simp)⟩
    refine draw Γok [(0, 2), (2, 7)] [1, 3, 4] (.take 0 (.take 2 (.one 1 [7] (.one 3 [7] (.one 4 [] .done))))) (by kernel_rfl) ?_
    refine keptNP 200000 [] (c := 1005) (r := 2005) (d := 3005) (p := p) ⟨[.agg (vmap (p.c xc xr xd))], rfl, f20 _ p xc xr xd (hp.mono hle) hs⟩ rfl (fun g3 mn3 hd3 hg3 => ?_)
    have hdj3 := hd.join hd3
    refine ⟨[.cut, .cut], nilCut 14 (F' := [(4, .one (.ptr 4 0)), (5, .one (.ptr 5 0))]) (B' := [(4, .box (p.lv (.own 201005) (.own 202005) (.own 203005)) 31), (5, .box (({ Rep.zero with err := 25 } : Rep).lv (.own 14)) 43), (201005, crow g3), (202005, orow p.records), (203005, orow p.done), (14, .own 0 [] 50 2)]) ⟨rfl, rfl, trivial⟩ ⟨rfl, rfl, rfl, rfl, rfl, rfl, trivial⟩ ?_⟩
    exact cutR [(1, 201005), (2, 202005), (3, 203005)] (F' := [(4, .one (.ptr 4 0)), (5, .one (.ptr 5 0))]) (B' := [(4, .box (p.lv (.own 1) (.own 2) (.own 3)) 31), (5, .box (({ Rep.zero with err := 25 } : Rep).lv (.own 14)) 43), (1, crow g3), (2, orow p.records), (3, orow p.done), (14, .own 0 [] 50 2)]) ⟨rfl, rfl, trivial⟩ ⟨rfl, rfl, rfl, rfl, rfl, rfl, trivial⟩ rfl rfl
      (retXR (o := (p, { Rep.zero with err := 25 })) (mn := mn.join mn3) (Mem.join_assoc m mn mn3) hdj3 (by rw [← Mem.join_assoc]; exact hg3.mono (Mem.join_right hd3)))
  · have hk1 : ¬ k.kind = 1 := by simpa using hk1
    have he2 : k.epoch ≠ p.epoch := by simpa using he2
    rw [if_neg hk1, if_pos (.inr he2)]
    refine ⟨fun _ => ?_, fun h => absurd h (by simp)⟩
    refine draw Γok [(0, 2), (2, 7)] [1, 3, 4] (.take 0 (.take 2 (.one 1 [7] (.one 3 [7] (.one 4 [] .done))))) (by kernel_rfl) ?_
    refine keptNP 200000 [] (c := 1005) (r := 2005) (d := 3005) (p := p) ⟨[.agg (vmap (p.c xc xr xd))], rfl, f20 _ p xc xr xd (hp.mono hle) hs⟩ rfl (fun g3 mn3 hd3 hg3 => ?_)
    have hdj3 := hd.join hd3
    refine ⟨[.cut, .cut], nilCut 14 (F' := [(4, .one (.ptr 4 0)), (5, .one (.ptr 5 0))]) (B' := [(4, .box (p.lv (.own 201005) (.own 202005) (.own 203005)) 31), (5, .box (({ Rep.zero with err := 25 } : Rep).lv (.own 14)) 43), (201005, crow g3), (202005, orow p.records), (203005, orow p.done), (14, .own 0 [] 50 2)]) ⟨rfl, rfl, trivial⟩ ⟨rfl, rfl, rfl, rfl, rfl, rfl, trivial⟩ ?_⟩
    exact cutR [(1, 201005), (2, 202005), (3, 203005)] (F' := [(4, .one (.ptr 4 0)), (5, .one (.ptr 5 0))]) (B' := [(4, .box (p.lv (.own 1) (.own 2) (.own 3)) 31), (5, .box (({ Rep.zero with err := 25 } : Rep).lv (.own 14)) 43), (1, crow g3), (2, orow p.records), (3, orow p.done), (14, .own 0 [] 50 2)]) ⟨rfl, rfl, trivial⟩ ⟨rfl, rfl, rfl, rfl, rfl, rfl, trivial⟩ rfl rfl
      (retXR (o := (p, { Rep.zero with err := 25 })) (mn := mn.join mn3) (Mem.join_assoc m mn mn3) hdj3 (by rw [← Mem.join_assoc]; exact hg3.mono (Mem.join_right hd3)))
  · have hk1 : ¬ k.kind = 1 := by simpa using hk1
    have he : ¬ p.epoch = 0 := by simpa using he
    have he2 : ¬ k.epoch ≠ p.epoch := by simpa using he2
    rw [if_neg hk1, if_neg (fun h => h.elim he he2)]
    have herr := doesR_err p k
    have hcall := f22 (m.join mn) p g k xs xw hgm (hk.mono hle) hup hs hroom
    generalize doesR p k = o at herr hcall
    refine ⟨[.keep [2, 3, 4, 5, 6, 7]], callDoesA (o := o) (argsC := [.one (.ptr 0 0), .agg (vmap (k.c xs xw))]) hcall rfl rfl ⟨rfl, rfl, rfl, rfl, trivial⟩ (fun g' mn2 hd2 hg' => ?_) (fun g' mn2 hd2 hg' => ?_)⟩
    · have hdj := hd.join hd2
      refine ⟨fun h3 => ?_, fun h3 => ?_⟩
      · have h3 : o.2.err ≠ 0 := by simpa using h3
        have h4 := herr h3
        have hle2 : m.le ((m.join mn).join mn2) := Mem.le_trans hle (Mem.le_join _ _)
        refine draw Γok [(0, 2), (2, 7)] [1, 3, 4] (.take 0 (.take 2 (.one 1 [7] (.one 3 [7] (.one 4 [] .done))))) (by kernel_rfl) ?_
        refine keptNP 200000 [] (c := 1005) (r := 2005) (d := 3005) (p := p) ⟨[.agg (vmap (p.c xc xr xd))], rfl, f20 _ p xc xr xd (hp.mono hle2) hs⟩ rfl (fun g3 mn3 hd3 hg3 => ?_)
        obtain ⟨o1, o2⟩ := o
        simp only at h4
        subst h4
        have hdj3 := hdj.join (by rw [← Mem.join_assoc]; exact hd3)
        exact ⟨[.cut], cutR [(1, 201005), (2, 202005), (3, 203005), (14, 100060)] (F' := [(4, .one (.ptr 4 0)), (5, .one (.ptr 5 0))]) (B' := [(4, .box (o1.lv (.own 1) (.own 2) (.own 3)) 31), (5, .box (o2.lv (.own 14)) 43), (1, crow g3), (2, orow o1.records), (3, orow o1.done), (14, prow o2.pairs)]) ⟨rfl, rfl, trivial⟩ ⟨rfl, rfl, rfl, rfl, rfl, rfl, trivial⟩ rfl rfl
          (retXR (o := (o1, o2)) (mn := (mn.join mn2).join mn3) (by rw [Mem.join_assoc, Mem.join_assoc, Mem.join_assoc]) hdj3 (by have := hg3.mono (Mem.join_right hd3); rwa [show ((m.join mn).join mn2).join mn3 = m.join ((mn.join mn2).join mn3) by rw [Mem.join_assoc, Mem.join_assoc, Mem.join_assoc]] at this))⟩
      · refine draw Γok [(0, 6), (1, 7)] [2, 3] (.take 0 (.take 1 (.one 2 [7] (.one 3 [] .done)))) (by kernel_rfl) ?_
        exact ⟨[.cut], cutR [(1, 11005), (2, 12005), (3, 13005), (14, 100060)] (F' := [(4, .one (.ptr 4 0)), (5, .one (.ptr 5 0))]) (B' := [(4, .box (o.1.lv (.own 1) (.own 2) (.own 3)) 31), (5, .box (o.2.lv (.own 14)) 43), (1, crow g'), (2, orow o.1.records), (3, orow o.1.done), (14, prow o.2.pairs)]) ⟨rfl, rfl, trivial⟩ ⟨rfl, rfl, rfl, rfl, rfl, rfl, trivial⟩ rfl rfl
          (retXR (mn := mn.join mn2) (Mem.join_assoc m mn mn2) hdj (by rw [← Mem.join_assoc]; exact hg'))⟩
    · have hdj := hd.join hd2
      refine ⟨fun h3 => ?_, fun h3 => ?_⟩
      · have h3 : o.2.err ≠ 0 := by simpa using h3
        have h4 := herr h3
        have hle2 : m.le ((m.join mn).join mn2) := Mem.le_trans hle (Mem.le_join _ _)
        refine draw Γok [(0, 2), (2, 7)] [1, 3, 4] (.take 0 (.take 2 (.one 1 [7] (.one 3 [7] (.one 4 [] .done))))) (by kernel_rfl) ?_
        refine keptNP 200000 [] (c := 1005) (r := 2005) (d := 3005) (p := p) ⟨[.agg (vmap (p.c xc xr xd))], rfl, f20 _ p xc xr xd (hp.mono hle2) hs⟩ rfl (fun g3 mn3 hd3 hg3 => ?_)
        obtain ⟨o1, o2⟩ := o
        simp only at h4
        subst h4
        have hdj3 := hdj.join (by rw [← Mem.join_assoc]; exact hd3)
        exact ⟨[.cut], cutR [(1, 201005), (2, 202005), (3, 203005), (14, 100060)] (F' := [(4, .one (.ptr 4 0)), (5, .one (.ptr 5 0))]) (B' := [(4, .box (o1.lv (.own 1) (.own 2) (.own 3)) 31), (5, .box (o2.lv (.own 14)) 43), (1, crow g3), (2, orow o1.records), (3, orow o1.done), (14, prow o2.pairs)]) ⟨rfl, rfl, trivial⟩ ⟨rfl, rfl, rfl, rfl, rfl, rfl, trivial⟩ rfl rfl
          (retXR (o := (o1, o2)) (mn := (mn.join mn2).join mn3) (by rw [Mem.join_assoc, Mem.join_assoc, Mem.join_assoc]) hdj3 (by have := hg3.mono (Mem.join_right hd3); rwa [show ((m.join mn).join mn2).join mn3 = m.join ((mn.join mn2).join mn3) by rw [Mem.join_assoc, Mem.join_assoc, Mem.join_assoc]] at this))⟩
      · refine draw Γok [(0, 6), (1, 7)] [2, 3] (.take 0 (.take 1 (.one 2 [7] (.one 3 [] .done)))) (by kernel_rfl) ?_
        exact ⟨[.cut], cutR [(1, 107005), (2, 12005), (3, 13005), (14, 100060)] (F' := [(4, .one (.ptr 4 0)), (5, .one (.ptr 5 0))]) (B' := [(4, .box (o.1.lv (.own 1) (.own 2) (.own 3)) 31), (5, .box (o.2.lv (.own 14)) 43), (1, crow g'), (2, orow o.1.records), (3, orow o.1.done), (14, prow o.2.pairs)]) ⟨rfl, rfl, trivial⟩ ⟨rfl, rfl, rfl, rfl, rfl, rfl, trivial⟩ rfl rfl
          (retXR (mn := mn.join mn2) (Mem.join_assoc m mn mn2) hdj (by rw [← Mem.join_assoc]; exact hg'))⟩
end Vc
end

section
open Go Go.Proofs Vc
namespace Vc

theorem readR_pairs (p : Part) (k : Cmd) : readR p k = if k.at_.wall < p.low then (p, { Rep.zero with err := 24, wall := p.low }) else if (pairsO p.cells k.at_ k.spans).2.err ≠ 0 then (p, (pairsO p.cells k.at_ k.spans).2) else ({ p with floor := p.floor.max k.at_ }, { Rep.zero with pairs := (pairsO p.cells k.at_ k.spans).1 }) := by
  unfold readR pairsO
  split
  · rfl
  · split
    · rw [if_pos (by show (20 : Int) ≠ 0; decide)]
    · split
      · rfl
      · rw [if_neg (by simp [Rep.zero])]
theorem pairsO_nil (cells : List Cell) (t : Stamp) (l : List Span) : (pairsO cells t l).2.pairs = [] := by
  unfold pairsO
  split
  · rfl
  · split <;> rfl
def refU (o : Part × Rep) (xc xr xd xp : Sl) : AV := .tup [(true, vmap (o.1.c xc xr xd)), (true, vmap (o.2.c xp))]
def RefOut (m : Mem) (o : Part × Rep) : AV → Ents → Mem → Prop := fun u B mn => ∃ xc xr xd xp, PartRow (m.join mn) o.1 xc xr xd ∧ PairRow (m.join mn) xp o.2.pairs ∧ u = refU o xc xr xd xp ∧ B = []
theorem pairNil (m : Mem) : PairRow m Sl.nil [] := ⟨⟨rfl, Nat.le_refl _, Nat.zero_le _, fun h => absurd h (by decide)⟩, rfl⟩
theorem retFz {P : Program} {Γ : Types} {N : Nat} {W : World} {m mn mm : Mem} {ρ : Val} {B0 B : Ents} {Ψ : List PanicEntry → Ents → Mem → Prop} {o : Part × Rep} {g : Gs} (xp : Sl) (hmm : mm = m.join mn) (hd : Mem.Disj m mn) (hg : GOk g o.1.cells mm) (hp : PairRow mm xp o.2.pairs)
    {A : Option Addr} {c : Nat} {m1 : Mem} (hd1 : Mem.Disj mm m1) (a1 : g.cells.length = g.length * 12) (a2 : g.length ≤ c) (a3 : c ≤ maxLen) (a4 : 0 < g.length → ∃ a, A = some a ∧ MemReads m1 a g.cells)
    {A2 : Option Addr} {c2 : Nat} {m2 : Mem} (hd2 : Mem.Disj (mm.join m1) m2) (b1 : (o.1.records.flatMap Outc.c).length = o.1.records.length * 7) (b2 : o.1.records.length ≤ c2) (b3 : c2 ≤ maxLen) (b4 : 0 < o.1.records.length → ∃ a, A2 = some a ∧ MemReads m2 a (o.1.records.flatMap Outc.c))
    {A3 : Option Addr} {c3 : Nat} {m3 : Mem} (hd3 : Mem.Disj ((mm.join m1).join m2) m3) (d1 : (o.1.done.flatMap Outc.c).length = o.1.done.length * 7) (d2 : o.1.done.length ≤ c3) (d3 : c3 ≤ maxLen) (d4 : 0 < o.1.done.length → ∃ a, A3 = some a ∧ MemReads m3 a (o.1.done.flatMap Outc.c)) :
    RetNode (envX P Γ N W m ρ B0) (refU o ⟨A, g.length, c⟩ ⟨A2, o.1.records.length, c2⟩ ⟨A3, o.1.done.length, c3⟩ xp) B (((mm.join m1).join m2).join m3) (RX (envX P [] 0 W m ρ B0) (RefOut m o) Ψ) := by
  subst hmm
  have e1 : (m.join mn).join m1 = m.join (mn.join m1) := Mem.join_assoc _ _ _
  have e2 : ((m.join mn).join m1).join m2 = m.join ((mn.join m1).join m2) := by rw [e1, Mem.join_assoc]
  have e3 : (((m.join mn).join m1).join m2).join m3 = m.join (((mn.join m1).join m2).join m3) := by rw [e2, Mem.join_assoc]
  have j1 := hd.join hd1
  have j2 := j1.join (e1 ▸ hd2)
  have j3 := j2.join (e2 ▸ hd3)
  have l1 : (m.join mn).le ((((m.join mn).join m1).join m2).join m3) := Mem.le_trans (Mem.le_join _ _) (Mem.le_trans (Mem.le_join _ _) (Mem.le_join _ _))
  refine retXO _ [] _ rfl e3 j3 trivial ⟨_, _, _, xp, ⟨?_, ?_, ?_⟩, ?_, rfl, rfl⟩
  · rw [← e3]; exact (hg.row hd1 a1 a2 a3 a4).mono (Mem.le_trans (Mem.le_join _ _) (Mem.le_join _ _))
  · rw [← e3]; exact (orow_row hd2 b1 b2 b3 b4).mono (Mem.le_join _ _)
  · rw [← e3]; exact orow_row hd3 d1 d2 d3 d4
  · rw [← e3]; exact hp.mono l1
theorem prepareR_rest (p : Part) (k : Cmd) : (prepareR p k).1.records = p.records ∧ (prepareR p k).1.done = p.done ∧ (prepareR p k).2.pairs = [] := by
  unfold prepareR
  repeat' split
  all_goals exact ⟨rfl, rfl, rfl⟩

set_option maxHeartbeats 2000000 in
theorem f10 (m : Mem) (p : Part) (xc xr xd : Sl) (k : Cmd) (xs xw : Sl) (hp : PartRow m p xc xr xd) (hk : CmdRow m k xs xw) (hup : Up p.cells) (hs : SmallP p) (hroom : p.cells.length + k.writes.length ≤ 1048576) (h0 : 0 ≤ p.epoch) (h1 : p.epoch ≤ 1099511627776) : FnX Try.prog 10 m [.agg (vmap (p.c xc xr xd)), .agg (vmap (k.c xs xw))] [] (RefOut m (applyR p k)) noPanic := by
  refine fnX (args := [.agg (vmap (p.c xc xr xd)), .agg (vmap (k.c xs xw))]) Γok mix Try.func10 rfl (by kernel_rfl) Try.ntmps10 rfl (by simp) (okv_cons (okL_v rfl) (okv_cons (okL_v rfl) okv_nil)) ?_
  intro ρ W
  have hm := maxLen_le; have hmax : 2097152 ≤ maxLen := by decide
  have hsr := hs.2.1; have hsd := hs.2.2
  refine ⟨[], KeptNode.call (ws := []) ?_⟩
  refine keptNP 10000 [] (c := 1003) (r := 7) (d := 11) (p := p) ⟨[.agg (vmap (p.c xc xr xd))], rfl, f8 m p xc xr xd hp hs⟩ rfl (fun g mn hd hg => ?_)
  have hle := Mem.le_join m mn
  have hgm : GOk g p.cells (m.join mn) := hg.mono (Mem.join_right hd)
  have hkm := hk.mono hle
  have hwr : IntKind.i64.wrap (p.epoch + 1) = p.epoch + 1 := i64_in _ (by omega)
  unfold applyR
  refine ⟨fun hk1 => ⟨_, hwr, ⟨fun h2 => ?_, fun h2 => ⟨fun h3 => ?_, fun h3 => ?_⟩⟩⟩, fun hk1 => ⟨fun he => ?_, fun he => ⟨fun he2 => ?_, fun he2 => ?_⟩⟩⟩
  · have hk1 : k.kind = 1 := by simpa using hk1
    have h2 : k.epoch ≠ p.epoch + 1 := by simpa using h2
    have e : leaseR p k = (p, { Rep.zero with err := 25 }) := by unfold leaseR; rw [if_pos (.inl h2)]
    rw [if_pos hk1, e]
    exact ⟨[.freeze 11003, .freeze 10007, .freeze 10011], fun A c m1 hd1 a1 a2 a3 a4 A2 c2 m2 hd2 b1 b2 b3 b4 A3 c3 m3 hd3 d1 d2 d3 d4 => retFz (o := (p, { Rep.zero with err := 25 })) Sl.nil rfl hd hgm (pairNil _) hd1 a1 a2 a3 a4 hd2 b1 b2 b3 b4 hd3 d1 d2 d3 d4⟩
  · have hk1 : k.kind = 1 := by simpa using hk1
    have h3 : k.epoch > 1099511627776 := by simpa using h3
    have e : leaseR p k = (p, { Rep.zero with err := 25 }) := by unfold leaseR; rw [if_pos (.inr h3)]
    rw [if_pos hk1, e]
    exact ⟨[.freeze 11003, .freeze 10007, .freeze 10011], fun A c m1 hd1 a1 a2 a3 a4 A2 c2 m2 hd2 b1 b2 b3 b4 A3 c3 m3 hd3 d1 d2 d3 d4 => retFz (o := (p, { Rep.zero with err := 25 })) Sl.nil rfl hd hgm (pairNil _) hd1 a1 a2 a3 a4 hd2 b1 b2 b3 b4 hd3 d1 d2 d3 d4⟩
  · have hk1 : k.kind = 1 := by simpa using hk1
    have h2 : k.epoch = p.epoch + 1 := by simpa using h2
    have h3 : ¬ k.epoch > 1099511627776 := by simpa using h3
    have e : leaseR p k = ({ p with epoch := k.epoch, holder := k.node }, Rep.zero) := by unfold leaseR; rw [if_neg (by omega)]
    rw [if_pos hk1, e]
    refine draw Γok [(1, 3), (3, 3)] [5, 7] (.take 0 (.take 1 (.take 2 (.take 3 (.take 4 (.one 5 [3] (.take 6 (.one 7 [] .done)))))))) (by kernel_rfl) ?_
    exact ⟨[.freeze 11003, .freeze 10007, .freeze 10011], fun A c m1 hd1 a1 a2 a3 a4 A2 c2 m2 hd2 b1 b2 b3 b4 A3 c3 m3 hd3 d1 d2 d3 d4 => retFz (o := ({ p with epoch := k.epoch, holder := k.node }, Rep.zero)) Sl.nil rfl hd hgm (pairNil _) hd1 a1 a2 a3 a4 hd2 b1 b2 b3 b4 hd3 d1 d2 d3 d4⟩
  · have hk1 : ¬ k.kind = 1 := by simpa using hk1
    have he : p.epoch = 0 := by simpa using he
    rw [if_neg hk1, if_pos (.inl he)]
    exact ⟨[.freeze 11003, .freeze 10007, .freeze 10011], fun A c m1 hd1 a1 a2 a3 a4 A2 c2 m2 hd2 b1 b2 b3 b4 A3 c3 m3 hd3 d1 d2 d3 d4 => retFz (o := (p, { Rep.zero with err := 25 })) Sl.nil rfl hd hgm (pairNil _) hd1 a1 a2 a3 a4 hd2 b1 b2 b3 b4 hd3 d1 d2 d3 d4⟩
  · have hk1 : ¬ k.kind = 1 := by simpa using hk1
    have he2 : k.epoch ≠ p.epoch := by simpa using he2
    rw [if_neg hk1, if_pos (.inr he2)]
    exact ⟨[.freeze 11003, .freeze 10007, .freeze 10011], fun A c m1 hd1 a1 a2 a3 a4 A2 c2 m2 hd2 b1 b2 b3 b4 A3 c3 m3 hd3 d1 d2 d3 d4 => retFz (o := (p, { Rep.zero with err := 25 })) Sl.nil rfl hd hgm (pairNil _) hd1 a1 a2 a3 a4 hd2 b1 b2 b3 b4 hd3 d1 d2 d3 d4⟩
  have hk1 : ¬ k.kind = 1 := by simpa using hk1
  have he : ¬ p.epoch = 0 := by simpa using he
  have he2 : ¬ k.epoch ≠ p.epoch := by simpa using he2
  rw [if_neg hk1, if_neg (fun h => h.elim he he2)]
  clear hk1 he he2
  unfold doesR
  refine ⟨fun h1 => ?_, fun h1 => ⟨fun h2 => ?_, fun h2 => ⟨fun h3 => ?_, fun h3 => ⟨fun h4 => ?_, fun h4 => ⟨fun h5 => ?_, fun h5 => ⟨fun h6 => ?_, fun h6 => ?_⟩⟩⟩⟩⟩⟩
  · have h1 : k.kind = 2 := by simpa using h1
    rw [if_pos h1, readR_pairs]
    refine ⟨fun h2 => ?_, fun h2 => ?_⟩
    · have h2 : k.at_.wall < p.low := by simpa using h2
      rw [if_pos h2]
      refine draw Γok [(0, 6), (2, 6)] [4, 5] (.take 0 (.take 1 (.take 2 (.take 3 (.one 4 [6] (.one 5 [] .done)))))) (by kernel_rfl) ?_
      exact ⟨[.freeze 11003, .freeze 10007, .freeze 10011], fun A c m1 hd1 a1 a2 a3 a4 A2 c2 m2 hd2 b1 b2 b3 b4 A3 c3 m3 hd3 d1 d2 d3 d4 => retFz (o := (p, { Rep.zero with err := 24, wall := p.low })) Sl.nil rfl hd hgm (pairNil _) hd1 a1 a2 a3 a4 hd2 b1 b2 b3 b4 hd3 d1 d2 d3 d4⟩
    · have h2 : ¬ k.at_.wall < p.low := by simpa using h2
      rw [if_neg h2]
      have hnil := pairsO_nil p.cells k.at_ k.spans
      have hcall := fun (mb : Mem) (x1 x2 x3 : Sl) (hq : PartRow mb p x1 x2 x3) (hle2 : (m.join mn).le mb) => f23 mb p x1 x2 x3 k.at_ xs k.spans hq (hkm.spans.mono hle2) hs.1
      generalize pairsO p.cells k.at_ k.spans = po at hnil hcall
      obtain ⟨ps, rp⟩ := po
      simp only at hnil
      refine ⟨[], KeptNode.call (ws := []) ?_⟩
      refine keptRes [] 20000 [11003, 10007, 10011] [] (pairsU (ps, rp)) [(8, prow ps)] (fun A c m1 hd1 a1 a2 a3 a4 A2 c2 m2 hd2 b1 b2 b3 b4 A3 c3 m3 hd3 d1 d2 d3 d4 => ⟨[.agg (vmap (p.c ⟨A, g.length, c⟩ ⟨A2, p.records.length, c2⟩ ⟨A3, p.done.length, c3⟩)), .agg (vmap k.at_.c), asl xs], rfl, hcall _ ⟨A, g.length, c⟩ ⟨A2, p.records.length, c2⟩ ⟨A3, p.done.length, c3⟩ ⟨(hgm.row hd1 a1 a2 a3 a4).mono (Mem.le_trans (Mem.le_join _ _) (Mem.le_join _ _)), (orow_row hd2 b1 b2 b3 b4).mono (Mem.le_join _ _), orow_row hd3 d1 d2 d3 d4⟩ (Mem.le_trans (Mem.le_join _ _) (Mem.le_trans (Mem.le_join _ _) (Mem.le_join _ _)))⟩) rfl trivial rfl rfl ?_
      refine ⟨fun h3 => ?_, fun h3 => ?_⟩
      · have h3 : rp.err ≠ 0 := by simpa using h3
        rw [if_pos h3]
        refine draw Γok [(0, 6), (1, 8)] [2, 3] (.take 0 (.take 1 (.one 2 [8] (.one 3 [] .done)))) (by kernel_rfl) ?_
        exact ⟨[.freeze 11003, .freeze 10007, .freeze 10011], fun A c m1 hd1 a1 a2 a3 a4 A2 c2 m2 hd2 b1 b2 b3 b4 A3 c3 m3 hd3 d1 d2 d3 d4 => retFz (o := (p, rp)) Sl.nil rfl hd hgm (by show PairRow _ _ rp.pairs; rw [hnil]; exact pairNil _) hd1 a1 a2 a3 a4 hd2 b1 b2 b3 b4 hd3 d1 d2 d3 d4⟩
      · have h3 : ¬ rp.err ≠ 0 := by simpa using h3
        rw [if_neg h3]
        refine ⟨[], callS (f24 (m.join mn) p.floor k.at_) rfl rfl ?_⟩
        exact ⟨[.freeze 20008, .freeze 11003, .freeze 10007, .freeze 10011], fun A0 c0 m0 hd0 z1 z2 z3 z4 => fun A c m1 hd1 a1 a2 a3 a4 A2 c2 m2 hd2 b1 b2 b3 b4 A3 c3 m3 hd3 d1 d2 d3 d4 => retFz (o := ({ p with floor := p.floor.max k.at_ }, { Rep.zero with pairs := ps })) (mn := mn.join m0) ⟨A0, ps.length, c0⟩ (Mem.join_assoc m mn m0) (hd.join hd0) (hgm.mono (Mem.le_join _ _)) ((row_of rfl z1 z2 z3 z4 : PairRow m0 ⟨A0, ps.length, c0⟩ ps).mono (Mem.join_right hd0)) hd1 a1 a2 a3 a4 hd2 b1 b2 b3 b4 hd3 d1 d2 d3 d4⟩
  · -- prepare
    have h1 : ¬ k.kind = 2 := by simpa using h1
    have h2 : k.kind = 3 := by simpa using h2
    rw [if_neg h1, if_pos h2]
    obtain ⟨hr1, hr2, hr3⟩ := prepareR_rest p k
    refine ⟨[.freeze 11003, .freeze 10007, .freeze 10011], fun A c m1 hd1 a1 a2 a3 a4 A2 c2 m2 hd2 b1 b2 b3 b4 A3 c3 m3 hd3 d1 d2 d3 d4 => KeptNode.call (ws := []) ?_⟩
    have e1 : (m.join mn).join m1 = m.join (mn.join m1) := Mem.join_assoc _ _ _
    have e2 : ((m.join mn).join m1).join m2 = m.join ((mn.join m1).join m2) := by rw [e1, Mem.join_assoc]
    have e3 : (((m.join mn).join m1).join m2).join m3 = m.join (((mn.join m1).join m2).join m3) := by rw [e2, Mem.join_assoc]
    have j1 := hd.join hd1
    have j2 := j1.join (e1 ▸ hd2)
    have j3 := j2.join (e2 ▸ hd3)
    have hl4 : (m.join mn).le ((((m.join mn).join m1).join m2).join m3) := Mem.le_trans (Mem.le_join _ _) (Mem.le_trans (Mem.le_join _ _) (Mem.le_join _ _))
    have hrow : PartRow ((((m.join mn).join m1).join m2).join m3) p ⟨A, g.length, c⟩ ⟨A2, p.records.length, c2⟩ ⟨A3, p.done.length, c3⟩ := ⟨(hgm.row hd1 a1 a2 a3 a4).mono (Mem.le_trans (Mem.le_join _ _) (Mem.le_join _ _)), (orow_row hd2 b1 b2 b3 b4).mono (Mem.le_join _ _), orow_row hd3 d1 d2 d3 d4⟩
    have hcall := f25 _ p _ _ _ k xs xw hrow (hkm.mono hl4) hup.1 hs hroom
    generalize prepareR p k = o at hcall hr1 hr2 hr3
    refine callXK [] 30000 [] (B1 := []) (Φ := PrepOut ((((m.join mn).join m1).join m2).join m3) ⟨A2, p.records.length, c2⟩ ⟨A3, p.done.length, c3⟩ o) (Ψ := noPanic) rfl trivial ⟨[.agg (vmap (p.c ⟨A, g.length, c⟩ ⟨A2, p.records.length, c2⟩ ⟨A3, p.done.length, c3⟩)), .agg (vmap (k.c xs xw))], rfl, hcall⟩ (fun u0 B0 mn2 hd4 hΦ => ?_) (fun _ _ _ _ h => h.elim)
    obtain ⟨xc', hcr, rfl, rfl⟩ := hΦ
    refine ⟨rfl, rfl, ?_⟩
    have e4 : ((((m.join mn).join m1).join m2).join m3).join mn2 = m.join ((((mn.join m1).join m2).join m3).join mn2) := by rw [e3, Mem.join_assoc]
    have j4 := j3.join (e3 ▸ hd4)
    exact ⟨[], retXO (refU o xc' ⟨A2, p.records.length, c2⟩ ⟨A3, p.done.length, c3⟩ Sl.nil) [] _ rfl e4 j4 trivial ⟨xc', ⟨A2, p.records.length, c2⟩, ⟨A3, p.done.length, c3⟩, Sl.nil, ⟨by rw [← e4]; exact hcr, by rw [← e4, hr1]; exact hrow.records.mono (Mem.le_join _ _), by rw [← e4, hr2]; exact hrow.done.mono (Mem.le_join _ _)⟩, by rw [hr3]; exact pairNil _, rfl, rfl⟩⟩
  · -- decide
    have h1 : ¬ k.kind = 2 := by simpa using h1
    have h2 : ¬ k.kind = 3 := by simpa using h2
    have h3 : k.kind = 4 := by simpa using h3
    rw [if_neg h1, if_neg h2, if_pos h3]
    refine ⟨[], KeptNode.call (ws := []) (PureNode.kept ?_)⟩
    refine callSP [10007] (v := voutb (findR k.who p.records)) rfl (fun A c m1 hd1 e1 e2 e3 e4 => ⟨_, rfl, f17 _ ⟨A, p.records.length, c⟩ p.records k.who (orow_row hd1 e1 e2 e3 e4)⟩) rfl ?_
    refine ⟨fun h4 => ?_, fun h4 => ?_⟩
    · have h4 : (findR k.who p.records).2 = false := by simpa using h4
      have e : decideR p k = ({ p with records := p.records ++ [oc k] }, { Rep.zero with at_ := k.at_, yes := k.yes }) := by unfold decideR; rw [if_neg (by rw [h4]; simp)]
      rw [e]
      refine ⟨[], [], by show p.records.length + 1 ≤ maxLen; omega, by show (p.records.length + 1) * 56 ≤ 140737488355328; omega, fun old => ?_⟩
      refine draw Γok [(0, 6), (2, 9), (4, 9)] [6, 7] (.take 0 (.take 1 (.take 2 (.take 3 (.take 4 (.take 5 (.one 6 [9] (.one 7 [] .done)))))))) (by kernel_rfl) ?_
      exact ⟨[.cut, .freeze 11003, .freeze 10007, .freeze 10011], cutR [] (F' := [(4, .one (.ptr 4 0)), (5, .one (.ptr 5 0))]) (B' := [(4, .box ((({ p with records := p.records ++ [oc k] }, { Rep.zero with at_ := k.at_, yes := k.yes }) : Part × Rep).1.lv (.own 11003) (.own 10007) (.own 10011)) 31), (5, .box (vmap ((({ p with records := p.records ++ [oc k] }, { Rep.zero with at_ := k.at_, yes := k.yes }) : Part × Rep).2.c Sl.nil)) 43), (11003, crow g), (10007, orow (({ p with records := p.records ++ [oc k] }, { Rep.zero with at_ := k.at_, yes := k.yes }) : Part × Rep).1.records), (10011, orow (({ p with records := p.records ++ [oc k] }, { Rep.zero with at_ := k.at_, yes := k.yes }) : Part × Rep).1.done)]) ⟨rfl, rfl, trivial⟩ ⟨rfl, rfl, rfl, congrArg some (orow_snoc p.records (oc k)), rfl, trivial⟩ rfl rfl (fun A c m1 hd1 a1 a2 a3 a4 A2 c2 m2 hd2 b1 b2 b3 b4 A3 c3 m3 hd3 d1 d2 d3 d4 => retFz (o := ({ p with records := p.records ++ [oc k] }, { Rep.zero with at_ := k.at_, yes := k.yes })) Sl.nil rfl hd hgm (pairNil _) hd1 a1 a2 a3 a4 hd2 b1 b2 b3 b4 hd3 d1 d2 d3 d4)⟩
    · have h4 : (findR k.who p.records).2 = true := by simpa using h4
      have e : decideR p k = (p, { Rep.zero with at_ := (findR k.who p.records).1.at_, yes := (findR k.who p.records).1.yes }) := by unfold decideR; rw [if_pos h4]
      rw [e]
      refine draw Γok [(0, 6), (2, 9), (4, 9)] [6, 7] (.take 0 (.take 1 (.take 2 (.take 3 (.take 4 (.take 5 (.one 6 [9] (.one 7 [] .done)))))))) (by kernel_rfl) ?_
      exact ⟨[.cut, .freeze 11003, .freeze 10007, .freeze 10011], cutR [] (F' := [(4, .one (.ptr 4 0)), (5, .one (.ptr 5 0))]) (B' := [(4, .box (((p, { Rep.zero with at_ := (findR k.who p.records).1.at_, yes := (findR k.who p.records).1.yes }) : Part × Rep).1.lv (.own 11003) (.own 10007) (.own 10011)) 31), (5, .box (vmap (((p, { Rep.zero with at_ := (findR k.who p.records).1.at_, yes := (findR k.who p.records).1.yes }) : Part × Rep).2.c Sl.nil)) 43), (11003, crow g), (10007, orow ((p, { Rep.zero with at_ := (findR k.who p.records).1.at_, yes := (findR k.who p.records).1.yes }) : Part × Rep).1.records), (10011, orow ((p, { Rep.zero with at_ := (findR k.who p.records).1.at_, yes := (findR k.who p.records).1.yes }) : Part × Rep).1.done)]) ⟨rfl, rfl, trivial⟩ ⟨rfl, rfl, rfl, rfl, rfl, trivial⟩ rfl rfl (fun A c m1 hd1 a1 a2 a3 a4 A2 c2 m2 hd2 b1 b2 b3 b4 A3 c3 m3 hd3 d1 d2 d3 d4 => retFz (o := (p, { Rep.zero with at_ := (findR k.who p.records).1.at_, yes := (findR k.who p.records).1.yes })) Sl.nil rfl hd hgm (pairNil _) hd1 a1 a2 a3 a4 hd2 b1 b2 b3 b4 hd3 d1 d2 d3 d4)⟩
  · -- settle
    have h1 : ¬ k.kind = 2 := by simpa using h1
    have h2 : ¬ k.kind = 3 := by simpa using h2
    have h3 : ¬ k.kind = 4 := by simpa using h3
    have h4 : k.kind = 5 := by simpa using h4
    rw [if_neg h1, if_neg h2, if_neg h3, if_pos h4]
    refine ⟨[], KeptNode.call (ws := []) ?_⟩
    refine keptNC 20000 [11003] (k := 7) (l := p.cells.filterMap (settleC k.who k.yes)) (fun A c m1 hd1 e1 e2 e3 e4 => ⟨[asl ⟨A, g.length, c⟩, .agg (vmap k.who.c), .one (.v (.bool k.yes))], rfl, f26 _ ⟨A, g.length, c⟩ _ k.who k.yes (hgm.row hd1 e1 e2 e3 e4) hs.1 hup.2⟩) rfl (fun g2 mn2 hd2 hg2 => ?_)
    have hgm2 : GOk g2 (p.cells.filterMap (settleC k.who k.yes)) ((m.join mn).join mn2) := hg2.mono (Mem.join_right hd2)
    have hdj := hd.join hd2
    refine ⟨[], KeptNode.call (ws := []) (PureNode.kept ?_)⟩
    refine callSP [10011] (v := voutb (findR k.who p.done)) rfl (fun A c m1 hd1 e1 e2 e3 e4 => ⟨_, rfl, f17 _ ⟨A, p.done.length, c⟩ p.done k.who (orow_row hd1 e1 e2 e3 e4)⟩) rfl ?_
    refine ⟨fun h5 => ?_, fun h5 => ?_⟩
    · have h5 : (findR k.who p.done).2 = false := by simpa using h5
      have e : settlePR p k = ({ p with cells := p.cells.filterMap (settleC k.who k.yes), done := p.done ++ [oc k] }, Rep.zero) := by unfold settlePR; rw [if_neg (by rw [h5]; simp)]
      rw [e]
      refine ⟨[], [], by show p.done.length + 1 ≤ maxLen; omega, by show (p.done.length + 1) * 56 ≤ 140737488355328; omega, fun old => ?_⟩
      exact ⟨[.cut, .freeze 20007, .freeze 10007, .freeze 10011], cutR [] (F' := [(4, .one (.ptr 4 0)), (5, .one (.ptr 5 0))]) (B' := [(4, .box ((({ p with cells := p.cells.filterMap (settleC k.who k.yes), done := p.done ++ [oc k] }, Rep.zero) : Part × Rep).1.lv (.own 20007) (.own 10007) (.own 10011)) 31), (5, .box (vmap ((({ p with cells := p.cells.filterMap (settleC k.who k.yes), done := p.done ++ [oc k] }, Rep.zero) : Part × Rep).2.c Sl.nil)) 43), (20007, crow g2), (10007, orow (({ p with cells := p.cells.filterMap (settleC k.who k.yes), done := p.done ++ [oc k] }, Rep.zero) : Part × Rep).1.records), (10011, orow (({ p with cells := p.cells.filterMap (settleC k.who k.yes), done := p.done ++ [oc k] }, Rep.zero) : Part × Rep).1.done)]) ⟨rfl, rfl, trivial⟩ ⟨rfl, rfl, rfl, rfl, congrArg some (orow_snoc p.done (oc k)), trivial⟩ rfl rfl (fun A c m1 hd1 a1 a2 a3 a4 A2 c2 m2 hd2 b1 b2 b3 b4 A3 c3 m3 hd3 d1 d2 d3 d4 => retFz (o := ({ p with cells := p.cells.filterMap (settleC k.who k.yes), done := p.done ++ [oc k] }, Rep.zero)) Sl.nil (Mem.join_assoc m mn mn2) hdj hgm2 (pairNil _) hd1 a1 a2 a3 a4 hd2 b1 b2 b3 b4 hd3 d1 d2 d3 d4)⟩
    · have h5 : (findR k.who p.done).2 = true := by simpa using h5
      have e : settlePR p k = ({ p with cells := p.cells.filterMap (settleC k.who k.yes) }, Rep.zero) := by unfold settlePR; rw [if_pos h5]
      rw [e]
      exact ⟨[.cut, .freeze 20007, .freeze 10007, .freeze 10011], cutR [] (F' := [(4, .one (.ptr 4 0)), (5, .one (.ptr 5 0))]) (B' := [(4, .box ((({ p with cells := p.cells.filterMap (settleC k.who k.yes) }, Rep.zero) : Part × Rep).1.lv (.own 20007) (.own 10007) (.own 10011)) 31), (5, .box (vmap ((({ p with cells := p.cells.filterMap (settleC k.who k.yes) }, Rep.zero) : Part × Rep).2.c Sl.nil)) 43), (20007, crow g2), (10007, orow (({ p with cells := p.cells.filterMap (settleC k.who k.yes) }, Rep.zero) : Part × Rep).1.records), (10011, orow (({ p with cells := p.cells.filterMap (settleC k.who k.yes) }, Rep.zero) : Part × Rep).1.done)]) ⟨rfl, rfl, trivial⟩ ⟨rfl, rfl, rfl, rfl, rfl, trivial⟩ rfl rfl (fun A c m1 hd1 a1 a2 a3 a4 A2 c2 m2 hd2 b1 b2 b3 b4 A3 c3 m3 hd3 d1 d2 d3 d4 => retFz (o := ({ p with cells := p.cells.filterMap (settleC k.who k.yes) }, Rep.zero)) Sl.nil (Mem.join_assoc m mn mn2) hdj hgm2 (pairNil _) hd1 a1 a2 a3 a4 hd2 b1 b2 b3 b4 hd3 d1 d2 d3 d4)⟩
  · -- close
    have h1 : ¬ k.kind = 2 := by simpa using h1
    have h2 : ¬ k.kind = 3 := by simpa using h2
    have h3 : ¬ k.kind = 4 := by simpa using h3
    have h4 : ¬ k.kind = 5 := by simpa using h4
    have h5 : k.kind = 6 := by simpa using h5
    rw [if_neg h1, if_neg h2, if_neg h3, if_neg h4, if_pos h5]
    unfold closeR
    rw [← min_if, ← max_if]
    refine draw Γok [(0, 6), (2, 6)] [4, 5] (.take 0 (.take 1 (.take 2 (.take 3 (.one 4 [6] (.one 5 [] .done)))))) (by kernel_rfl) ?_
    exact ⟨[.cut, .freeze 11003, .freeze 10007, .freeze 10011], cutR [] (F' := [(4, .one (.ptr 4 0)), (5, .one (.ptr 5 0))]) (B' := [(4, .box ((({ p with closed := (if (if (4611686018427387904 : Int) < k.wall then 4611686018427387904 else k.wall) > p.closed then (if (4611686018427387904 : Int) < k.wall then 4611686018427387904 else k.wall) else p.closed) }, { Rep.zero with wall := (if (if (4611686018427387904 : Int) < k.wall then 4611686018427387904 else k.wall) > p.closed then (if (4611686018427387904 : Int) < k.wall then 4611686018427387904 else k.wall) else p.closed) }) : Part × Rep).1.lv (.own 11003) (.own 10007) (.own 10011)) 31), (5, .box (vmap ((({ p with closed := (if (if (4611686018427387904 : Int) < k.wall then 4611686018427387904 else k.wall) > p.closed then (if (4611686018427387904 : Int) < k.wall then 4611686018427387904 else k.wall) else p.closed) }, { Rep.zero with wall := (if (if (4611686018427387904 : Int) < k.wall then 4611686018427387904 else k.wall) > p.closed then (if (4611686018427387904 : Int) < k.wall then 4611686018427387904 else k.wall) else p.closed) }) : Part × Rep).2.c Sl.nil)) 43), (11003, crow g), (10007, orow (({ p with closed := (if (if (4611686018427387904 : Int) < k.wall then 4611686018427387904 else k.wall) > p.closed then (if (4611686018427387904 : Int) < k.wall then 4611686018427387904 else k.wall) else p.closed) }, { Rep.zero with wall := (if (if (4611686018427387904 : Int) < k.wall then 4611686018427387904 else k.wall) > p.closed then (if (4611686018427387904 : Int) < k.wall then 4611686018427387904 else k.wall) else p.closed) }) : Part × Rep).1.records), (10011, orow (({ p with closed := (if (if (4611686018427387904 : Int) < k.wall then 4611686018427387904 else k.wall) > p.closed then (if (4611686018427387904 : Int) < k.wall then 4611686018427387904 else k.wall) else p.closed) }, { Rep.zero with wall := (if (if (4611686018427387904 : Int) < k.wall then 4611686018427387904 else k.wall) > p.closed then (if (4611686018427387904 : Int) < k.wall then 4611686018427387904 else k.wall) else p.closed) }) : Part × Rep).1.done)]) ⟨rfl, rfl, trivial⟩ ⟨rfl, rfl, rfl, rfl, rfl, trivial⟩ rfl rfl (fun A c m1 hd1 a1 a2 a3 a4 A2 c2 m2 hd2 b1 b2 b3 b4 A3 c3 m3 hd3 d1 d2 d3 d4 => retFz (o := ({ p with closed := (if (if (4611686018427387904 : Int) < k.wall then 4611686018427387904 else k.wall) > p.closed then (if (4611686018427387904 : Int) < k.wall then 4611686018427387904 else k.wall) else p.closed) }, { Rep.zero with wall := (if (if (4611686018427387904 : Int) < k.wall then 4611686018427387904 else k.wall) > p.closed then (if (4611686018427387904 : Int) < k.wall then 4611686018427387904 else k.wall) else p.closed) })) Sl.nil rfl hd hgm (pairNil _) hd1 a1 a2 a3 a4 hd2 b1 b2 b3 b4 hd3 d1 d2 d3 d4)⟩
  · -- trim
    have h1 : ¬ k.kind = 2 := by simpa using h1
    have h2 : ¬ k.kind = 3 := by simpa using h2
    have h3 : ¬ k.kind = 4 := by simpa using h3
    have h4 : ¬ k.kind = 5 := by simpa using h4
    have h5 : ¬ k.kind = 6 := by simpa using h5
    have h6 : k.kind = 7 := by simpa using h6
    rw [if_neg h1, if_neg h2, if_neg h3, if_neg h4, if_neg h5, if_pos h6]
    unfold trimPR
    rw [← min_if, ← max_if]
    refine ⟨[], KeptNode.call (ws := []) ?_⟩
    refine keptNC 20000 [11003] (k := 5) (l := p.cells.filterMap (trimC ⟨(if (if p.closed < k.wall then p.closed else k.wall) > p.low then (if p.closed < k.wall then p.closed else k.wall) else p.low), 0⟩)) (fun A c m1 hd1 e1 e2 e3 e4 => ⟨[asl ⟨A, g.length, c⟩, .agg (vmap (Stamp.c ⟨(if (if p.closed < k.wall then p.closed else k.wall) > p.low then (if p.closed < k.wall then p.closed else k.wall) else p.low), 0⟩))], rfl, f27 _ ⟨A, g.length, c⟩ _ ⟨(if (if p.closed < k.wall then p.closed else k.wall) > p.low then (if p.closed < k.wall then p.closed else k.wall) else p.low), 0⟩ (hgm.row hd1 e1 e2 e3 e4) hs.1 hup.2⟩) rfl (fun g2 mn2 hd2 hg2 => ?_)
    have hgm2 : GOk g2 (p.cells.filterMap (trimC ⟨(if (if p.closed < k.wall then p.closed else k.wall) > p.low then (if p.closed < k.wall then p.closed else k.wall) else p.low), 0⟩)) ((m.join mn).join mn2) := hg2.mono (Mem.join_right hd2)
    have hdj := hd.join hd2
    refine draw Γok [(0, 6), (2, 6)] [4, 5] (.take 0 (.take 1 (.take 2 (.take 3 (.one 4 [6] (.one 5 [] .done)))))) (by kernel_rfl) ?_
    exact ⟨[.cut, .freeze 20005, .freeze 10007, .freeze 10011], cutR [] (F' := [(4, .one (.ptr 4 0)), (5, .one (.ptr 5 0))]) (B' := [(4, .box ((({ p with low := (if (if p.closed < k.wall then p.closed else k.wall) > p.low then (if p.closed < k.wall then p.closed else k.wall) else p.low), cells := p.cells.filterMap (trimC ⟨(if (if p.closed < k.wall then p.closed else k.wall) > p.low then (if p.closed < k.wall then p.closed else k.wall) else p.low), 0⟩) }, { Rep.zero with wall := (if (if p.closed < k.wall then p.closed else k.wall) > p.low then (if p.closed < k.wall then p.closed else k.wall) else p.low) }) : Part × Rep).1.lv (.own 20005) (.own 10007) (.own 10011)) 31), (5, .box (vmap ((({ p with low := (if (if p.closed < k.wall then p.closed else k.wall) > p.low then (if p.closed < k.wall then p.closed else k.wall) else p.low), cells := p.cells.filterMap (trimC ⟨(if (if p.closed < k.wall then p.closed else k.wall) > p.low then (if p.closed < k.wall then p.closed else k.wall) else p.low), 0⟩) }, { Rep.zero with wall := (if (if p.closed < k.wall then p.closed else k.wall) > p.low then (if p.closed < k.wall then p.closed else k.wall) else p.low) }) : Part × Rep).2.c Sl.nil)) 43), (20005, crow g2), (10007, orow (({ p with low := (if (if p.closed < k.wall then p.closed else k.wall) > p.low then (if p.closed < k.wall then p.closed else k.wall) else p.low), cells := p.cells.filterMap (trimC ⟨(if (if p.closed < k.wall then p.closed else k.wall) > p.low then (if p.closed < k.wall then p.closed else k.wall) else p.low), 0⟩) }, { Rep.zero with wall := (if (if p.closed < k.wall then p.closed else k.wall) > p.low then (if p.closed < k.wall then p.closed else k.wall) else p.low) }) : Part × Rep).1.records), (10011, orow (({ p with low := (if (if p.closed < k.wall then p.closed else k.wall) > p.low then (if p.closed < k.wall then p.closed else k.wall) else p.low), cells := p.cells.filterMap (trimC ⟨(if (if p.closed < k.wall then p.closed else k.wall) > p.low then (if p.closed < k.wall then p.closed else k.wall) else p.low), 0⟩) }, { Rep.zero with wall := (if (if p.closed < k.wall then p.closed else k.wall) > p.low then (if p.closed < k.wall then p.closed else k.wall) else p.low) }) : Part × Rep).1.done)]) ⟨rfl, rfl, trivial⟩ ⟨rfl, rfl, rfl, rfl, rfl, trivial⟩ rfl rfl (fun A c m1 hd1 a1 a2 a3 a4 A2 c2 m2 hd2 b1 b2 b3 b4 A3 c3 m3 hd3 d1 d2 d3 d4 => retFz (o := ({ p with low := (if (if p.closed < k.wall then p.closed else k.wall) > p.low then (if p.closed < k.wall then p.closed else k.wall) else p.low), cells := p.cells.filterMap (trimC ⟨(if (if p.closed < k.wall then p.closed else k.wall) > p.low then (if p.closed < k.wall then p.closed else k.wall) else p.low), 0⟩) }, { Rep.zero with wall := (if (if p.closed < k.wall then p.closed else k.wall) > p.low then (if p.closed < k.wall then p.closed else k.wall) else p.low) })) Sl.nil (Mem.join_assoc m mn mn2) hdj hgm2 (pairNil _) hd1 a1 a2 a3 a4 hd2 b1 b2 b3 b4 hd3 d1 d2 d3 d4)⟩
  · -- none of these
    have h1 : ¬ k.kind = 2 := by simpa using h1
    have h2 : ¬ k.kind = 3 := by simpa using h2
    have h3 : ¬ k.kind = 4 := by simpa using h3
    have h4 : ¬ k.kind = 5 := by simpa using h4
    have h5 : ¬ k.kind = 6 := by simpa using h5
    have h6 : ¬ k.kind = 7 := by simpa using h6
    rw [if_neg h1, if_neg h2, if_neg h3, if_neg h4, if_neg h5, if_neg h6]
    exact ⟨[.cut, .freeze 11003, .freeze 10007, .freeze 10011], cutR [] (F' := [(4, .one (.ptr 4 0)), (5, .one (.ptr 5 0))]) (B' := [(4, .box (((p, { Rep.zero with err := 9 }) : Part × Rep).1.lv (.own 11003) (.own 10007) (.own 10011)) 31), (5, .box (vmap (((p, { Rep.zero with err := 9 }) : Part × Rep).2.c Sl.nil)) 43), (11003, crow g), (10007, orow ((p, { Rep.zero with err := 9 }) : Part × Rep).1.records), (10011, orow ((p, { Rep.zero with err := 9 }) : Part × Rep).1.done)]) ⟨rfl, rfl, trivial⟩ ⟨rfl, rfl, rfl, rfl, rfl, trivial⟩ rfl rfl (fun A c m1 hd1 a1 a2 a3 a4 A2 c2 m2 hd2 b1 b2 b3 b4 A3 c3 m3 hd3 d1 d2 d3 d4 => retFz (o := (p, { Rep.zero with err := 9 })) Sl.nil rfl hd hgm (pairNil _) hd1 a1 a2 a3 a4 hd2 b1 b2 b3 b4 hd3 d1 d2 d3 d4)⟩
end Vc
end
