/- HeapNone, walked. Condition: the table of math/bits holds what its initialiser lays. -/
import Derived.Test.YtnkdopaajpbjfaaDoorHeapE
set_option linter.unusedVariables false
set_option linter.unusedSimpArgs false
namespace Go.Proofs.YtnkdopaajpbjfaaDoor
open Go Go.RowKit

/-- An arena of one page of words 0: no heap. -/
def noneS : Slb := ((Slb.empty 64).grant 1).2.2
theorem none_audit : noneS.audit = 8 := by decide +kernel
theorem none_grant : ((Slb.empty 64).grant 1).1 = 0 ∧ ((Slb.empty 64).grant 1).2.1 = 0 := by decide +kernel


set_option maxRecDepth 100000 in
set_option maxHeartbeats 2000000 in
theorem heapNone_walk (a0 : Int) (w : World) (_w0 : (Lit.int .i64 a0).wf = true) (hT : Tab64 w) :
    Calls Tryd.prog 9 #[.int .i64 a0] w fun e w' => e = .returned (.bool true) ∧ Below w.heap.size w w' := by
  have HT := Lib.hid hT
  have hcell : (w.alloc (.cells #[.pointer none] 69)).cell? ⟨w.heap.size, 0, none⟩ = some (.pointer none) := by rw [cell_at (heap_alloc_new w _)]; rfl
  obtain ⟨W0, hW0⟩ : ∃ x, w.alloc (.cells #[.pointer none] 69) = x := ⟨_, rfl⟩
  have hb0 : Below w.heap.size w W0 := by rw [← hW0]; exact (Below.refl _ w).alloc (Nat.le_refl _) _
  rw [hW0] at hcell
  have HB0 := Lib.hid hb0
  have HC := Lib.hid hcell
  obtain ⟨o, ho⟩ : ∃ o, w.heap.size = o := ⟨_, rfl⟩
  clear hb0 hT hcell
  go_enter Tryd.func9, Tryd.ntmps9
  go_wp2_with fail
  try rw [hW0]
  try rw [ho]
  clear hW0
  go_loopw [3, 5] (fun t i wr => ∃ j : Nat, i = .int .i64 j ∧ Mod No W0 wr ∧ (j ≤ 1 ∧ t = .pointer none ∨ j = 2 ∧ t = .pointer (some ⟨o, 0, none⟩))) (fun _ i _ => 2 - (RowKit.intOf i).toNat)
  case atStart => exact ⟨0, rfl, Mod.refl _ _, .inl ⟨by omega, rfl⟩⟩
  case round =>
    obtain ⟨j, rfl, hm, hj⟩ := hrel
    have HN0 : Hid (∀ w', Mod No W0 w' → Calls Tryd.prog 35 #[.pointer none] w' fun e w1 => e = .returned (.bool true) ∧ w' = w1) := fun w' _ => hnone_nil w'
    have HN1 : Hid (∀ w', Mod No W0 w' → Calls Tryd.prog 35 #[.pointer (some ⟨o, 0, none⟩)] w' fun e w1 => e = .returned (.bool true) ∧ w' = w1) := fun w' h => hnone_zero o w' (h.cell (by rw [← ho]; have := HC.out; rw [ho] at this ⊢; exact this) (fun x => x))
    clear HC
    rcases hj with ⟨hj, rfl⟩ | ⟨rfl, rfl⟩
    · have h01 : j = 0 ∨ j = 1 := by omega
      rcases h01 with rfl | rfl
      ·
        have c1 := zhAlloc a0 (HN0.out _ hm)
        have c2 := zhRoom a0 (HN0.out _ hm)
        have c3 := zhSlide a0 (HN0.out _ hm)
        have c4 := zhFree a0 (HN0.out _ hm)
        have c5 := zhAudit none (fun w' h => HN0.out w' (hm.trans' h))
        go_wp2_with (first | ((with_reducible refine c1.mono ?_); rintro e w' ⟨rfl, rfl⟩) | ((with_reducible refine c2.mono ?_); rintro e w' ⟨rfl, rfl⟩) | ((with_reducible refine c3.mono ?_); rintro e w' ⟨rfl, rfl⟩) | ((with_reducible refine c4.mono ?_); rintro e w' ⟨rfl, rfl⟩))
        refine c5.mono ?_
        rintro e w1 ⟨rfl, hb⟩
        have hm1 := hm.trans' (Mod.of_below hb No)
        have c6 := zhLive (HN0.out _ hm1)
        have c7 := zhSpare 0 (fun w' h => HN0.out w' (hm1.trans' h))
        have HM1 := Lib.hid hm1
        clear c1 c2 c3 c4 c5 hb hm1 hm
        go_wp2_with fail
        refine c6.mono ?_
        rintro e w' ⟨rfl, rfl⟩
        clear c6
        go_wp2_with fail
        refine c7.mono ?_
        rintro e w2 ⟨rfl, hm2⟩
        have HM2 := Lib.hid (HM1.out.trans' hm2)
        clear c7 hm2
        go_wp2
        go_roundw
        case rel => exact ⟨1, rfl, HM2.out, .inl ⟨by omega, rfl⟩⟩
        case measure => simp [RowKit.intOf]
      ·
        have c1 := zhAlloc a0 (HN1.out _ hm)
        have c2 := zhRoom a0 (HN1.out _ hm)
        have c3 := zhSlide a0 (HN1.out _ hm)
        have c4 := zhFree a0 (HN1.out _ hm)
        have c5 := zhAudit (some ⟨o, 0, none⟩) (fun w' h => HN1.out w' (hm.trans' h))
        go_wp2_with (first | ((with_reducible refine c1.mono ?_); rintro e w' ⟨rfl, rfl⟩) | ((with_reducible refine c2.mono ?_); rintro e w' ⟨rfl, rfl⟩) | ((with_reducible refine c3.mono ?_); rintro e w' ⟨rfl, rfl⟩) | ((with_reducible refine c4.mono ?_); rintro e w' ⟨rfl, rfl⟩))
        refine c5.mono ?_
        rintro e w1 ⟨rfl, hb⟩
        have hm1 := hm.trans' (Mod.of_below hb No)
        have c6 := zhLive (HN1.out _ hm1)
        have c7 := zhSpare 0 (fun w' h => HN1.out w' (hm1.trans' h))
        have HM1 := Lib.hid hm1
        clear c1 c2 c3 c4 c5 hb hm1 hm
        go_wp2_with fail
        refine c6.mono ?_
        rintro e w' ⟨rfl, rfl⟩
        clear c6
        go_wp2_with fail
        refine c7.mono ?_
        rintro e w2 ⟨rfl, hm2⟩
        have HM2 := Lib.hid (HM1.out.trans' hm2)
        clear c7 hm2
        go_wp2
        go_roundw
        case rel => exact ⟨2, rfl, HM2.out, .inr ⟨rfl, rfl⟩⟩
        case measure => simp [RowKit.intOf]
    · have HM := Lib.hid hm
      clear hm
      go_wp2_with fail
      refine ((Sep.nil wr).sNew 64 (by omega) (by omega)).mono ?_
      rintro e w1 ⟨rfl, h1⟩
      have hg := h1.sGrant 0 rfl 1 (f := 0) (er := 0) (S' := noneS) (Prod.ext none_grant.1 (Prod.ext none_grant.2 rfl))
      clear h1
      go_wp2_with fail
      refine hg.mono ?_
      rintro e w2 ⟨rfl, h2⟩
      have hz := hnew_nil w2
      have hb := Sep.hNew_bad h2 0 rfl none_audit
      have H2 := Lib.hid h2
      clear hg h2
      go_wp2_with fail
      refine hz.mono ?_
      rintro e w' ⟨rfl, rfl⟩
      clear hz
      go_wp2_with fail
      refine hb.mono ?_
      rintro e w3 ⟨rfl, h3⟩
      have ha := awake_call w3 (HT.out.mod ((Mod.of_below HB0.out No).trans' (HM.out.trans' h3.mod)))
      have H3 := Lib.hid (HM.out.trans' h3.mod)
      clear hb h3 H2
      go_wp2_with fail
      refine ha.mono ?_
      rintro e w4 ⟨rfl, hm4⟩
      have H4 := Lib.hid (HB0.out.trans ((H3.out.trans' hm4).below _ HB0.out.size (fun _ _ x => x)))
      clear ha hm4
      go_wp2
      go_ret
      exact ⟨rfl, H4.out⟩
end Go.Proofs.YtnkdopaajpbjfaaDoor
