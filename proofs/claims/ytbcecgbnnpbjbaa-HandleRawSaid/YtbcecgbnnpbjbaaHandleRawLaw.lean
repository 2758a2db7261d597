/- HandleRaw: for every input the law answers true, and what came in reads as before. The given statement Rows.HandleRawSaid, out of the walk in HandleRawWalk. No condition. -/
import Derived.Test.YtbcecgbnnpbjbaaRows
import Derived.Test.YtbcecgbnnpbjbaaHandleRawWalk
import Derived.Test.YtbcecgbnnpbjbaaArgs
namespace Go.Proofs.Ytbcecgbnnpbjbaa.handleRaw
open Go.ChangeShapes Go.WideShapes Go.ChangeAt Go.RowKit
set_option linter.unusedVariables false

theorem own : ownKnob Try.prog.godebug = none := by kernel_rfl
theorem laidOut : laidOutB Try.prog = true := by kernel_rfl

set_option maxRecDepth 100000 in
theorem lifted (os : Os) (started : os.Started) (H : Type) (enc : TypeId × Value → H) :
    ReturnsInHanded {} Try.checked os 10 .any (Rows.handleRawSpec.pre6 enc Try.prog Try.f10 Rows.handleRawRow.domain false) (Rows.handleRawSpec.post enc Try.prog Try.f10 false true false false) := by
  refine returnsInHanded_of_change (C := Try.checked) own started (by kernel_rfl) Try.func10
    (ChangeSpec.witness6 (enc := enc) (C := Try.checked) false ⟨#[], #[.int .i64 0, .int .u32 0, .slice none 0 0, .slice none 0 0, .slice none 0 0], []⟩ 8 (by kernel_rfl) (by kernel_rfl) (by kernel_rfl) (by kernel_rfl)) ?_
  intro W base args ds gs before hval0 hW hcnd _
  have hval : ∀ (j : Nat) t v, Try.f10.params[j]? = some t → args[j]? = some v → Value.okWide Try.prog W .any base t v := hval0
  have hW' := hW
  obtain ⟨p, q, hA0, hV, rfl, hfz, hnd⟩ := hW
  have hA : DataW.TrodAll enc Try.prog W 0 (fun _ => true) true Try.f10.params.toList args.toList ds p := hA0
  rw [Try.params10] at hA hval
  obtain ⟨v0, vs0, d0, ds0, p0, q0, hargs, rfl, rfl, h0, r0⟩ := trodAll_cons hA
  obtain ⟨v1, vs1, d1, ds1, p1, q1, rfl, rfl, rfl, h1, r1⟩ := trodAll_cons r0
  obtain ⟨v2, vs2, d2, ds2, p2, q2, rfl, rfl, rfl, h2, r2⟩ := trodAll_cons r1
  obtain ⟨v3, vs3, d3, ds3, p3, q3, rfl, rfl, rfl, h3, r3⟩ := trodAll_cons r2
  obtain ⟨v4, vs4, d4, ds4, p4, q4, rfl, rfl, rfl, h4, r4⟩ := trodAll_cons r3
  obtain ⟨rfl, rfl, rfl⟩ := trodAll_nil r4
  obtain rfl : args = #[v0, v1, v2, v3, v4] := by cases args; simp_all
  obtain ⟨rfl, rfl⟩ := trodVars_none hV
  obtain ⟨a0, rfl, rfl, rfl, w0⟩ := open_int Try.underlying3 (hval 0 3 v0 rfl rfl) h0
  obtain ⟨a1, rfl, rfl, rfl, w1⟩ := open_int Try.underlying28 (hval 1 28 v1 rfl rfl) h1
  obtain ⟨s2, len2, cap2, rfl⟩ := okWide_slice Try.underlying37 (hval 2 37 v2 rfl rfl)
  have k2 := h2
  have lt2 : ∀ x ∈ p2, x.block < W.heap.size := by obtain ⟨m, hm⟩ := k2; exact DataW.trod_lt m _ _ _ hm
  obtain ⟨z2, w2⟩ := open_recs (ks := [some .i64, some .i64, some .i64, some .u64]) Try.underlying37 Try.underlying39 (by kernel_rfl) (by kernel_rfl) rfl (by decide) (by intro j f k hf hk; match j, hf, hk with | 0, hf, hk => (simp at hf hk; subst hf hk; exact Try.underlying3) | 1, hf, hk => (simp at hf hk; subst hf hk; exact Try.underlying3) | 2, hf, hk => (simp at hf hk; subst hf hk; exact Try.underlying3) | 3, hf, hk => (simp at hf hk; subst hf hk; exact Try.underlying31) | j + 4, hf, hk => simp at hk) h2
  obtain ⟨s3, len3, cap3, rfl⟩ := okWide_slice Try.underlying37 (hval 3 37 v3 rfl rfl)
  have k3 := h3
  have lt3 : ∀ x ∈ p3, x.block < W.heap.size := by obtain ⟨m, hm⟩ := k3; exact DataW.trod_lt m _ _ _ hm
  obtain ⟨z3, w3⟩ := open_recs (ks := [some .i64, some .i64, some .i64, some .u64]) Try.underlying37 Try.underlying39 (by kernel_rfl) (by kernel_rfl) rfl (by decide) (by intro j f k hf hk; match j, hf, hk with | 0, hf, hk => (simp at hf hk; subst hf hk; exact Try.underlying3) | 1, hf, hk => (simp at hf hk; subst hf hk; exact Try.underlying3) | 2, hf, hk => (simp at hf hk; subst hf hk; exact Try.underlying3) | 3, hf, hk => (simp at hf hk; subst hf hk; exact Try.underlying31) | j + 4, hf, hk => simp at hk) h3
  obtain ⟨s4, len4, cap4, rfl⟩ := okWide_slice Try.underlying65 (hval 4 65 v4 rfl rfl)
  have k4 := h4
  have lt4 : ∀ x ∈ p4, x.block < W.heap.size := by obtain ⟨m, hm⟩ := k4; exact DataW.trod_lt m _ _ _ hm
  obtain ⟨z4, w4⟩ := open_recs (ks := [none, some .u32, some .i64]) Try.underlying65 Try.underlying69 (by kernel_rfl) (by kernel_rfl) rfl (by decide) (by intro j f k hf hk; match j, hf, hk with | 0, hf, hk => (simp at hf hk; subst hf hk; exact Try.underlying4) | 1, hf, hk => (simp at hf hk; subst hf hk; exact Try.underlying28) | 2, hf, hk => (simp at hf hk; subst hf hk; exact Try.underlying3) | j + 3, hf, hk => simp at hk) h4
  clear hA0 hval0
  refine (handleRaw_walk a0 a1 s2 len2 cap2 z2 s3 len3 cap3 z3 s4 len4 cap4 z4 W w0 w1 w2 w3 w4).mono fun e W' ⟨he, bel⟩ => ?_
  subst he
  exact ⟨_, rfl, _, _, _, [], _, [], hW', trodAll_mk1 (shut_bool Try.underlying4 _), (trodAll_cons_mk (shut_int Try.underlying3 w0) (trodAll_cons_mk (shut_int Try.underlying28 w1) (trodAll_cons_mk (Below.trod laidOut (by kernel_rfl) (of_decide_eq_true (by kernel_rfl)) k2 bel lt2) (trodAll_cons_mk (Below.trod laidOut (by kernel_rfl) (of_decide_eq_true (by kernel_rfl)) k3 bel lt3) (trodAll_cons_mk (Below.trod laidOut (by kernel_rfl) (of_decide_eq_true (by kernel_rfl)) k4 bel lt4) trodAll_mk0))))), rfl, bel.frame _, fun h => by cases h⟩

theorem over : Rows.handleRawRow.holds Try.pinned (OpenSpec.ofChange Rows.handleRawSpec) :=
  OpenClaim.holds_of_wide 10 Try.f10 rfl rfl rfl rfl rfl rfl rfl ⟨rfl, rfl, rfl, rfl, rfl⟩ rfl rfl rfl rfl rfl (by kernel_rfl) Try.func10 (by kernel_rfl)
    (of_decide_eq_true (by kernel_rfl)) (by unfold Func.isWrapper; first | (rw [if_pos (by decide +kernel)]; kernel_rfl) | (rw [if_neg (by decide +kernel)]; exact ⟨rfl, rfl⟩))
    (fun os started H enc _ => lifted os started H enc)

/-- The statement. -/
theorem proved : Rows.HandleRawSaid := over
#print axioms proved
end Go.Proofs.Ytbcecgbnnpbjbaa.handleRaw
