/- StoreAny: for every input the law answers true, and what came in reads as before. The card Rows.StoreAnyCardSaid, out of the walk in StoreAnyWalk. The row lists math/bits.deBruijn64tab; the card ties it to the program's text. No other condition. -/
import Derived.Test.YtmdnofojecncgaaGreatDoorCards
import Derived.Test.YtmdnofojecncgaaGreatDoorTie
import Derived.Test.YtmdnofojecncgaaGreatDoorStoreAnyWalk
import Derived.Test.YtmdnofojecncgaaGreatDoorArgsFlat
import Derived.Deep.DeepHandedRow
import Derived.Lib.LaidTab
set_option linter.unusedVariables false
set_option linter.unusedSimpArgs false
set_option maxRecDepth 100000
namespace Go.Proofs.YtmdnofojecncgaaGreatDoor.storeAny
open Go.ChangeShapes Go.WideShapes Go.ChangeAt Go.RowKit
set_option linter.unusedVariables false

theorem own : ownKnob Tryz.prog.godebug = none := by kernel_rfl
theorem laidOut : laidOutB Tryz.prog = true := by kernel_rfl
theorem gTab : Tryz.prog.globalNamed "math/bits.deBruijn64tab" = some 0 := by kernel_rfl
theorem gTabType : (Tryz.prog.globals[0]?).map (·.type) = some 217 := by kernel_rfl
theorem cellsA : Tryz.prog.cellsOf 217 = 64 := by kernel_rfl
theorem cellsE : Tryz.prog.cellsOf 5 = 1 := by kernel_rfl
def tabI : List Int := Lib.deBruijn64tab.map Int.ofNat
theorem tabI_get (j : Nat) : tabI.getD j 0 = ((Lib.deBruijn64tab.getD j 0 : Nat) : Int) := by
  unfold tabI
  rw [List.getD_eq_getElem?_getD, List.getD_eq_getElem?_getD, List.getElem?_map]
  cases Lib.deBruijn64tab[j]? <;> rfl

/-- What the row's list gives: the table's cells. -/
theorem table {W : World} (h : laidMetH Tryz.prog Rows.storeAnyRow.laid W) : Tab64 W := by
  have ht : Lib.TabIs Tryz.prog W "math/bits.deBruijn64tab" .u8 tabI := Lib.tabIs_of_head (rest := []) gTab gTabType Tryz.underlying217 Tryz.underlying5 cellsE cellsA h
  intro j hj
  have := ht.cell gTab j hj
  rw [tabI_get] at this
  exact this

set_option maxRecDepth 100000 in
theorem contract (H : Type) (enc : TypeId × Value → H) (W : World) (base : Nat) (args : Array Value) (ds gs : List (DataW H)) (before : List MemPlace)
    (hval : ∀ (j : Nat) t v, Tryz.f8.params[j]? = some t → args[j]? = some v → Value.okWide Tryz.prog W .any base t v)
    (hW : DataW.Whole enc Tryz.prog Tryz.f8.params.toList Rows.storeAnySpec.vars false W args.toList ds gs before) (hL : laidMetH Tryz.prog Rows.storeAnyRow.laid W) :
    Calls Tryz.prog 8 args W fun e W' => ∃ v, e = .returned v ∧ Rows.storeAnySpec.post enc Tryz.prog Tryz.f8 false true false false W args v W' := by
  have hW' := hW
  obtain ⟨p, q, hA0, hV, rfl, hfz, hnd⟩ := hW
  have hA : DataW.TrodAll enc Tryz.prog W 0 (fun _ => true) true Tryz.f8.params.toList args.toList ds p := hA0
  rw [Tryz.params8] at hA hval
  obtain ⟨v0, vs0, d0, ds0, p0, q0, hargs, rfl, rfl, h0, r0⟩ := trodAll_cons hA
  obtain ⟨v1, vs1, d1, ds1, p1, q1, rfl, rfl, rfl, h1, r1⟩ := trodAll_cons r0
  obtain ⟨v2, vs2, d2, ds2, p2, q2, rfl, rfl, rfl, h2, r2⟩ := trodAll_cons r1
  obtain ⟨v3, vs3, d3, ds3, p3, q3, rfl, rfl, rfl, h3, r3⟩ := trodAll_cons r2
  obtain ⟨rfl, rfl, rfl⟩ := trodAll_nil r3
  obtain rfl : args = #[v0, v1, v2, v3] := by cases args; simp_all
  obtain ⟨rfl, rfl⟩ := trodVars_none hV
  obtain ⟨a0, rfl, rfl, rfl, w0⟩ := open_int Tryz.underlying3 (hval 0 3 v0 rfl rfl) h0
  obtain ⟨a1, rfl, rfl, rfl, w1⟩ := open_int Tryz.underlying3 (hval 1 3 v1 rfl rfl) h1
  obtain ⟨s2, len2, cap2, rfl⟩ := okWide_slice Tryz.underlying79 (hval 2 79 v2 rfl rfl)
  have k2 := h2
  have lt2 : ∀ x ∈ p2, x.block < W.heap.size := by obtain ⟨m, hm⟩ := k2; exact DataW.trod_lt m _ _ _ hm
  obtain ⟨z2, w2⟩ := open_recs (ks := [some .i64, some .i64, some .i64, some .u64]) Tryz.underlying79 Tryz.underlying82 (by kernel_rfl) (by kernel_rfl) rfl (by decide) (by intro j f k hf hk; match j, hf, hk with | 0, hf, hk => (simp at hf hk; subst hf hk; exact Tryz.underlying3) | 1, hf, hk => (simp at hf hk; subst hf hk; exact Tryz.underlying3) | 2, hf, hk => (simp at hf hk; subst hf hk; exact Tryz.underlying3) | 3, hf, hk => (simp at hf hk; subst hf hk; exact Tryz.underlying45) | j + 4, hf, hk => simp at hk) h2
  obtain ⟨s3, len3, cap3, rfl⟩ := okWide_slice Tryz.underlying91 (hval 3 91 v3 rfl rfl)
  have k3 := h3
  have lt3 : ∀ x ∈ p3, x.block < W.heap.size := by obtain ⟨m, hm⟩ := k3; exact DataW.trod_lt m _ _ _ hm
  obtain ⟨z3, w3⟩ := open_flats (ks := [some .i64, some .i64, some .u64, none, some .u32, some .i64]) Tryz.underlying91 (show Flat Tryz.prog 95 [some .i64, some .i64, some .u64, none, some .u32, some .i64] from .struct [[some .i64], [some .i64], [some .u64], [none, some .u32, some .i64]] Tryz.underlying95 (by kernel_rfl) rfl (fun i f ks hf hk => by match i, hf, hk with | 0, hf, hk => (simp at hf hk; subst hf hk; exact ⟨by kernel_rfl, by kernel_rfl⟩) | 1, hf, hk => (simp at hf hk; subst hf hk; exact ⟨by kernel_rfl, by kernel_rfl⟩) | 2, hf, hk => (simp at hf hk; subst hf hk; exact ⟨by kernel_rfl, by kernel_rfl⟩) | 3, hf, hk => (simp at hf hk; subst hf hk; exact ⟨by kernel_rfl, by kernel_rfl⟩) | i + 4, hf, hk => simp at hk) (fun i f ks hf hk => by match i, hf, hk with | 0, hf, hk => (simp at hf hk; subst hf hk; exact (.int Tryz.underlying3)) | 1, hf, hk => (simp at hf hk; subst hf hk; exact (.int Tryz.underlying3)) | 2, hf, hk => (simp at hf hk; subst hf hk; exact (.int Tryz.underlying45)) | 3, hf, hk => (simp at hf hk; subst hf hk; exact (show Flat Tryz.prog 93 [none, some .u32, some .i64] from .struct [[none], [some .u32], [some .i64]] Tryz.underlying93 (by kernel_rfl) rfl (fun i f ks hf hk => by match i, hf, hk with | 0, hf, hk => (simp at hf hk; subst hf hk; exact ⟨by kernel_rfl, by kernel_rfl⟩) | 1, hf, hk => (simp at hf hk; subst hf hk; exact ⟨by kernel_rfl, by kernel_rfl⟩) | 2, hf, hk => (simp at hf hk; subst hf hk; exact ⟨by kernel_rfl, by kernel_rfl⟩) | i + 3, hf, hk => simp at hk) (fun i f ks hf hk => by match i, hf, hk with | 0, hf, hk => (simp at hf hk; subst hf hk; exact (.bool Tryz.underlying4)) | 1, hf, hk => (simp at hf hk; subst hf hk; exact (.int Tryz.underlying29)) | 2, hf, hk => (simp at hf hk; subst hf hk; exact (.int Tryz.underlying3)) | i + 3, hf, hk => simp at hk))) | i + 4, hf, hk => simp at hk)) (by kernel_rfl) (by decide) h3
  clear hA0
  refine (storeAny_walk a0 a1 s2 len2 cap2 z2 s3 len3 cap3 z3 W w0 w1 w2 w3 (table hL)).mono fun e W' ⟨he, bel⟩ => ?_
  subst he
  exact ⟨_, rfl, _, _, _, [], _, [], hW', trodAll_mk1 (shut_bool Tryz.underlying4 _), (trodAll_cons_mk (shut_int Tryz.underlying3 w0) (trodAll_cons_mk (shut_int Tryz.underlying3 w1) (trodAll_cons_mk (Below.trod laidOut (by kernel_rfl) (of_decide_eq_true (by kernel_rfl)) k2 bel lt2) (trodAll_cons_mk (Below.trod laidOut (by kernel_rfl) (of_decide_eq_true (by kernel_rfl)) k3 bel lt3) trodAll_mk0)))), rfl, bel.frame _, fun h => by cases h⟩

/-- A world for the witness: the settled one, the table holding what its initialiser lays. -/
noncomputable def laidWorld (os : Os) : World :=
  { World.holding Tryz.prog os ⟨#[], #[], []⟩ with heap := (World.holding Tryz.prog os ⟨#[], #[], []⟩).heap.modify 0 fun
      | .cells _ t frozen => .cells (tabI.map (Value.int .u8)).toArray t frozen
      | o => o }
theorem laid_met (os : Os) : laidMet Tryz.prog Rows.storeAnyRow.laid ((laidWorld os).forCall (fun _ _ => 0) ⟨#[], #[.int .i64 0, .int .i64 0, .slice none 0 0, .slice none 0 0], []⟩).memory :=
  laidMet_of_run' 8 (by kernel_rfl) (by kernel_rfl)
theorem reads (os : Os) {H : Type} (enc : TypeId × Value → H) : ∃ places, DataW.whole enc Tryz.prog ((laidWorld os).forCall (fun _ _ => 0) ⟨#[], #[.int .i64 0, .int .i64 0, .slice none 0 0, .slice none 0 0], []⟩).memory Tryz.f8.params.toList Rows.storeAnySpec.vars false #[.int .i64 0, .int .i64 0, .slice none 0 0, .slice none 0 0].toList 8 = some ([.lit (.int .i64 0), .lit (.int .i64 0), .nil, .nil], [], places) :=
  ⟨[], by kernel_rfl⟩

set_option maxRecDepth 100000 in
theorem lifted (os : Os) (started : os.Started) (H : Type) (enc : TypeId × Value → H) (F : Stop.Interp) :
    ReturnsInHanded {} Tryz.checked os 8 .any ((OpenSpec.ofChange Rows.storeAnySpec).preRow enc Tryz.prog Tryz.f8 Rows.storeAnyRow.domain false Rows.storeAnyRow.laid) (((OpenSpec.ofChange Rows.storeAnySpec).at F).post enc Tryz.prog Tryz.f8 false true false false) := by
  obtain ⟨places, hx⟩ := reads os enc
  refine returnsInHanded_of_row (C := Tryz.checked) (s := OpenSpec.ofChange Rows.storeAnySpec) own started (by kernel_rfl) Tryz.func8
    (witness_row_at (enc := enc) (C := Tryz.checked) false (laidWorld os) #[.int .i64 0, .int .i64 0, .slice none 0 0, .slice none 0 0] rfl (by kernel_rfl) (by kernel_rfl) (by kernel_rfl)
      (OpenSpec.preRow_of_cond 8 hx (by kernel_rfl) (fun k hk => by cases hk) (by kernel_rfl) (laid_met os))) ?_
  intro W base args ds gs before hval hW _ _ _ hL _ _
  exact contract H enc W base args ds gs before hval hW hL

theorem said : Rows.StoreAnySaid :=
  OpenClaim.holds_of_cond 8 Tryz.f8 rfl rfl rfl rfl rfl rfl rfl ⟨rfl, rfl, rfl, rfl, rfl⟩ rfl rfl rfl rfl rfl (by kernel_rfl) Tryz.func8 (by kernel_rfl)
    (of_decide_eq_true (by kernel_rfl)) (by unfold Func.isWrapper; first | (rw [if_pos (by decide +kernel)]; kernel_rfl) | (rw [if_neg (by decide +kernel)]; exact ⟨rfl, rfl⟩))
    (fun os started H enc _ F => by rw [OpenClaim.pre_eq_preRow]; exact lifted os started H enc F)

/-- No parameter wants a stand-in; the program's own looks are off: what the card asks. -/
theorem plain (f : FuncId) (fn : Func) (hf : Tryz.pinned.checked.prog.funcNamed "loft/loftlaw06.StoreAny" = some f) (hfn : Tryz.pinned.checked.prog.funcs[f]? = some fn) :
    false = Tryz.pinned.checked.prog.looks [] ∧ ∀ (j : Nat) t, fn.params[j]? = some t → Tryz.pinned.checked.prog.wantsStandIn t = false := by
  obtain rfl : f = 8 := Option.some.inj ((show Tryz.prog.funcNamed "loft/loftlaw06.StoreAny" = some 8 by kernel_rfl).symm.trans hf) |>.symm
  obtain rfl : fn = Tryz.f8 := (Option.some.inj (Tryz.func8.symm.trans hfn)).symm
  refine ⟨by kernel_rfl, fun j t ht => ?_⟩
  rw [Tryz.params8] at ht
  have hm : t ∈ [3, 3, 79, 91] := by simpa using Array.mem_of_getElem? ht
  simp only [List.mem_cons, List.not_mem_nil, or_false] at hm
  have hall : ∀ u ∈ [3, 3, 79, 91], Tryz.prog.wantsStandIn u = false := by
    intro u hu
    simp only [List.mem_cons, List.not_mem_nil, or_false] at hu
    rcases hu with rfl | rfl | rfl | rfl <;> kernel_rfl
  exact hall t (by simpa using hm)

/-- The card. -/
theorem proved : Rows.StoreAnyCardSaid :=
  Claim7.holds_tied_plain_at .later [] _ _ _ _ said (fun _ h => by cases h) (by kernel_rfl) (fun _ h => by cases h) storeAny_row_tie rfl ⟨rfl, rfl⟩ (by kernel_rfl) rfl plain (by kernel_rfl)
#print axioms proved
end Go.Proofs.YtmdnofojecncgaaGreatDoor.storeAny
