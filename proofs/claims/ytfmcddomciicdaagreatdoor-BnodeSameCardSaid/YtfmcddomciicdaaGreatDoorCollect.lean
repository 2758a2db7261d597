/- slices.AppendSeq and slices.Collect at words, walked over whatever iterator has its contract. Condition: the iterator's contract. -/
import Derived.Test.YtfmcddomciicdaaGreatDoorTextWalk
import Derived.Maps.AppendAt
import Derived.Maps.OwnIn
set_option linter.unusedVariables false
set_option linter.unusedSimpArgs false
set_option maxRecDepth 100000
namespace Go.Proofs.YtfmcddomciicdaaGreatDoor
open Go Go.RowKit Go.Shelf

attribute [local go_sem] Oper.semAt_some

abbrev encU (x : Int) : Array Value := #[.int .u64 x]

set_option maxRecDepth 100000 in
set_option maxHeartbeats 2000000 in
theorem appendSeq_in {gf : Nat} {lb : Array Value} (eg : ∀ args w, (callFunc gf args).run Tryz.prog w = .ok (.enter gf args) w) {L : List Int} {Sp : List Int → Prop} {w : World} (hL : L.length ≤ 1000000)
    (hseq : SeqStopsK Fence.wide 3 Tryz.prog gf lb encU (Below w.heap.size) (fun xs => xs = L) Sp L.length w) :
    Calls Tryz.prog 144 #[.slice none 0 0, .func (.func gf) #[] lb] w fun e w' => ∃ v, e = .returned v ∧ Below w.heap.size w w' ∧ w'.ownsRow w.heap.size 30 1 v L.length (L.map (Value.int .u64)) := by
  refine (callsIn_wide (n := 4)).1 ?_
  refine callsIn_of_wp_marks Tryz.func144 rfl trivial ?_ rfl
  simp only [Tryz.ntmps144, List.size_toArray, List.length_cons, List.length_nil, Nat.reduceAdd, Nat.reduceSub, Array.replicate_succ, Array.replicate_zero, List.push_toArray, List.append_toArray, List.nil_append, List.cons_append]
  gi_wp2_with fail
  have hbox := Boxed.new w 100 (.slice none 0 0)
  obtain ⟨W0, hW0⟩ : ∃ x, w.alloc (.cells #[.slice none 0 0] 100) = x := ⟨_, rfl⟩
  have hsz : W0.heap.size = w.heap.size + 1 := by rw [← hW0]; simp
  have hb0 : Below w.heap.size w W0 := by rw [← hW0]; exact (Below.refl _ w).alloc (Nat.le_refl _) _
  rw [hW0] at hbox ⊢
  clear hW0
  refine wpIn_rangeFunc_ownF rfl (by omega) (gf := gf) (lb := lb) rfl trivial eg hseq belowK_t (belowK_b (by omega)) hb0 (fun _ => rfl)
    (fun pre W => (∃ v, Boxed W w.heap.size 100 v ∧ W.ownsRow w.heap.size 30 1 v pre.length (pre.map (Value.int .u64)) ∧ True) ∧ Below w.heap.size w W)
    (fun _ _ _ => False)
    (OwnFrom.and (Own.from (holdsRow_own w.heap.size w.heap.size 100 30 1 (fun pre : List Int => pre.length) (fun pre => pre.map (Value.int .u64)) (fun _ _ => True)) _) (ownFrom_below (Nat.le_refl _) (by omega)))
    (fun _ _ _ _ _ hs _ _ => hs)
    ⟨⟨_, hbox, World.ownsRow_nil .., trivial⟩, hb0⟩
    (fun x => { tmps := #[.slice none 0 0, .func (.func gf) #[] lb, .pointer (some ⟨w.heap.size, 0, none⟩), undef, .slice none 0 0, .int .u64 x, .func (.func gf) #[] lb, .int .u64 x, undef, undef, undef, undef, undef], defers := [] }) ?assign ?body ?done ?stop
  case assign =>
    intro l x W K hK
    gi_wp2
    exact hK
  case body =>
    rintro l pre x W ⟨⟨v, hv, hr, -⟩, hB⟩ hlen
    have hform : ∃ sa cap, v = .slice sa pre.length cap := by
      obtain ⟨rfl, hz⟩ | ⟨g, cap, rfl⟩ := Joins.ownsRow_forms hr
      · exact ⟨none, 0, by rw [hz]⟩
      · exact ⟨_, _, rfl⟩
    obtain ⟨sa, cap, rfl⟩ := hform
    have hvc := hv.cell
    have hvf := hv.frozen
    have hwle := hB.size
    obtain ⟨i0, hi0, hz0, hz1, hz2⟩ := info_parts infoU64
    gi_wp2_with (gi_at_builtin; refine wpListIn_append_own_at _ (by rfl) _ _ 100 (by rfl) w.heap.size 30 i0 _ 1 8 Tryz.underlying100 hi0 hz0 hz1 hz2 rfl (by decide) _ _ _ (by rfl) (hr.alloc _) ⟨W.heap.size, 0, none⟩ 1 1 [.int .u64 x] (by rfl) rfl (cell_one_new _ _ _) (by simp [Value.oneCell']) (by unfold maxLen; omega) (by omega) (Nat.le_trans hwle (by simp)) ?_)
    intro v' w1 hown' hgrow _ hblk
    obtain ⟨g', cap', rfl⟩ := ownsRow_succ hown'
    obtain ⟨hv1, hv2, hr2, hk2, hb2⟩ := hv.appended (by decide) hr hwle (Nat.le_refl _) hown' hgrow
    have hc1 := hv1.cell
    have hf1 := hv1.frozen
    have HG := Lib.hid (And.intro hv2 (And.intro hr2 (And.intro hk2 (And.intro hb2 hB))))
    clear hv1 hv2 hr2 hk2 hb2 hown' hgrow hblk hr hvc hvf hv hB hi0 hz0 hz1 hz2
    gi_wp2
    obtain ⟨hv2, hr2, hk2, hb2, hB⟩ := HG.out
    refine ⟨hk2, hb2, ⟨_, hv2, ?_, trivial⟩, hB.trans hb2⟩
    rw [List.length_append, List.map_append]
    exact hr2
  case done =>
    rintro D xs W hD rfl ⟨⟨v, hv, hr, -⟩, hB⟩ hK
    have hvc := hv.cell
    have HQ := Lib.hid (And.intro (hB.trans (belowK_b (w := w) (Nat.le_refl _) W D _ (.deferred none) (by omega) hK rfl rfl)) (ownsRow_putObj hr (.deferred none) hK rfl))
    clear hv hr hB
    gi_wp2
    refine ⟨by simp, .inl ⟨_, _, rfl, run_takeDeferred hK, ?_⟩⟩
    refine ⟨v, ?_, v, rfl, HQ.out.1, HQ.out.2⟩
    simp [results, Tryz.f144, go_sem]
  case stop =>
    rintro D c pre W hD _ h _
    exact h.elim

/-- Collect: a fresh row. -/
theorem collect_in {gf : Nat} {lb : Array Value} (eg : ∀ args w, (callFunc gf args).run Tryz.prog w = .ok (.enter gf args) w) {L : List Int} {Sp : List Int → Prop} {w : World} (hL : L.length ≤ 1000000)
    (hseq : SeqStopsK Fence.wide 3 Tryz.prog gf lb encU (Below w.heap.size) (fun xs => xs = L) Sp L.length w) :
    Calls Tryz.prog 106 #[.func (.func gf) #[] lb] w fun e w' => ∃ v, e = .returned v ∧ Sep No w w' [u64Row v L.length L] := by
  have hc := appendSeq_in eg hL hseq
  clear hseq eg hL
  go_enter Tryz.func106, Tryz.ntmps106
  go_wp2_with fail
  refine hc.mono ?_
  rintro e w' ⟨v, rfl, hb, hr⟩
  have HQ := Lib.hid (And.intro hb hr)
  clear hc hb hr
  go_wp2
  go_ret
  obtain ⟨hb, hr⟩ := HQ.out
  refine ⟨v, rfl, (Sep.nil w).push _ (fun k => v.ownBlock = some k) (w' := w') ⟨?_, rfl⟩ (Mod.of_below hb _) ?_⟩
  · exact ownsRow_base_a hr (Nat.zero_le _)
  · intro k hk
    rcases hr.2 with ⟨rfl, _⟩ | ⟨g, cap, cur, rfl, hb', _⟩
    · simp [Value.ownBlock] at hk
    · simp only [Value.ownBlock, Option.some.injEq] at hk
      omega
end Go.Proofs.YtfmcddomciicdaaGreatDoor
