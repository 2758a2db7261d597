/- Package compact, walked: none, small, tried: an iterator over the records, and its contract. Conditions: the store's records are as said; a round changes no cells but the caller's own. | Package compact, walked: Step, Run, New. Conditions: the store's records are as said; the table of math/bits holds what its initialiser lays. | Package compact, walked: Step, Run, New, on a store among others. Conditions: the store's records are as said; the table of math/bits holds what its initialiser lays. -/
import Derived.Test.YtmdnofojecncgaaGreatDoorCompactA
import Derived.Test.YtmdnofojecncgaaGreatDoorHeapA
import Derived.Stop.RegionWithIn
import Derived.Test.YtmdnofojecncgaaGreatDoorNodeWalk
import Derived.RangeFuncFrom
import Derived.Test.YtmdnofojecncgaaGreatDoorHeapB
set_option linter.unusedVariables false
set_option linter.unusedSimpArgs false
set_option maxRecDepth 100000
namespace Go.Proofs.YtmdnofojecncgaaGreatDoor
open Go Go.RowKit Go.Shelf

attribute [local go_sem] Oper.semAt_some

variable {F F0 : Nat → Prop} {w0 w : World} {Ps : List Res}

theorem cpnone_call {cb b : Nat} (hc : w.cell? ⟨cb, 0, none⟩ = some (.pointer (some ⟨b, 0, none⟩))) : Calls Tryz.prog 43 #[.pointer (some ⟨cb, 0, none⟩)] w fun e w' => e = .returned (.bool false) ∧ w = w' := by
  go_enter Tryz.func43, Tryz.ntmps43
  go_wp2
  go_ret
  exact ⟨rfl, rfl⟩
theorem cpnone_nil (w : World) : Calls Tryz.prog 43 #[.pointer none] w fun e w' => e = .returned (.bool true) ∧ w = w' := by
  go_enter Tryz.func43, Tryz.ntmps43
  go_wp2
  go_ret
  exact ⟨rfl, rfl⟩
theorem cpnone_zero {cb : Nat} (hc : w.cell? ⟨cb, 0, none⟩ = some (.pointer none)) : Calls Tryz.prog 43 #[.pointer (some ⟨cb, 0, none⟩)] w fun e w' => e = .returned (.bool true) ∧ w = w' := by
  go_enter Tryz.func43, Tryz.ntmps43
  go_wp2
  go_ret
  exact ⟨rfl, rfl⟩

theorem tried_call (p : Option Addr) (w : World) : Calls Tryz.prog 65 #[.pointer p] w fun e w' => e = .returned (.func (.func 105) #[] #[.pointer (some ⟨w.heap.size, 0, none⟩)]) ∧ w.alloc (.cells #[.pointer p] 25) = w' := by
  go_enter Tryz.func65, Tryz.ntmps65
  go_wp2
  go_ret
  exact ⟨rfl, rfl⟩

section
variable {b s hp t : Nat} {m la : Int} {S S' : Slb} {T T' : HTbl} {H H' : List Ent} {R R' : List Rc}
theorem small_call {cb : Nat} (h : Sep F w0 w (stOpen b m la s hp t S T)) (hc : w.cell? ⟨cb, 0, none⟩ = some (.pointer (some ⟨b, 0, none⟩))) (I : StInv S T H R) {hh : Int} (h0 : 0 ≤ hh ∧ hh < 18446744073709551616) {j : Nat} {r : Rc} (L : Rec R hh j r) :
    Calls Tryz.prog 106 #[.pointer (some ⟨cb, 0, none⟩), .int .u64 hh] w fun e w' => e = .returned (.bool (decide (r.w.length ≤ 26))) ∧ Mod No w w' := by
  have hl := stlen_call (st_shut h) 0 rfl I h0 (.ok j r L)
  have hwl := (I.words r (List.mem_of_getElem? L.hj) L.h0).1
  obtain ⟨n, hn⟩ : ∃ n, r.w.length = n := ⟨_, rfl⟩
  rw [hn] at hl hwl ⊢
  have ho := of_call ((n : Int) + 2) w
  have hcb : (cof ((n : Int) + 2)).2.1 = decide (n ≤ 26) := by
    by_cases h : n ≤ 26
    · rw [decide_eq_true h]; unfold cof; rw [if_neg (by omega), if_pos (by omega)]
    · rw [decide_eq_false h]; unfold cof; rw [if_neg (by omega), if_neg (by omega)]
  rw [hcb] at ho
  obtain ⟨c1, hc1⟩ : ∃ x, (cof ((n : Int) + 2)).1 = x := ⟨_, rfl⟩
  obtain ⟨c3, hc3⟩ : ∃ x, (cof ((n : Int) + 2)).2.2 = x := ⟨_, rfl⟩
  obtain ⟨c2, hc2⟩ : ∃ x, decide (n ≤ 26) = x := ⟨_, rfl⟩
  rw [hc1, hc3, hc2] at ho
  rw [hc2]
  have e1 : IntKind.i64.wrap ((n : Int) + 2) = (n : Int) + 2 := by rw [IntKind.wrap_i64]; omega
  clear h I h0 L hcb hc1 hc2 hc3 hn hwl
  go_enter Tryz.func106, Tryz.ntmps106
  go_wp2_with fail
  refine hl.mono ?_
  rintro e w' ⟨rfl, rfl⟩
  clear hl
  go_wp2_with fail
  refine ho.mono ?_
  rintro e w2 ⟨rfl, hm⟩
  clear ho
  go_wp2
  go_ret
  exact ⟨rfl, hm⟩

/-- A record that is tried. -/
abbrev TrOf (S : Slb) := { x : Int // x ∈ tried S }
abbrev tenc {S : Slb} (x : TrOf S) : Array Value := #[.int .u64 x.1]


theorem wpAnyIn_takeD {P : Program} {Fn : Fence} {n : Nat} {md : Region.Mode} {ops : Array Oper} {Q : Exit → Act → World → Prop} {i : Nat} {oi : Oper} {v : Value} {fuel : Nat} {listed : Array Bool} {a : Act} {w : World} (d : Option Tmp) (hro : Fn.round = none) (hi : ops[i]? = some oi) (hd : oi.dst = d)
    (hs : Region.noSelect ops = true) (hf : Region.free md ops listed i = true) (hr : (Region.ready md ops listed).contains i = true)
    (hQ : ∀ c a w, Q (.panic c) (a.put d v) w → Q (.panic c) a w) (hy : YieldsFenced P ops oi v a)
    (h : wpAnyIn Fn n P md ops Q fuel (listed.setIfInBounds i true) (a.put d v) w) : wpAnyIn Fn n P md ops Q (fuel + 1) listed a w := by
  subst hd
  exact wpAnyIn_take hro hi hs hf hr hQ hy h


theorem yield_bool {e : Ending} {P Q R : Prop} (h : (e = .returned (.bool true) ∧ P ∧ Q) ∨ (e = .returned (.bool false) ∧ R)) : ∃ c : Bool, e = .returned (.bool c) ∧ (c = true → P ∧ Q) ∧ (c = false → R) := by
  rcases h with ⟨rfl, h⟩ | ⟨rfl, h⟩
  · exact ⟨true, rfl, fun _ => h, (fun e => by cases e)⟩
  · exact ⟨false, rfl, (fun e => by cases e), fun _ => h⟩

set_option maxRecDepth 100000 in
set_option maxHeartbeats 4000000 in
theorem tried_stops {wB : World} (hS : Sep F w0 wB (stOpen b m la s hp t S T)) (I : StInv S T H R) {cb : Nat} (hcb : wB.cell? ⟨cb, 0, none⟩ = some (.pointer (some ⟨b, 0, none⟩))) (B2 : Nat) (_hB2 : wB.heap.size ≤ B2) (w : World) (hBw : Below wB.heap.size wB w)
    (hbx : w.cell? ⟨B2, 0, none⟩ = some (.pointer (some ⟨cb, 0, none⟩))) (n : Nat) (hn : 1 ≤ n) :
    SeqStopsK Fence.wide n Tryz.prog 105 #[.pointer (some ⟨B2, 0, none⟩)] (tenc (S := S)) (KpH wB.heap.size B2) (fun xs => xs.map (·.1) = tried S) (fun pre => ∃ k, pre.map (·.1) = (tried S).take k) (tried S).length w := fun l J Jx W hW hJ hJx hY h0 => by
  have hblt : B2 < w.heap.size := World.block_lt_of_cell? w ⟨B2, 0, none⟩ hbx
  have hbx1 : W.cell? ⟨B2, 0, none⟩ = some (.pointer (some ⟨cb, 0, none⟩)) := (hW.cell (p := ⟨B2, 0, none⟩) hblt).trans hbx
  have hBW : Below wB.heap.size wB W := hBw.trans (hW.mono hBw.size)
  have hcblt : cb < wB.heap.size := World.block_lt_of_cell? wB ⟨cb, 0, none⟩ hcb
  have hcb1 : W.cell? ⟨cb, 0, none⟩ = some (.pointer (some ⟨b, 0, none⟩)) := (hBW.cell (p := ⟨cb, 0, none⟩) hcblt).trans hcb
  have hSW := hS.more (Mod.of_below hBW No)
  obtain ⟨FW, h1W, -⟩ := hSW.frame [0, 1, 2, 3] (stOpen b m la s hp t S T) (by simp) rfl
  have hal := stallQ_in h1W
  have HS := Lib.hid hS
  have HI := Lib.hid I
  have HJ := Lib.hid hJ
  have HJx := Lib.hid hJx
  have HY := Lib.hid hY
  have HW := Lib.hid (And.intro hBW h0)
  have hlen := live_len (hSW.sOk 1 rfl)
  have HCB := Lib.hid (And.intro hcb hcblt)
  obtain ⟨N, hN⟩ : ∃ N, S.live.length = N := ⟨_, rfl⟩
  have HN := Lib.hid hN
  rw [hN] at hlen
  have hsl : (stAll S).length = N := (stAll_len S).trans hN
  clear hS I hJ hJx hY h0 hBw hW hBW hSW h1W hN hcb hcb1
  refine callsIn_of_wp Tryz.func105 rfl trivial ?_ rfl
  simp only [Tryz.ntmps105, List.size_toArray, List.length_cons, List.length_nil, Nat.reduceAdd, Nat.reduceSub, Array.replicate_succ, Array.replicate_zero, List.push_toArray, List.append_toArray, List.nil_append, List.cons_append]
  have hcb1 : W.cell? ⟨cb, 0, none⟩ = some (.pointer (some ⟨b, 0, none⟩)) := (HW.out.1.cell (p := ⟨cb, 0, none⟩) hcblt).trans HCB.out.1
  gi_wp2_with fail
  refine ⟨trivial, ?_⟩
  refine (callsIn_wide.2 hal).mono ?_
  rintro e W1 ⟨v, rfl, k1⟩
  obtain ⟨sa, cap, rfl⟩ := k1.form 0 rfl
  have hm := k1.mod
  have hJ1 := HJ.out _ _ _ _ HW.out.2 (Mod.grown0 hm) (fun r e => by cases e)
  have hbx2 := hm.cell hbx1 (fun x => x)
  have hB1 : Below wB.heap.size wB W1 := HW.out.1.trans (hm.below _ HW.out.1.size (fun _ _ x => x))
  have HP : Hid (∀ (wr : World), KpH wB.heap.size B2 W1 wr → ∀ (k : Nat) (a : Int), S.live[k]? = some a → ∃ g, sa = some ⟨g, 0, none⟩ ∧ wr.cell? ⟨g, k, none⟩ = some (.int .u64 (hdA S a))) := by
    intro wr hK k a hq
    obtain ⟨g, rfl, hc, _⟩ := k1.item 0 rfl (o := k) (x := .int .u64 (hdA S a)) (by unfold stAll; rw [List.getElem?_map, List.getElem?_map, hq]; rfl)
    refine ⟨g, rfl, ?_⟩
    have hfr : W.heap.size ≤ g := k1.fresh 0 rfl
    have hbw := World.block_lt_of_cell? W ⟨B2, 0, none⟩ hbx1
    obtain ⟨x, hx, hxc⟩ := cells_of_cell hc
    have hx2 := hK.2 g x (by simp at hbw; omega) hx hxc
    exact (World.cell?_of_block (w := W1) (by rw [hx2, hx])).trans hc
  have HB : Hid (∀ (wr : World), KpH wB.heap.size B2 W1 wr → wr.cell? ⟨B2, 0, none⟩ = some (.pointer (some ⟨cb, 0, none⟩)) ∧ wr.cell? ⟨cb, 0, none⟩ = some (.pointer (some ⟨b, 0, none⟩)) ∧ Sep F w0 wr (stOpen b m la s hp t S T)) := by
    intro wr hK
    obtain ⟨x, hx, hxc⟩ := cells_of_cell hbx2
    have hx2 := hK.2 B2 x (Nat.le_refl _) hx hxc
    have hBr := hB1.trans hK.1
    exact ⟨(World.cell?_of_block (w := W1) (by rw [hx2, hx])).trans hbx2, (hBr.cell (p := ⟨cb, 0, none⟩) HCB.out.2).trans HCB.out.1, HS.out.more (Mod.of_below hBr No)⟩
  rw [hsl] at k1 ⊢
  have HJ1 := Lib.hid hJ1
  have HB1 := Lib.hid hB1
  have e0 : IntKind.i64.wrap ((N : Int) - 1) = (N : Int) - 1 := by rw [IntKind.wrap_i64]; omega
  clear hbx1 hbx2 hbx hal k1 hm hJ1 HW hsl hB1 hcb1
  gi_wp2_with fail
  gi_loopw [4] (fun kv wr => ∃ (k : Nat) (pre : List (TrOf S)), k ≤ N ∧ kv = .int .i64 ((k : Int) - 1) ∧ J pre wr ∧ pre.map (·.1) = tried1 S k ∧ KpH wB.heap.size B2 W1 wr) (fun kv _ => (RowKit.intOf kv + 1).toNat)
  case atStart => exact ⟨N, [], Nat.le_refl _, rfl, HJ1.out, by rw [← HN.out, tried1_end]; rfl, KpH.refl _ _ _⟩
  case round =>
    obtain ⟨k, pre, hk, rfl, hJr, heq, hK⟩ := hrel
    clear HJ1 e0
    rcases k with _ | k
    · rw [show ((0 : Nat) : Int) - 1 = -1 from rfl]
      have HJr := Lib.hid (And.intro hJr (And.intro heq hK))
      clear hJr heq hK
      gi_wp2_with fail
      gi_loopw [36] (fun kv wr => ∃ (k : Nat) (pre : List (TrOf S)), k ≤ N ∧ kv = .int .i64 k ∧ J pre wr ∧ pre.map (·.1) = tried1 S 0 ++ tried2 S k ∧ KpH wB.heap.size B2 W1 wr) (fun kv _ => N - (RowKit.intOf kv).toNat)
      case atStart => exact ⟨0, pre, Nat.zero_le _, rfl, HJr.out.1, by rw [tried2_zero, List.append_nil]; exact HJr.out.2.1, HJr.out.2.2⟩
      case round =>
        obtain ⟨k, pre, hk, rfl, hJr, heq, hK⟩ := hrel
        clear HJr
        by_cases hlt : k < N
        · obtain ⟨a, hq⟩ : ∃ a, S.live[k]? = some a := ⟨_, List.getElem?_eq_getElem (by rw [HN.out]; exact hlt)⟩
          obtain ⟨g, rfl, hcg⟩ := HP.out wr hK k a hq
          obtain ⟨hbx, hcbr, hSr⟩ := HB.out wr hK
          obtain ⟨j, r, L, ha, hsm⟩ := live_rec' HI.out (List.mem_of_getElem? hq)
          have hrg := HI.out.rng L.hj
          rw [L.he] at hrg
          have hsc := small_call hSr hcbr HI.out ⟨hrg.1, hrg.2.1⟩ L
          rw [← hsm] at hsc
          have hst2 := tried2_step hq
          have HQ := Lib.hid hq
          have HK := Lib.hid hK
          have HJr := Lib.hid hJr
          have HEQ := Lib.hid heq
          have hkN : (k : Int) < (N : Int) := by omega
          have hwsz : wB.heap.size ≤ wr.heap.size := (HB1.out.trans hK.1).size
          obtain ⟨x, hx⟩ : ∃ x, hdA S a = x := ⟨_, rfl⟩
          have HX := Lib.hid hx
          rw [hx] at hcg hsc
          cases hs : smallA S a with
          | true =>
            rw [hs] at hsc hst2
            have HE : Hid (pre.map (·.1) = tried1 S 0 ++ tried2 S (k + 1)) := by
              show _ = _
              rw [hst2, if_pos rfl, List.append_nil]
              exact HEQ.out
            clear hJr heq hK hq hsm hSr hx hst2 hrg L ha hlt
            gi_wp2_with fail
            refine ⟨trivial, ?_⟩
            refine (callsIn_wide.2 hsc).mono ?_
            rintro e w3 ⟨rfl, hm3⟩
            have H3 := Lib.hid (And.intro (HJ.out _ _ _ _ HJr.out (Mod.grown0 hm3) (fun r e => by cases e)) (HK.out.trans (KpH.of_mod (B2 := B2) hm3 hwsz)))
            clear hsc hm3
            gi_wp2
            refine ⟨(fun f e => by cases e), ?_⟩
            gi_wp2
            go_roundw
            case rel => exact ⟨k + 1, pre, by omega, by go_num, H3.out.1, HE.out, H3.out.2⟩
            case measure => simp [RowKit.intOf]; omega
          | false =>
            rw [hs] at hsc hst2
            obtain ⟨rest, hrest⟩ := tried2_next hq hs
            have hmem : x ∈ tried S := by rw [← hrest, ← hx]; simp
            have hpl : pre.length < (tried S).length := by
              have := congrArg List.length heq
              rw [← hrest, List.length_append, ← this]
              simp
            have HE : Hid ((pre ++ [(⟨x, hmem⟩ : TrOf S)]).map (·.1) = tried1 S 0 ++ tried2 S (k + 1)) := by
              show _ = _
              rw [hst2, List.map_append, heq, ← List.append_assoc, hx]
              rfl
            have HE2 : Hid ((pre ++ [(⟨x, hmem⟩ : TrOf S)]).map (·.1) ++ rest = tried S) := by
              show _ = _
              refine Eq.trans ?_ hrest
              rw [List.map_append, heq, hx, List.append_assoc]
              rfl
            have HM := Lib.hid (And.intro hmem hpl)
            clear hJr heq hK hq hsm hSr hx hst2 hrg L ha hlt hpl hrest
            gi_wp2_with fail
            refine ⟨trivial, ?_⟩
            refine (callsIn_wide.2 hsc).mono ?_
            rintro e w3 ⟨rfl, hm3⟩
            have hJ3 := HJ.out _ _ _ _ HJr.out (Mod.grown0 hm3) (fun r e => by cases e)
            have HK3 := Lib.hid (HK.out.trans (KpH.of_mod (B2 := B2) hm3 hwsz))
            obtain ⟨fn, tmps, assign, body, hy, hR⟩ := HY.out pre ⟨x, hmem⟩ _ hJ3 HM.out.2
            dsimp only [tenc] at hy
            clear hsc hm3 hJ3 HJr
            gi_wp2
            refine hR.mono ?_
            rintro e W5 (⟨rfl, hJ5, hK5⟩ | ⟨rfl, hx5⟩)
            · have H5 := Lib.hid (And.intro hJ5 (HK3.out.trans hK5))
              clear hJ5 hK5
              gi_wp2
              go_roundw
              case rel => exact ⟨k + 1, _, by omega, by go_num, H5.out.1, HE.out, H5.out.2⟩
              case measure => simp [RowKit.intOf]; omega
            · have H5 := Lib.hid hx5
              clear hx5
              gi_wp2
              refine bodyPost_ret (results_none rfl _ _ _) rfl ?_
              refine ⟨⟨_, rfl⟩, .inr ⟨_, ⟨pre.length + 1, ?_⟩, H5.out⟩⟩
              have h := congrArg (List.take (pre.length + 1)) HE2.out
              rw [← h, List.take_append_of_le_length (by simp), List.take_of_length_le (by simp)]
        · obtain rfl : k = N := by omega
          have HQ := Lib.hid (And.intro heq hJr)
          clear hJr heq hK hlt
          gi_wp2
          go_end0
          exact ⟨⟨_, rfl⟩, .inl ⟨_, by rw [HQ.out.1, tried_eq, HN.out], HQ.out.2⟩⟩
    · have ek : ((k + 1 : Nat) : Int) - 1 = (k : Int) := by omega
      rw [ek]
      obtain ⟨a, hq⟩ : ∃ a, S.live[k]? = some a := ⟨_, List.getElem?_eq_getElem (by rw [HN.out]; omega)⟩
      have hKd := hK.trans (KpH.of_mod (B2 := B2) (Mod.refl No wr).drew (HB1.out.trans hK.1).size)
      obtain ⟨g, rfl, hcg⟩ := HP.out wr.drew hKd k a hq
      obtain ⟨hbx, hcbr, hSr⟩ := HB.out wr.drew hKd
      obtain ⟨j, r, L, ha, hsm⟩ := live_rec' HI.out (List.mem_of_getElem? hq)
      have hrg := HI.out.rng L.hj
      rw [L.he] at hrg
      have hsc := small_call hSr hcbr HI.out ⟨hrg.1, hrg.2.1⟩ L
      rw [← hsm] at hsc
      have hst1 := tried1_step hq
      have HK := Lib.hid hKd
      have HJr := Lib.hid (HJ.out _ _ _ _ hJr (Mod.grown0 (Mod.refl No wr).drew) (fun r e => by cases e))
      have HEQ := Lib.hid heq
      have hkN : (k : Int) < (N : Int) := by omega
      have hk0 : decide ((0 : Int) ≤ (k : Int)) = true := leT (by omega)
      have hwsz : wB.heap.size ≤ wr.drew.heap.size := (HB1.out.trans hKd.1).size
      have e1 : IntKind.i64.wrap ((k : Int) - 1) = (k : Int) - 1 := by rw [IntKind.wrap_i64]; omega
      obtain ⟨x, hx⟩ : ∃ x, hdA S a = x := ⟨_, rfl⟩
      rw [hx] at hcg hsc
      cases hs : smallA S a with
      | false =>
        rw [hs] at hsc hst1
        have HE : Hid (pre.map (·.1) = tried1 S k) := by
          show _ = _
          rw [hst1, if_neg (by simp), List.append_nil]
          exact HEQ.out
        clear hJr heq hK hq hsm hSr hx hst1 hrg L ha hKd ek
        gi_wp2_with fail
        refine wpIn_region_any (by kernel_rfl) ?_
        change wpAnyIn _ _ _ _ _ _ _ _ _ (World.drew _)
        refine wpAnyIn_takeD (i := 1) (v := ?_) (some 20) rfl rfl rfl (by kernel_rfl) (by kernel_rfl) (by kernel_rfl) (fun _ _ _ h => h) ⟨Or.inl ⟨by rfl, ?_⟩, fun _ => rfl⟩ ?_
        rotate_left
        · intro w
          go_simp
          try with_reducible rfl
        simp only [Act.put, List.setIfInBounds_toArray, List.set_cons_zero, List.set_cons_succ]
        refine wpAnyIn_takeD (i := 2) (v := ?_) (some 21) rfl rfl rfl (by kernel_rfl) (by kernel_rfl) (by kernel_rfl) (fun _ _ _ h => h) ⟨Or.inl ⟨by rfl, ?_⟩, fun _ => rfl⟩ ?_
        rotate_left
        · intro w
          go_simp
          try with_reducible rfl
        simp only [Act.put, List.setIfInBounds_toArray, List.set_cons_zero, List.set_cons_succ]
        refine wpAnyIn_takeD (i := 3) (v := ?_) (some 22) rfl rfl rfl (by kernel_rfl) (by kernel_rfl) (by kernel_rfl) (fun _ _ _ h => h) ⟨Or.inl ⟨by rfl, ?_⟩, fun _ => rfl⟩ ?_
        rotate_left
        · intro w
          go_simp
          try with_reducible rfl
        simp only [Act.put, List.setIfInBounds_toArray, List.set_cons_zero, List.set_cons_succ]
        refine wpAnyIn_ready (rs := [0, 4]) (by kernel_rfl) (by simp) ?_
        refine AllReadyIn.cons rfl (fun K hK => ?_) (AllReadyIn.cons rfl (fun K hK => ?_) AllReadyIn.nil)
        · go_simp
          refine hK _ _ ?_
          clear hK K
          try simp only [Act.put, List.setIfInBounds_toArray, List.set_cons_zero, List.set_cons_succ]
          refine wpAnyIn_ready (rs := [4]) (by kernel_rfl) (by simp) ?_
          refine AllReadyIn.cons rfl (fun K hK => ?_) AllReadyIn.nil
          go_simp
          refine hK _ _ ?_
          clear hK K
          try simp only [Act.put, List.setIfInBounds_toArray, List.set_cons_zero, List.set_cons_succ]
          refine wpAnyIn_ready (rs := [5]) (by kernel_rfl) (by simp) ?_
          refine AllReadyIn.cons rfl (fun K hK => ?_) AllReadyIn.nil
          go_simp
          refine ⟨trivial, ?_⟩
          refine (callsIn_wide.2 hsc).mono ?_
          rintro e w3 ⟨rfl, hm3⟩
          refine hK _ _ ?_
          clear hK K
          try simp only [Act.put, List.setIfInBounds_toArray, List.set_cons_zero, List.set_cons_succ]
          refine wpAnyIn_takeD (i := 6) (v := ?_) (some 25) rfl rfl rfl (by kernel_rfl) (by kernel_rfl) (by kernel_rfl) (fun _ _ _ h => h) ⟨Or.inl ⟨by rfl, ?_⟩, fun _ => rfl⟩ ?_
          rotate_left
          · intro w
            go_simp
            try with_reducible rfl
          simp only [Act.put, List.setIfInBounds_toArray, List.set_cons_zero, List.set_cons_succ]
          refine wpAnyIn_takeD (i := 7) (v := undef) (some 26) rfl rfl rfl (by kernel_rfl) (by kernel_rfl) (by kernel_rfl) (fun _ _ _ h => h) ⟨Or.inr ⟨by rfl, rfl⟩, fun _ => rfl⟩ ?_
          simp only [Act.put, List.setIfInBounds_toArray, List.set_cons_zero, List.set_cons_succ]
          refine wpAnyIn_takeD (i := 8) (v := undef) (some 27) rfl rfl rfl (by kernel_rfl) (by kernel_rfl) (by kernel_rfl) (fun _ _ _ h => h) ⟨Or.inr ⟨by rfl, rfl⟩, fun _ => rfl⟩ ?_
          simp only [Act.put, List.setIfInBounds_toArray, List.set_cons_zero, List.set_cons_succ]
          refine wpAnyIn_takeD (i := 9) (v := undef) (some 28) rfl rfl rfl (by kernel_rfl) (by kernel_rfl) (by kernel_rfl) (fun _ _ _ h => h) ⟨Or.inr ⟨by rfl, rfl⟩, fun _ => rfl⟩ ?_
          simp only [Act.put, List.setIfInBounds_toArray, List.set_cons_zero, List.set_cons_succ]
          refine wpAnyIn_takeD (i := 10) (v := undef) (some 29) rfl rfl rfl (by kernel_rfl) (by kernel_rfl) (by kernel_rfl) (fun _ _ _ h => h) ⟨Or.inr ⟨by rfl, rfl⟩, fun _ => rfl⟩ ?_
          simp only [Act.put, List.setIfInBounds_toArray, List.set_cons_zero, List.set_cons_succ]
          refine wpAnyIn_takeD (i := 11) (v := undef) (some 30) rfl rfl rfl (by kernel_rfl) (by kernel_rfl) (by kernel_rfl) (fun _ _ _ h => h) ⟨Or.inr ⟨by rfl, rfl⟩, fun _ => rfl⟩ ?_
          simp only [Act.put, List.setIfInBounds_toArray, List.set_cons_zero, List.set_cons_succ]
          refine wpAnyIn_takeD (i := 12) (v := undef) (some 31) rfl rfl rfl (by kernel_rfl) (by kernel_rfl) (by kernel_rfl) (fun _ _ _ h => h) ⟨Or.inr ⟨by rfl, rfl⟩, fun _ => rfl⟩ ?_
          simp only [Act.put, List.setIfInBounds_toArray, List.set_cons_zero, List.set_cons_succ]
          refine wpAnyIn_takeD (i := 13) (v := undef) (some 32) rfl rfl rfl (by kernel_rfl) (by kernel_rfl) (by kernel_rfl) (fun _ _ _ h => h) ⟨Or.inr ⟨by rfl, rfl⟩, fun _ => rfl⟩ ?_
          simp only [Act.put, List.setIfInBounds_toArray, List.set_cons_zero, List.set_cons_succ]
          refine wpAnyIn_takeD (i := 14) (v := ?_) (some 33) rfl rfl rfl (by kernel_rfl) (by kernel_rfl) (by kernel_rfl) (fun _ _ _ h => h) ⟨Or.inl ⟨by rfl, ?_⟩, fun _ => rfl⟩ ?_
          rotate_left
          · intro w
            go_simp
            try with_reducible rfl
          simp only [Act.put, List.setIfInBounds_toArray, List.set_cons_zero, List.set_cons_succ]
          refine wpAnyIn_done (by kernel_rfl) ?_ _
          have H3 := Lib.hid (And.intro (HJ.out _ _ _ _ HJr.out (Mod.grown0 hm3) (fun r e => by cases e)) (HK.out.trans (KpH.of_mod (B2 := B2) hm3 hwsz)))
          clear hsc hm3
          gi_wp2
          go_roundw
          case rel => exact ⟨k, pre, by omega, by go_num, H3.out.1, HE.out, H3.out.2⟩
          case measure => simp [RowKit.intOf]
        · go_simp
          refine hK _ _ ?_
          clear hK K
          try simp only [Act.put, List.setIfInBounds_toArray, List.set_cons_zero, List.set_cons_succ]
          refine wpAnyIn_ready (rs := [0]) (by kernel_rfl) (by simp) ?_
          refine AllReadyIn.cons rfl (fun K hK => ?_) AllReadyIn.nil
          go_simp
          refine hK _ _ ?_
          clear hK K
          try simp only [Act.put, List.setIfInBounds_toArray, List.set_cons_zero, List.set_cons_succ]
          refine wpAnyIn_ready (rs := [5]) (by kernel_rfl) (by simp) ?_
          refine AllReadyIn.cons rfl (fun K hK => ?_) AllReadyIn.nil
          go_simp
          refine ⟨trivial, ?_⟩
          refine (callsIn_wide.2 hsc).mono ?_
          rintro e w3 ⟨rfl, hm3⟩
          refine hK _ _ ?_
          clear hK K
          try simp only [Act.put, List.setIfInBounds_toArray, List.set_cons_zero, List.set_cons_succ]
          refine wpAnyIn_takeD (i := 6) (v := ?_) (some 25) rfl rfl rfl (by kernel_rfl) (by kernel_rfl) (by kernel_rfl) (fun _ _ _ h => h) ⟨Or.inl ⟨by rfl, ?_⟩, fun _ => rfl⟩ ?_
          rotate_left
          · intro w
            go_simp
            try with_reducible rfl
          simp only [Act.put, List.setIfInBounds_toArray, List.set_cons_zero, List.set_cons_succ]
          refine wpAnyIn_takeD (i := 7) (v := undef) (some 26) rfl rfl rfl (by kernel_rfl) (by kernel_rfl) (by kernel_rfl) (fun _ _ _ h => h) ⟨Or.inr ⟨by rfl, rfl⟩, fun _ => rfl⟩ ?_
          simp only [Act.put, List.setIfInBounds_toArray, List.set_cons_zero, List.set_cons_succ]
          refine wpAnyIn_takeD (i := 8) (v := undef) (some 27) rfl rfl rfl (by kernel_rfl) (by kernel_rfl) (by kernel_rfl) (fun _ _ _ h => h) ⟨Or.inr ⟨by rfl, rfl⟩, fun _ => rfl⟩ ?_
          simp only [Act.put, List.setIfInBounds_toArray, List.set_cons_zero, List.set_cons_succ]
          refine wpAnyIn_takeD (i := 9) (v := undef) (some 28) rfl rfl rfl (by kernel_rfl) (by kernel_rfl) (by kernel_rfl) (fun _ _ _ h => h) ⟨Or.inr ⟨by rfl, rfl⟩, fun _ => rfl⟩ ?_
          simp only [Act.put, List.setIfInBounds_toArray, List.set_cons_zero, List.set_cons_succ]
          refine wpAnyIn_takeD (i := 10) (v := undef) (some 29) rfl rfl rfl (by kernel_rfl) (by kernel_rfl) (by kernel_rfl) (fun _ _ _ h => h) ⟨Or.inr ⟨by rfl, rfl⟩, fun _ => rfl⟩ ?_
          simp only [Act.put, List.setIfInBounds_toArray, List.set_cons_zero, List.set_cons_succ]
          refine wpAnyIn_takeD (i := 11) (v := undef) (some 30) rfl rfl rfl (by kernel_rfl) (by kernel_rfl) (by kernel_rfl) (fun _ _ _ h => h) ⟨Or.inr ⟨by rfl, rfl⟩, fun _ => rfl⟩ ?_
          simp only [Act.put, List.setIfInBounds_toArray, List.set_cons_zero, List.set_cons_succ]
          refine wpAnyIn_takeD (i := 12) (v := undef) (some 31) rfl rfl rfl (by kernel_rfl) (by kernel_rfl) (by kernel_rfl) (fun _ _ _ h => h) ⟨Or.inr ⟨by rfl, rfl⟩, fun _ => rfl⟩ ?_
          simp only [Act.put, List.setIfInBounds_toArray, List.set_cons_zero, List.set_cons_succ]
          refine wpAnyIn_takeD (i := 13) (v := undef) (some 32) rfl rfl rfl (by kernel_rfl) (by kernel_rfl) (by kernel_rfl) (fun _ _ _ h => h) ⟨Or.inr ⟨by rfl, rfl⟩, fun _ => rfl⟩ ?_
          simp only [Act.put, List.setIfInBounds_toArray, List.set_cons_zero, List.set_cons_succ]
          refine wpAnyIn_takeD (i := 14) (v := ?_) (some 33) rfl rfl rfl (by kernel_rfl) (by kernel_rfl) (by kernel_rfl) (fun _ _ _ h => h) ⟨Or.inl ⟨by rfl, ?_⟩, fun _ => rfl⟩ ?_
          rotate_left
          · intro w
            go_simp
            try with_reducible rfl
          simp only [Act.put, List.setIfInBounds_toArray, List.set_cons_zero, List.set_cons_succ]
          refine wpAnyIn_done (by kernel_rfl) ?_ _
          have H3 := Lib.hid (And.intro (HJ.out _ _ _ _ HJr.out (Mod.grown0 hm3) (fun r e => by cases e)) (HK.out.trans (KpH.of_mod (B2 := B2) hm3 hwsz)))
          clear hsc hm3
          gi_wp2
          go_roundw
          case rel => exact ⟨k, pre, by omega, by go_num, H3.out.1, HE.out, H3.out.2⟩
          case measure => simp [RowKit.intOf]
      | true =>
        rw [hs] at hsc hst1
        obtain ⟨rest, hrest⟩ := tried1_next hq hs
        have hmem : x ∈ tried S := by rw [← hrest, ← hx]; simp
        have hpl : pre.length < (tried S).length := by
          have := congrArg List.length heq
          rw [← hrest, List.length_append, ← this]
          simp
        have HE : Hid ((pre ++ [(⟨x, hmem⟩ : TrOf S)]).map (·.1) = tried1 S k) := by
          show _ = _
          rw [hst1, List.map_append, heq, hx]
          rfl
        have HE2 : Hid ((pre ++ [(⟨x, hmem⟩ : TrOf S)]).map (·.1) ++ rest = tried S) := by
          show _ = _
          refine Eq.trans ?_ hrest
          rw [List.map_append, heq, hx, List.append_assoc]
          rfl
        have HM := Lib.hid (And.intro hmem hpl)
        clear hJr heq hK hq hsm hSr hx hst1 hrg L ha hpl hrest hKd ek
        gi_wp2_with fail
        refine wpIn_region_any (by kernel_rfl) ?_
        change wpAnyIn _ _ _ _ _ _ _ _ _ (World.drew _)
        refine wpAnyIn_takeD (i := 1) (v := ?_) (some 20) rfl rfl rfl (by kernel_rfl) (by kernel_rfl) (by kernel_rfl) (fun _ _ _ h => h) ⟨Or.inl ⟨by rfl, ?_⟩, fun _ => rfl⟩ ?_
        rotate_left
        · intro w
          go_simp
          try with_reducible rfl
        simp only [Act.put, List.setIfInBounds_toArray, List.set_cons_zero, List.set_cons_succ]
        refine wpAnyIn_takeD (i := 2) (v := ?_) (some 21) rfl rfl rfl (by kernel_rfl) (by kernel_rfl) (by kernel_rfl) (fun _ _ _ h => h) ⟨Or.inl ⟨by rfl, ?_⟩, fun _ => rfl⟩ ?_
        rotate_left
        · intro w
          go_simp
          try with_reducible rfl
        simp only [Act.put, List.setIfInBounds_toArray, List.set_cons_zero, List.set_cons_succ]
        refine wpAnyIn_takeD (i := 3) (v := ?_) (some 22) rfl rfl rfl (by kernel_rfl) (by kernel_rfl) (by kernel_rfl) (fun _ _ _ h => h) ⟨Or.inl ⟨by rfl, ?_⟩, fun _ => rfl⟩ ?_
        rotate_left
        · intro w
          go_simp
          try with_reducible rfl
        simp only [Act.put, List.setIfInBounds_toArray, List.set_cons_zero, List.set_cons_succ]
        refine wpAnyIn_ready (rs := [0, 4]) (by kernel_rfl) (by simp) ?_
        refine AllReadyIn.cons rfl (fun K hK => ?_) (AllReadyIn.cons rfl (fun K hK => ?_) AllReadyIn.nil)
        · go_simp
          refine hK _ _ ?_
          clear hK K
          try simp only [Act.put, List.setIfInBounds_toArray, List.set_cons_zero, List.set_cons_succ]
          refine wpAnyIn_ready (rs := [4]) (by kernel_rfl) (by simp) ?_
          refine AllReadyIn.cons rfl (fun K hK => ?_) AllReadyIn.nil
          go_simp
          refine hK _ _ ?_
          clear hK K
          try simp only [Act.put, List.setIfInBounds_toArray, List.set_cons_zero, List.set_cons_succ]
          refine wpAnyIn_ready (rs := [5]) (by kernel_rfl) (by simp) ?_
          refine AllReadyIn.cons rfl (fun K hK => ?_) AllReadyIn.nil
          go_simp
          refine ⟨trivial, ?_⟩
          refine (callsIn_wide.2 hsc).mono ?_
          rintro e w3 ⟨rfl, hm3⟩
          refine hK _ _ ?_
          clear hK K
          try simp only [Act.put, List.setIfInBounds_toArray, List.set_cons_zero, List.set_cons_succ]
          refine wpAnyIn_takeD (i := 6) (v := ?_) (some 25) rfl rfl rfl (by kernel_rfl) (by kernel_rfl) (by kernel_rfl) (fun _ _ _ h => h) ⟨Or.inl ⟨by rfl, ?_⟩, fun _ => rfl⟩ ?_
          rotate_left
          · intro w
            go_simp
            try with_reducible rfl
          simp only [Act.put, List.setIfInBounds_toArray, List.set_cons_zero, List.set_cons_succ]
          have hcg := hm3.cell hcg (fun x => x)
          have hJ3 := HJ.out _ _ _ _ HJr.out (Mod.grown0 hm3) (fun r e => by cases e)
          have HK3 := Lib.hid (HK.out.trans (KpH.of_mod (B2 := B2) hm3 hwsz))
          obtain ⟨fn, tmps, assign, body, hy, hR⟩ := HY.out pre ⟨x, hmem⟩ _ hJ3 HM.out.2
          dsimp only [tenc] at hy
          clear hsc hm3 hJ3
          refine wpAnyIn_takeD (i := 7) (v := ?_) (some 26) rfl rfl rfl (by kernel_rfl) (by kernel_rfl) (by kernel_rfl) (fun _ _ _ h => h) ⟨Or.inl ⟨by rfl, ?_⟩, fun _ => rfl⟩ ?_
          rotate_left
          · intro w
            go_simp
            try with_reducible rfl
          simp only [Act.put, List.setIfInBounds_toArray, List.set_cons_zero, List.set_cons_succ]
          refine wpAnyIn_takeD (i := 8) (v := ?_) (some 27) rfl rfl rfl (by kernel_rfl) (by kernel_rfl) (by kernel_rfl) (fun _ _ _ h => h) ⟨Or.inl ⟨by rfl, ?_⟩, fun _ => rfl⟩ ?_
          rotate_left
          · intro w
            go_simp
            try with_reducible rfl
          simp only [Act.put, List.setIfInBounds_toArray, List.set_cons_zero, List.set_cons_succ]
          refine wpAnyIn_takeD (i := 9) (v := ?_) (some 28) rfl rfl rfl (by kernel_rfl) (by kernel_rfl) (by kernel_rfl) (fun _ _ _ h => h) ⟨Or.inl ⟨by rfl, ?_⟩, fun _ => rfl⟩ ?_
          rotate_left
          · intro w
            go_simp
            try with_reducible rfl
          simp only [Act.put, List.setIfInBounds_toArray, List.set_cons_zero, List.set_cons_succ]
          refine wpAnyIn_takeD (i := 10) (v := ?_) (some 29) rfl rfl rfl (by kernel_rfl) (by kernel_rfl) (by kernel_rfl) (fun _ _ _ h => h) ⟨Or.inl ⟨by rfl, ?_⟩, fun _ => rfl⟩ ?_
          rotate_left
          · intro w
            go_simp
            try with_reducible rfl
          simp only [Act.put, List.setIfInBounds_toArray, List.set_cons_zero, List.set_cons_succ]
          refine wpAnyIn_ready (rs := [11]) (by kernel_rfl) (by simp) ?_
          refine AllReadyIn.cons rfl (fun K hK => ?_) AllReadyIn.nil
          go_simp
          refine hK _ _ ?_
          clear hK K
          try simp only [Act.put, List.setIfInBounds_toArray, List.set_cons_zero, List.set_cons_succ]
          refine wpAnyIn_ready (rs := [12]) (by kernel_rfl) (by simp) ?_
          refine AllReadyIn.cons rfl (fun K hK => ?_) AllReadyIn.nil
          go_simp
          refine hR.mono ?_
          rintro e W5 (⟨rfl, hJ5, hK5⟩ | ⟨rfl, hx5⟩)
          · have H5 := Lib.hid (And.intro hJ5 (HK3.out.trans hK5))
            clear hJ5 hK5 hR hy
            refine hK _ _ ?_
            clear hK K
            try simp only [Act.put, List.setIfInBounds_toArray, List.set_cons_zero, List.set_cons_succ]
            refine wpAnyIn_takeD (i := 13) (v := ?_) (some 32) rfl rfl rfl (by kernel_rfl) (by kernel_rfl) (by kernel_rfl) (fun _ _ _ h => h) ⟨Or.inl ⟨by rfl, ?_⟩, fun _ => rfl⟩ ?_
            rotate_left
            · intro w
              go_simp
              try with_reducible rfl
            simp only [Act.put, List.setIfInBounds_toArray, List.set_cons_zero, List.set_cons_succ]
            refine wpAnyIn_takeD (i := 14) (v := ?_) (some 33) rfl rfl rfl (by kernel_rfl) (by kernel_rfl) (by kernel_rfl) (fun _ _ _ h => h) ⟨Or.inl ⟨by rfl, ?_⟩, fun _ => rfl⟩ ?_
            rotate_left
            · intro w
              go_simp
              try with_reducible rfl
            simp only [Act.put, List.setIfInBounds_toArray, List.set_cons_zero, List.set_cons_succ]
            refine wpAnyIn_done (by kernel_rfl) ?_ _
            gi_wp2
            go_roundw
            case rel => exact ⟨k, _, by omega, by go_num, H5.out.1, HE.out, H5.out.2⟩
            case measure => simp [RowKit.intOf]
          · have H5 := Lib.hid hx5
            clear hx5 hR hy
            refine hK _ _ ?_
            clear hK K
            try simp only [Act.put, List.setIfInBounds_toArray, List.set_cons_zero, List.set_cons_succ]
            refine wpAnyIn_takeD (i := 13) (v := ?_) (some 32) rfl rfl rfl (by kernel_rfl) (by kernel_rfl) (by kernel_rfl) (fun _ _ _ h => h) ⟨Or.inl ⟨by rfl, ?_⟩, fun _ => rfl⟩ ?_
            rotate_left
            · intro w
              go_simp
              try with_reducible rfl
            simp only [Act.put, List.setIfInBounds_toArray, List.set_cons_zero, List.set_cons_succ]
            refine wpAnyIn_takeD (i := 14) (v := ?_) (some 33) rfl rfl rfl (by kernel_rfl) (by kernel_rfl) (by kernel_rfl) (fun _ _ _ h => h) ⟨Or.inl ⟨by rfl, ?_⟩, fun _ => rfl⟩ ?_
            rotate_left
            · intro w
              go_simp
              try with_reducible rfl
            simp only [Act.put, List.setIfInBounds_toArray, List.set_cons_zero, List.set_cons_succ]
            refine wpAnyIn_done (by kernel_rfl) ?_ _
            gi_wp2
            refine bodyPost_ret (results_none rfl _ _ _) rfl ?_
            refine ⟨⟨_, rfl⟩, .inr ⟨_, ⟨pre.length + 1, ?_⟩, H5.out⟩⟩
            have h := congrArg (List.take (pre.length + 1)) HE2.out
            rw [← h, List.take_append_of_le_length (by simp), List.take_of_length_le (by simp)]
        · go_simp
          refine hK _ _ ?_
          clear hK K
          try simp only [Act.put, List.setIfInBounds_toArray, List.set_cons_zero, List.set_cons_succ]
          refine wpAnyIn_ready (rs := [0]) (by kernel_rfl) (by simp) ?_
          refine AllReadyIn.cons rfl (fun K hK => ?_) AllReadyIn.nil
          go_simp
          refine hK _ _ ?_
          clear hK K
          try simp only [Act.put, List.setIfInBounds_toArray, List.set_cons_zero, List.set_cons_succ]
          refine wpAnyIn_ready (rs := [5]) (by kernel_rfl) (by simp) ?_
          refine AllReadyIn.cons rfl (fun K hK => ?_) AllReadyIn.nil
          go_simp
          refine ⟨trivial, ?_⟩
          refine (callsIn_wide.2 hsc).mono ?_
          rintro e w3 ⟨rfl, hm3⟩
          refine hK _ _ ?_
          clear hK K
          try simp only [Act.put, List.setIfInBounds_toArray, List.set_cons_zero, List.set_cons_succ]
          refine wpAnyIn_takeD (i := 6) (v := ?_) (some 25) rfl rfl rfl (by kernel_rfl) (by kernel_rfl) (by kernel_rfl) (fun _ _ _ h => h) ⟨Or.inl ⟨by rfl, ?_⟩, fun _ => rfl⟩ ?_
          rotate_left
          · intro w
            go_simp
            try with_reducible rfl
          simp only [Act.put, List.setIfInBounds_toArray, List.set_cons_zero, List.set_cons_succ]
          have hcg := hm3.cell hcg (fun x => x)
          have hJ3 := HJ.out _ _ _ _ HJr.out (Mod.grown0 hm3) (fun r e => by cases e)
          have HK3 := Lib.hid (HK.out.trans (KpH.of_mod (B2 := B2) hm3 hwsz))
          obtain ⟨fn, tmps, assign, body, hy, hR⟩ := HY.out pre ⟨x, hmem⟩ _ hJ3 HM.out.2
          dsimp only [tenc] at hy
          clear hsc hm3 hJ3
          refine wpAnyIn_takeD (i := 7) (v := ?_) (some 26) rfl rfl rfl (by kernel_rfl) (by kernel_rfl) (by kernel_rfl) (fun _ _ _ h => h) ⟨Or.inl ⟨by rfl, ?_⟩, fun _ => rfl⟩ ?_
          rotate_left
          · intro w
            go_simp
            try with_reducible rfl
          simp only [Act.put, List.setIfInBounds_toArray, List.set_cons_zero, List.set_cons_succ]
          refine wpAnyIn_takeD (i := 8) (v := ?_) (some 27) rfl rfl rfl (by kernel_rfl) (by kernel_rfl) (by kernel_rfl) (fun _ _ _ h => h) ⟨Or.inl ⟨by rfl, ?_⟩, fun _ => rfl⟩ ?_
          rotate_left
          · intro w
            go_simp
            try with_reducible rfl
          simp only [Act.put, List.setIfInBounds_toArray, List.set_cons_zero, List.set_cons_succ]
          refine wpAnyIn_takeD (i := 9) (v := ?_) (some 28) rfl rfl rfl (by kernel_rfl) (by kernel_rfl) (by kernel_rfl) (fun _ _ _ h => h) ⟨Or.inl ⟨by rfl, ?_⟩, fun _ => rfl⟩ ?_
          rotate_left
          · intro w
            go_simp
            try with_reducible rfl
          simp only [Act.put, List.setIfInBounds_toArray, List.set_cons_zero, List.set_cons_succ]
          refine wpAnyIn_takeD (i := 10) (v := ?_) (some 29) rfl rfl rfl (by kernel_rfl) (by kernel_rfl) (by kernel_rfl) (fun _ _ _ h => h) ⟨Or.inl ⟨by rfl, ?_⟩, fun _ => rfl⟩ ?_
          rotate_left
          · intro w
            go_simp
            try with_reducible rfl
          simp only [Act.put, List.setIfInBounds_toArray, List.set_cons_zero, List.set_cons_succ]
          refine wpAnyIn_ready (rs := [11]) (by kernel_rfl) (by simp) ?_
          refine AllReadyIn.cons rfl (fun K hK => ?_) AllReadyIn.nil
          go_simp
          refine hK _ _ ?_
          clear hK K
          try simp only [Act.put, List.setIfInBounds_toArray, List.set_cons_zero, List.set_cons_succ]
          refine wpAnyIn_ready (rs := [12]) (by kernel_rfl) (by simp) ?_
          refine AllReadyIn.cons rfl (fun K hK => ?_) AllReadyIn.nil
          go_simp
          refine hR.mono ?_
          rintro e W5 (⟨rfl, hJ5, hK5⟩ | ⟨rfl, hx5⟩)
          · have H5 := Lib.hid (And.intro hJ5 (HK3.out.trans hK5))
            clear hJ5 hK5 hR hy
            refine hK _ _ ?_
            clear hK K
            try simp only [Act.put, List.setIfInBounds_toArray, List.set_cons_zero, List.set_cons_succ]
            refine wpAnyIn_takeD (i := 13) (v := ?_) (some 32) rfl rfl rfl (by kernel_rfl) (by kernel_rfl) (by kernel_rfl) (fun _ _ _ h => h) ⟨Or.inl ⟨by rfl, ?_⟩, fun _ => rfl⟩ ?_
            rotate_left
            · intro w
              go_simp
              try with_reducible rfl
            simp only [Act.put, List.setIfInBounds_toArray, List.set_cons_zero, List.set_cons_succ]
            refine wpAnyIn_takeD (i := 14) (v := ?_) (some 33) rfl rfl rfl (by kernel_rfl) (by kernel_rfl) (by kernel_rfl) (fun _ _ _ h => h) ⟨Or.inl ⟨by rfl, ?_⟩, fun _ => rfl⟩ ?_
            rotate_left
            · intro w
              go_simp
              try with_reducible rfl
            simp only [Act.put, List.setIfInBounds_toArray, List.set_cons_zero, List.set_cons_succ]
            refine wpAnyIn_done (by kernel_rfl) ?_ _
            gi_wp2
            go_roundw
            case rel => exact ⟨k, _, by omega, by go_num, H5.out.1, HE.out, H5.out.2⟩
            case measure => simp [RowKit.intOf]
          · have H5 := Lib.hid hx5
            clear hx5 hR hy
            refine hK _ _ ?_
            clear hK K
            try simp only [Act.put, List.setIfInBounds_toArray, List.set_cons_zero, List.set_cons_succ]
            refine wpAnyIn_takeD (i := 13) (v := ?_) (some 32) rfl rfl rfl (by kernel_rfl) (by kernel_rfl) (by kernel_rfl) (fun _ _ _ h => h) ⟨Or.inl ⟨by rfl, ?_⟩, fun _ => rfl⟩ ?_
            rotate_left
            · intro w
              go_simp
              try with_reducible rfl
            simp only [Act.put, List.setIfInBounds_toArray, List.set_cons_zero, List.set_cons_succ]
            refine wpAnyIn_takeD (i := 14) (v := ?_) (some 33) rfl rfl rfl (by kernel_rfl) (by kernel_rfl) (by kernel_rfl) (fun _ _ _ h => h) ⟨Or.inl ⟨by rfl, ?_⟩, fun _ => rfl⟩ ?_
            rotate_left
            · intro w
              go_simp
              try with_reducible rfl
            simp only [Act.put, List.setIfInBounds_toArray, List.set_cons_zero, List.set_cons_succ]
            refine wpAnyIn_done (by kernel_rfl) ?_ _
            gi_wp2
            refine bodyPost_ret (results_none rfl _ _ _) rfl ?_
            refine ⟨⟨_, rfl⟩, .inr ⟨_, ⟨pre.length + 1, ?_⟩, H5.out⟩⟩
            have h := congrArg (List.take (pre.length + 1)) HE2.out
            rw [← h, List.take_append_of_le_length (by simp), List.take_of_length_le (by simp)]
end
end Go.Proofs.YtmdnofojecncgaaGreatDoor

namespace Go.Proofs.YtmdnofojecncgaaGreatDoor
open Go Go.RowKit Go.Shelf

attribute [local go_sem] Oper.semAt_some

variable {F F0 : Nat → Prop} {w0 w : World} {Ps : List Res}

section
variable {b s hp t : Nat} {m la : Int} {S S' : Slb} {T T' : HTbl} {H H' : List Ent} {R R' : List Rc}
abbrev StepPs (b : Nat) (m la : Int) (s hp t : Nat) (S : Slb) (T : HTbl) (cb B : Nat) (c : Bool) : List Res :=
  [stAt b m la s hp t, slabR s S, hpAt hp s, tabR t T, cellsAt B #[.pointer (some ⟨cb, 0, none⟩)] 25, cellsAt (B + 1) #[.bool c] 4, cellsAt (B + 1 + 1) #[.int .i64 0] 40]
theorem celly_step {Bn : Nat} (hB : s ≤ Bn) (cb B : Nat) (c : Bool) : ∀ R ∈ StepPs b m la s hp t S T cb B c, Celly Bn R := fun R hR => by
  simp only [List.mem_cons, List.not_mem_nil, or_false] at hR
  rcases hR with rfl | rfl | rfl | rfl | rfl | rfl | rfl
  · exact celly_cells _ _ _ _
  · exact celly_slab hB S
  · exact celly_cells _ _ _ _
  · exact celly_tab _ _ _
  · exact celly_cells _ _ _ _
  · exact celly_cells _ _ _ _
  · exact celly_cells _ _ _ _
theorem SepN.after {B : Nat} (h : SepN B F0 w0 w Ps) : ∃ F3, Sep F3 w w Ps ∧ ∀ w' Ps', Sep F3 w w' Ps' → Sep F0 w0 w' Ps' ∧ KeepsFrom B w w' := by
  obtain ⟨F, hF, hm, hs⟩ := h
  refine ⟨F, hs, fun w' Ps' h' => ?_⟩
  obtain ⟨hm', Fs, h1, h2⟩ := h'
  refine ⟨⟨hm.trans (hm'.mono fun k _ hk => (hF k hk).1), Fs, fun i R hi => ⟨(h1 i R hi).1, fun k hk => ?_⟩, h2⟩, hm'.size, fun k o hB ho hc => ?_⟩
  · rcases (h1 i R hi).2 k hk with h | h
    · exact (hF k h).1
    · exact .inr (Nat.le_trans hm.size h)
  · rw [hm'.block k (Array.getElem?_eq_some_iff.1 ho).1 (fun hk => ?_)]
    · exact ho
    · rcases (hF k hk).2 with h | ⟨o', ho', hc'⟩
      · omega
      · rw [ho] at ho'
        cases ho'
        rw [hc] at hc'
        cases hc'
theorem SepN.put {B : Nat} (h : SepN B F0 w0 w Ps) (hB : w0.heap.size ≤ B) {D : Nat} (hD : B ≤ D) {o : Obj} (hK : w.heap[D]? = some o) (ho : o.isCells = false) (o' : Obj) : SepN B F0 w0 (w.putObj D o') Ps :=
  SepN.own (β := Unit) hB (fun _ => Ps) () w _ (some D) h (grownBy_putObj' w D o') (fun r e => by cases e; exact ⟨hD, o, hK, ho⟩)

set_option maxRecDepth 100000 in
set_option maxHeartbeats 4000000 in
theorem cstep_in (h : Sep F w w (stOpen b m la s hp t S T)) {cb : Nat} (hcb : w.cell? ⟨cb, 0, none⟩ = some (.pointer (some ⟨b, 0, none⟩))) (I : StInv S T H R) (hT : Tab64 w) :
    Calls Tryz.prog 25 #[.pointer (some ⟨cb, 0, none⟩)] w fun e w' => ∃ is S' T' H' R', (e = .returned (.tuple #[.bool is, .int .i64 0]) ∧ Stepped S T H R is S' T' H' R') ∧ Sep F w w' (stOpen b m la s hp t S' T') := by
  have hslt : s < w.heap.size := by
    obtain ⟨_, _, hM, _⟩ := h.sGet 1 rfl
    exact lt_of_at hM.box
  have hm0 : Mod No w (((w.alloc (.cells #[.pointer (some ⟨cb, 0, none⟩)] 25)).alloc (.cells #[.bool false] 4)).alloc (.cells #[.int .i64 0] 40)) := (((Mod.refl No w).alloc _).alloc _).alloc _
  have hPs := ((h.pushCells #[.pointer (some ⟨cb, 0, none⟩)] 25).pushCells #[.bool false] 4).pushCells #[.int .i64 0] 40
  simp only [World.size_alloc] at hPs
  obtain ⟨W1, hW1⟩ : ∃ W1, ((w.alloc (.cells #[.pointer (some ⟨cb, 0, none⟩)] 25)).alloc (.cells #[.bool false] 4)).alloc (.cells #[.int .i64 0] 40) = W1 := ⟨_, rfl⟩
  have hW1s : W1.heap.size = w.heap.size + 3 := by rw [← hW1]; simp
  rw [hW1] at hm0 hPs
  have hPs : Sep F w W1 (StepPs b m la s hp t S T cb w.heap.size false) := hPs
  have hcb1 := hm0.cell hcb (fun x => x)
  have hn := cpnone_call hcb1
  have htr := tried_call (some ⟨cb, 0, none⟩) W1
  have hbox := (hPs.cell 4 rfl 0 (v := .pointer (some ⟨cb, 0, none⟩)) rfl).1
  have HPs := Lib.hid hPs
  have HS := Lib.hid h
  have HI := Lib.hid I
  have HT := Lib.hid hT
  have HCB := Lib.hid hcb
  have HM0 := Lib.hid hm0
  clear h I hT hPs hm0 hcb
  refine (callsIn_wide (n := 4)).1 ?_
  refine callsIn_of_wp_marks Tryz.func25 rfl trivial ?_ rfl
  simp only [Tryz.ntmps25, List.size_toArray, List.length_cons, List.length_nil, Nat.reduceAdd, Nat.reduceSub, Array.replicate_succ, Array.replicate_zero, List.push_toArray, List.append_toArray, List.nil_append, List.cons_append]
  gi_wp2_with fail
  refine ⟨trivial, ?_⟩
  refine (callsIn_wide.2 hn).mono ?_
  rintro e w' ⟨rfl, rfl⟩
  clear hn
  gi_wp2_with fail
  refine ⟨trivial, ?_⟩
  refine (callsIn_wide.2 htr).mono ?_
  rintro e W0 ⟨rfl, hW0⟩
  have hm1 : Mod No W1 W0 := hW0 ▸ (Mod.refl No W1).alloc _
  have hbx : W0.cell? ⟨w.heap.size + 3, 0, none⟩ = some (.pointer (some ⟨cb, 0, none⟩)) := by
    rw [← hW0, ← hW1s]
    exact cell_at (heap_alloc_new W1 _) 0
  have hW0s : W0.heap.size = w.heap.size + 4 := by rw [← hW0]; simp [hW1s]
  have hm2 := HM0.out.trans' hm1
  have hb0 := hm2.below w.heap.size (Nat.le_refl _) (fun _ _ x => x)
  have hst : SepN W0.heap.size F w W0 (StepPs b m la s hp t S T cb w.heap.size false) := SepN.of (HPs.out.more hm1) (celly_step (by omega) _ _ _)
  rw [hW1s]
  clear htr hbox hcb1 hW0 hW1 hm1 HPs HM0
  gi_wp2_with fail
  refine wpIn_rangeFunc_ownH rfl (by omega) (gf := 105) (lb := #[.pointer (some ⟨w.heap.size + 3, 0, none⟩)]) rfl trivial (enters_of Tryz.func105 (by kernel_rfl) rfl) (tried_stops HS.out HI.out HCB.out (w.heap.size + 3) (by omega) W0 hb0 hbx 3 (by omega)) KpH.trans (KpH.b (by omega)) (Below.refl _ _) (fun _ => rfl)
    (fun pre W => (∀ x ∈ pre, Rests S R x.1) ∧ Mod No w W ∧ SepN W0.heap.size F w W (StepPs b m la s hp t S T cb w.heap.size false))
    (fun q pre W => ∃ pre' x S' T' H' R', (q = .ret ∧ pre = pre' ++ [x] ∧ (∀ y ∈ pre', Rests S R y.1) ∧ Slides S T H R x.1 true 0 S' T' H' R') ∧ SepN W0.heap.size F w W (StepPs b m la s hp t S' T' cb w.heap.size true))
    (fun p A B row hs hg hr => ⟨hs.1, hs.2.1.grown hg (fun k e => .inr (Nat.le_trans (by omega) (hr k e).1)), SepN.own (β := Unit) (by omega) (fun _ => _) () A B row hs.2.2 hg hr⟩)
    (fun q p A B row hs hg hr => by obtain ⟨p', x, S', T', H', R', h1, h2⟩ := hs; exact ⟨p', x, S', T', H', R', h1, SepN.own (β := Unit) (by omega) (fun _ => _) () A B row h2 hg hr⟩)
    ⟨by simp, hm2, hst⟩
    (fun x a' _ => a' = { tmps := #[.pointer (some ⟨cb, 0, none⟩), .pointer (some ⟨w.heap.size, 0, none⟩), .pointer (some ⟨w.heap.size + 1, 0, none⟩), .pointer (some ⟨w.heap.size + 1 + 1, 0, none⟩), .int .u64 x.1, undef, undef, .pointer (some ⟨cb, 0, none⟩), .bool false, .pointer (some ⟨cb, 0, none⟩),
      .func (.func 105) #[] #[.pointer (some ⟨w.heap.size + 3, 0, none⟩)], .int .u64 x.1, undef, undef, undef, undef, undef, undef, undef, undef, undef, undef], defers := [] })
    (fun _ _ _ _ _ _ hs _ _ => hs) ?assign ?body ?done ?stop
  case assign =>
    rintro l pre x W K hJ hK
    have hK1 := hK _ W (KeepsFrom.refl _ _) (KpH.refl _ _ _) hJ rfl
    clear hK hJ
    gi_wp2
    exact hK1
  case body =>
    rintro l pre x a' W hl ⟨rr, hrr⟩ ⟨hne, hm, hN⟩ rfl hlen
    obtain ⟨⟨j, r, L⟩, x0, x1⟩ := tried_rec HI.out x.2
    obtain ⟨x, hx⟩ := x
    dsimp only at L x0 x1 ⊢
    obtain ⟨F3, hs, back3⟩ := hN.after
    have cbx := (hs.cell 4 rfl 0 (v := .pointer (some ⟨cb, 0, none⟩)) rfl).1
    have ccb := hm.cell HCB.out (fun x => x)
    obtain ⟨tq, S', T', H', D⟩ := HI.out.slideOk L.hj L.h0
    rw [L.he] at D
    obtain ⟨is, his⟩ : ∃ is, ((tq : Int) != r.a) = is := ⟨_, rfl⟩
    rw [his] at D
    rcases D.rests ⟨j, r, L⟩ HI.out with ⟨rfl, hR, -⟩ | ⟨rfl, -⟩
    · have hc := ststay_call (st_shut (HS.out.more hm)) 0 rfl (HT.out.mod hm) HI.out ⟨x0, x1⟩ hR
      have HF := Lib.hid (And.intro (show ∀ y ∈ pre ++ [(⟨x, hx⟩ : TrOf S)], Rests S R y.1 from fun y hy => by
        rcases List.mem_append.1 hy with h | h
        · exact hne y h
        · rw [List.mem_singleton.1 h]; exact hR) (And.intro hm hN))
      clear hne hm hN hs back3 D hlen hrr hR L his
      gi_wp2_with fail
      refine ⟨trivial, ?_⟩
      refine (CallsIn.inRound l (callsIn_wide.2 hc)).mono ?_
      rintro e W2 ⟨rfl, hm2⟩
      have HG := Lib.hid (And.intro ((KeepsOthers.of_mod hm2).from W0.heap.size) (And.intro (KpH.of_mod (B0 := w.heap.size) (B2 := w.heap.size + 3) hm2 HF.out.2.1.size) (And.intro (HF.out.2.1.trans' hm2) (SepN.of (B := W0.heap.size) (HF.out.2.2.sep.more hm2) (celly_step (by omega) _ _ _)))))
      clear hc hm2
      gi_wp2
      exact ⟨HG.out.1, HG.out.2.1, HF.out.1, HG.out.2.2.1, HG.out.2.2.2⟩
    · obtain ⟨F2, h2, back2⟩ := hs.frame [0, 1, 2, 3] (stOpen b m la s hp t S T) (by simp) rfl
      have hc := stslideO_call h2 (HT.out.mod hm) HI.out ⟨x0, x1⟩ D
      have HB : Hid (∀ W2, Sep F2 W W2 (stOpen b m la s hp t S' T') → Sep F w W2 (StepPs b m la s hp t S' T' cb w.heap.size false) ∧ KeepsFrom W0.heap.size W W2) := fun W2 h3 => back3 W2 _ (back2 W2 (stOpen b m la s hp t S' T') (Nat.le_refl _) h3)
      have HD := Lib.hid (And.intro hne D)
      clear hne hm hN hs back3 back2 h2 D hlen hrr L his
      gi_wp2_with fail
      refine ⟨trivial, ?_⟩
      refine (CallsIn.inRound l (callsIn_wide.2 hc)).mono ?_
      rintro e W2 ⟨rfl, h3⟩
      obtain ⟨h4, hk4⟩ := HB.out W2 h3
      have k1 := (h4.cell 5 rfl 0 (v := .bool false) rfl).1
      have f1 := (h4.cell 5 rfl 0 (v := .bool false) rfl).2
      have h5 := h4.set 5 rfl 0 (.bool true)
      have k2 := (h5.cell 6 rfl 0 (v := .int .i64 0) rfl).1
      have f2 := (h5.cell 6 rfl 0 (v := .int .i64 0) rfl).2
      have h6 : Sep F w ((W2.setCell ⟨w.heap.size + 1, 0, none⟩ (.bool true)).setCell ⟨w.heap.size + 1 + 1, 0, none⟩ (.int .i64 0)) (StepPs b m la s hp t S' T' cb w.heap.size true) := h5.set 6 rfl 0 (.int .i64 0)
      have HG := Lib.hid (And.intro (hk4.trans (((KeepsOthers.setCell W2 ⟨w.heap.size + 1, 0, none⟩ (.bool true)).trans (KeepsOthers.setCell _ ⟨w.heap.size + 1 + 1, 0, none⟩ (.int .i64 0))).from W0.heap.size)) (SepN.of (B := W0.heap.size) h6 (celly_step (by omega) _ _ _)))
      clear hc h3 h4 h5 h6 hk4 HB cbx ccb
      gi_wp2
      exact ⟨HG.out.1, pre, ⟨x, hx⟩, S', T', H', _, ⟨rfl, rfl, HD.out.1, HD.out.2⟩, HG.out.2⟩
  case done =>
    rintro D xs W hD hxs ⟨hne, hm, hN⟩ hK
    have hS : Stepped S T H R false S T H R := .done (fun x hx => by
      rw [← hxs] at hx
      obtain ⟨y, hy, rfl⟩ := List.mem_map.1 hx
      exact hne y hy) HI.out
    have h4 := hN.sep
    have k1 := (h4.cell 5 rfl 0 (v := .bool false) rfl).1
    have f1 := (h4.cell 5 rfl 0 (v := .bool false) rfl).2
    have h5 := h4.set 5 rfl 0 (.bool false)
    have k2 := (h5.cell 6 rfl 0 (v := .int .i64 0) rfl).1
    have f2 := (h5.cell 6 rfl 0 (v := .int .i64 0) rfl).2
    have h6 : Sep F w ((W.setCell ⟨w.heap.size + 1, 0, none⟩ (.bool false)).setCell ⟨w.heap.size + 1 + 1, 0, none⟩ (.int .i64 0)) (StepPs b m la s hp t S T cb w.heap.size false) := h5.set 6 rfl 0 (.int .i64 0)
    have hK2 : ((W.setCell ⟨w.heap.size + 1, 0, none⟩ (.bool false)).setCell ⟨w.heap.size + 1 + 1, 0, none⟩ (.int .i64 0)).heap[D]? = some (.deferred (some [])) := by
      rw [at_setCell_ne _ _ (show D ≠ w.heap.size + 1 + 1 by omega), at_setCell_ne _ _ (show D ≠ w.heap.size + 1 by omega)]
      exact hK
    have h7 := (SepN.put (SepN.of (B := W0.heap.size) h6 (celly_step (by omega) _ _ _)) (by omega) hD hK2 rfl (.deferred none)).sep
    have q1 := (h7.cell 5 rfl 0 (v := .bool false) rfl).1
    have q2 := (h7.cell 6 rfl 0 (v := .int .i64 0) rfl).1
    have HH := Lib.hid (And.intro hS (And.intro hK2 (Sep.left (Ps := stOpen b m la s hp t S T) (Qs := [_, _, _]) h7)))
    have HQ := Lib.hid (And.intro q1 q2)
    clear hS h4 h5 h6 h7 hK2 q1 q2 hN hne hm hxs hK
    gi_wp2
    refine ⟨by simp, .inl ⟨_, _, rfl, run_takeDeferred HH.out.2.1, ?_⟩⟩
    have q1 := HQ.out.1
    have q2 := HQ.out.2
    refine ⟨.tuple #[.bool false, .int .i64 0], ?_, false, S, T, H, R, ⟨rfl, HH.out.1⟩, HH.out.2.2⟩
    simp [results, Tryz.f25, go_sem, q1, q2]
  case stop =>
    rintro D q pre W hD ⟨k, hk⟩ ⟨pre', x, S', T', H', R', ⟨rfl, rfl, hne, hsl⟩, hN⟩ hK
    have hS : Stepped S T H R true S' T' H' R' := by
      refine .gone (pre'.map (·.1)) ((tried S).drop k) x.1 ?_ (fun y hy => ?_) hsl
      · rw [List.map_append] at hk
        have : (tried S) = (tried S).take k ++ (tried S).drop k := (List.take_append_drop k _).symm
        rw [← hk] at this
        rw [List.append_assoc] at this
        exact this
      · obtain ⟨z, hz, rfl⟩ := List.mem_map.1 hy
        exact hne z hz
    have h7 := (SepN.put hN (by omega) hD hK rfl (.deferred none)).sep
    have q1 := (h7.cell 5 rfl 0 (v := .bool true) rfl).1
    have q2 := (h7.cell 6 rfl 0 (v := .int .i64 0) rfl).1
    have HH := Lib.hid (And.intro hS (Sep.left (Ps := stOpen b m la s hp t S' T') (Qs := [_, _, _]) h7))
    clear hS h7 hN hne hk hsl
    gi_wp2
    refine ⟨by simp, .inl ⟨_, _, rfl, run_takeDeferred hK, ?_⟩⟩
    refine ⟨.tuple #[.bool true, .int .i64 0], ?_, true, S', T', H', R', ⟨rfl, HH.out.1⟩, HH.out.2⟩
    simp [results, Tryz.f25, go_sem, q1, q2]
end
end Go.Proofs.YtmdnofojecncgaaGreatDoor

namespace Go.Proofs.YtmdnofojecncgaaGreatDoor
open Go Go.RowKit

variable {F F0 : Nat → Prop} {w0 w : World} {Ps : List Res}

theorem HTbl.at_zeroC (T : HTbl) : T.at' 0 = (0, 7) := by
  have : T.okB 0 = false := by simp [HTbl.okB, HTbl.place]
  unfold HTbl.at'
  rw [this]
  rfl


/-- A compactor of a store. -/
abbrev cpR (cb b : Nat) : Res := cellsAt cb #[.pointer (some ⟨b, 0, none⟩)] 140

section
variable {b : Nat} {m la : Int} {S S' : Slb} {T T' : HTbl} {H H' : List Ent} {R R' : List Rc}
theorem cnew_call (h : Sep F0 w0 w Ps) (i : Nat) (hi : Ps[i]? = some (stR b m la S T)) (I : StInv S T H R) :
    Calls Tryz.prog 41 #[.pointer (some ⟨b, 0, none⟩)] w fun e w' => ∃ cb : Nat, e = .returned (.tuple #[.pointer (some ⟨cb, 0, none⟩), .int .i64 0]) ∧ Sep F0 w0 w' (Ps ++ [cpR cb b]) := by
  have hl := stlen_call h i hi I (hh := 0) (by omega) (.stale T.at_zeroC)
  have HP := Lib.hid (h.pushCells #[.pointer (some ⟨b, 0, none⟩)] 140)
  clear h hi I
  go_enter Tryz.func41, Tryz.ntmps41
  go_wp2_with fail
  refine hl.mono ?_
  rintro e w' ⟨rfl, rfl⟩
  clear hl
  go_wp2
  go_ret2
  exact ⟨_, rfl, HP.out⟩

theorem cstep_call (h : Sep F0 w0 w Ps) (i k : Nat) (hi : Ps[i]? = some (stR b m la S T)) {cb : Nat} (hk : Ps[k]? = some (cpR cb b)) (I : StInv S T H R) (hT : Tab64 w) :
    Calls Tryz.prog 25 #[.pointer (some ⟨cb, 0, none⟩)] w fun e w' => ∃ is S' T' H' R', (e = .returned (.tuple #[.bool is, .int .i64 0]) ∧ Stepped S T H R is S' T' H' R') ∧ Sep F0 w0 w' (Ps.set i (stR b m la S' T')) := by
  have hcb := (h.cell k hk 0 (v := .pointer (some ⟨b, 0, none⟩)) rfl).1
  obtain ⟨F, h1, back⟩ := h.frame [i] [stR b m la S T] (by simp) (by simp [hi])
  obtain ⟨s, hp, t, h2⟩ := st_open h1
  refine (cstep_in h2 hcb I hT).mono ?_
  rintro e w' ⟨is, S', T', H', R', hd, h3⟩
  have h4 := back w' [stR b m la S' T'] (Nat.le_refl _) (st_shut h3)
  exact ⟨is, S', T', H', R', hd, by simpa [setAt] using h4⟩

def RunRel (w0 : World) (Ps : List Res) (i b : Nat) (m la : Int) (S : Slb) (T : HTbl) (H : List Ent) (R : List Rc) (n : Nat) (wr : World) : Prop :=
  ∃ (S' : Slb) (T' : HTbl) (H' : List Ent) (R' : List Rc), Steps S T H R n S' T' H' R' ∧ Sep No w0 wr (Ps.set i (stR b m la S' T'))

set_option maxRecDepth 100000 in
set_option maxHeartbeats 2000000 in
theorem crun_call (h : Sep No w0 w Ps) (i k : Nat) (hik : i ≠ k) (hi : Ps[i]? = some (stR b m la S T)) {cb : Nat} (hk : Ps[k]? = some (cpR cb b)) (I : StInv S T H R) (hT : Tab64 w0) (K : Nat) (hK : K ≤ 1000000) :
    Calls Tryz.prog 13 #[.pointer (some ⟨cb, 0, none⟩), .int .i64 (K : Nat)] w fun e w' => ∃ n d S' T' H' R', (e = .returned (.tuple #[.int .i64 ((n : Nat) : Int), .bool d, .int .i64 0]) ∧ Ran S T H R K n d S' T' H' R') ∧ Sep No w0 w' (Ps.set i (stR b m la S' T')) := by
  have hil := (List.getElem?_eq_some_iff.1 hi).1
  have hcb := (h.cell k hk 0 (v := .pointer (some ⟨b, 0, none⟩)) rfl).1
  have hn := cpnone_call hcb
  have hst : Hid (RunRel w0 Ps i b m la S T H R 0 w) := ⟨S, T, H, R, .zero I, by rw [setSame hi]; exact h⟩
  have HP : Hid (∀ X : Res, (Ps.set i X)[i]? = some X ∧ (Ps.set i X)[k]? = some (cpR cb b)) := fun X => ⟨List.getElem?_set_self hil, by rw [List.getElem?_set_ne hik]; exact hk⟩
  have HT := Lib.hid hT
  have dK : decide ((K : Int) < 0) = false := ltF (by omega)
  clear h hi hk I hT hcb hil
  go_enter Tryz.func13, Tryz.ntmps13
  go_wp2_with fail
  refine hn.mono ?_
  rintro e w' ⟨rfl, rfl⟩
  clear hn
  go_wp2_with fail
  go_loopw [7] (fun nv wr => ∃ n : Nat, nv = .int .i64 n ∧ n ≤ K ∧ RunRel w0 Ps i b m la S T H R n wr) (fun nv _ => K - (RowKit.intOf nv).toNat)
  case atStart => exact ⟨0, rfl, Nat.zero_le _, hst.out⟩
  case round =>
    obtain ⟨n, rfl, hnK, S1, T1, H1, R1, hs, hr⟩ := hrel
    clear hst
    by_cases hlt : n < K
    · have hc := cstep_call hr i k (HP.out _).1 (HP.out _).2 hs.inv (HT.out.mod hr.mod)
      have hlti : (n : Int) < (K : Int) := by omega
      have HS := Lib.hid hs
      clear hs hr
      go_wp2_with fail
      refine hc.mono ?_
      rintro e w2 ⟨is, S2, T2, H2, R2, ⟨rfl, D⟩, h2⟩
      rw [List.set_set] at h2
      have H2' := Lib.hid (And.intro D h2)
      clear hc D h2
      cases is with
      | true =>
        go_wp2
        go_roundw
        case rel => exact ⟨n + 1, by go_num, by omega, S2, T2, H2, R2, .snoc HS.out H2'.out.1, H2'.out.2⟩
        case measure => simp [RowKit.intOf]; omega
      | false =>
        go_wp2
        go_ret3
        obtain ⟨D, h2⟩ := H2'.out
        cases D with
        | done all I => exact ⟨n, true, S1, T1, H1, R1, ⟨rfl, .done hlt HS.out (.done all I)⟩, h2⟩
    · obtain rfl : n = K := by omega
      have HS := Lib.hid (And.intro hs hr)
      clear hs hr hlt
      go_wp2
      go_ret3
      exact ⟨n, false, S1, T1, H1, R1, ⟨rfl, .out HS.out.1⟩, HS.out.2⟩
end
end Go.Proofs.YtmdnofojecncgaaGreatDoor
