/- SlabClaims, walked. No condition. -/
import Derived.Test.YtnkdopaajpbjfaaSlabLawSpec
import Derived.Test.YtnkdopaajpbjfaaSlabNoneWalk
import Derived.Test.YtnkdopaajpbjfaaArgs
namespace Go.Proofs.Ytnkdopaajpbjfaa
open Go Go.RowKit


def ClaimsRel (w : World) (b : Nat) (m : Value) (j : Nat) (wr : World) : Prop := ∃ (k : Nat) (S : Slb), m = .int .i64 k ∧ k ≤ j ∧ S.pg.length = k ∧ S.quota = 262144 ∧ Sep No w wr [slabR b S]

set_option maxRecDepth 100000 in
set_option maxHeartbeats 1000000 in
theorem claims_in (s0 : Option Addr) (len0 cap0 : Nat) (z0 : List (List Int)) (n : Nat) (w : World) (hn : n ≤ 30 ∧ 1 ≤ n) (R : Recs w s0 len0 [some .i64] z0) (hlen : len0 ≤ 30) :
    Calls Try.prog 3 #[.slice s0 len0 cap0, .int .i64 n] w fun e w' => e = .returned (.bool true) ∧ Below w.heap.size w w' := by
  have d30 : decide ((30 : Int) < (len0 : Int)) = false := ltF (by omega)
  have e1 : decide ((n : Int) < 1) = false := ltF (by omega)
  have e2 : decide ((30 : Int) < (n : Int)) = false := ltF (by omega)
  have HR := Lib.hid R
  clear R
  go_enter Try.func3, Try.ntmps3
  go_wp2_with fail
  refine ((Sep.nil w).sNew 262144 (by omega) (by omega)).mono ?_
  rintro e w1 ⟨rfl, h⟩
  have h0 : Sep No w w1 [slabR (w.heap.size + 1) (Slb.empty 262144)] := h
  obtain ⟨b, hb⟩ : ∃ b, w.heap.size + 1 = b := ⟨_, rfl⟩
  rw [hb] at h0 ⊢
  have hst := Lib.hid (show ClaimsRel w b (.int .i64 0) 0 w1 from ⟨0, _, rfl, Nat.le_refl _, rfl, rfl, h0⟩)
  clear h h0 hb
  go_wp2_with fail
  go_loopw [7, 8] (fun m i wr => ∃ j : Nat, i = .int .i64 j ∧ j ≤ len0 ∧ ClaimsRel w b m j wr) (fun _ i _ => len0 - (RowKit.intOf i).toNat)
  case atStart => exact ⟨0, rfl, Nat.zero_le _, hst.out⟩
  case round =>
    obtain ⟨j, rfl, hj, k, S, rfl, hkj, hkl, hq, h⟩ := hrel
    clear hst
    by_cases hlt : j < len0
    · obtain ⟨bb, off, rfl, hb, hc⟩ := HR.out.cells (by omega)
      have hzj : z0[j]? = some (z0[j]'(by rw [HR.out.count]; exact hlt)) := List.getElem?_eq_getElem _
      obtain ⟨hrl, hro⟩ := HR.out.ok _ (List.mem_of_getElem? hzj)
      generalize z0[j]'(by rw [HR.out.count]; exact hlt) = r at *
      match r, hrl with
      | [x], _ =>
      have hx := bounds_i64 (hro 0 _ x rfl rfl)
      have c0 := h.old (hc j _ hzj 0 _ x rfl rfl)
      have HC := Lib.hid (hc j _ hzj 0 _ x rfl rfl)
      simp only [List.length_cons, List.length_nil, Nat.add_zero, Nat.zero_add, Nat.reduceAdd, Nat.mul_one, fv] at c0 HC
      have hi := h.sIs 0 rfl x hx.1 hx.2
      have hS := h.sOk 0 rfl
      clear hc hzj hro hb
      by_cases hbad : x < 0 ∨ 1048575 < x
      · have hcl := h.sClaim 0 rfl x hx.1 hx.2 (Slb.claim_bad hbad)
        generalize S.has x = q at *
        have HX := Lib.hid (And.intro hkj (And.intro hkl hq))
        have hd : decide ((0 : Int) ≤ x) = false ∨ decide ((0 : Int) ≤ x) = true ∧ decide (x ≤ 1048575) = false := by
          rcases hbad with hbad | hbad
          · exact .inl (leF (by omega))
          · exact .inr ⟨leT (by omega), leF (by omega)⟩
        clear h hS hbad hkj hkl hq
        go_wp2_with fail
        refine hi.mono ?_
        rintro e w2 ⟨rfl, rfl⟩
        clear hi
        go_wp2_with fail
        refine hcl.mono ?_
        rintro e w2 ⟨rfl, h2⟩
        have h2 : Sep No w w2 [slabR b S] := h2
        have c0 := h2.old HC.out
        have H := Lib.hid h2
        clear hcl h2
        rcases hd with d1 | ⟨d1, d2⟩
        · go_wp2
          go_roundw
          case rel => exact ⟨j + 1, by go_num, by omega, k, S, rfl, by have := HX.out.1; omega, HX.out.2.1, HX.out.2.2, H.out⟩
          case measure => simp [RowKit.intOf]; omega
        · go_wp2
          go_roundw
          case rel => exact ⟨j + 1, by go_num, by omega, k, S, rfl, by have := HX.out.1; omega, HX.out.2.1, HX.out.2.2, H.out⟩
          case measure => simp [RowKit.intOf]; omega
      have d1 : decide ((0 : Int) ≤ x) = true := leT (by omega)
      have d2 : decide (x ≤ 1048575) = true := leT (by omega)
      have HX := Lib.hid (And.intro hkj (And.intro hkl hq))
      cases hh : S.has x with
      | true =>
        have hcl := h.sClaim 0 rfl x hx.1 hx.2 (Slb.claim_has (by omega) (by omega) hh)
        rw [hh] at hi
        clear h hS hbad hkj hkl hq hh
        go_wp2_with fail
        refine hi.mono ?_
        rintro e w2 ⟨rfl, rfl⟩
        clear hi
        go_wp2_with fail
        refine hcl.mono ?_
        rintro e w2 ⟨rfl, h2⟩
        have h2 : Sep No w w2 [slabR b S] := h2
        have c0 := h2.old HC.out
        have H := Lib.hid h2
        clear hcl h2
        go_wp2
        go_roundw
        case rel => exact ⟨j + 1, by go_num, by omega, k, S, rfl, by have := HX.out.1; omega, HX.out.2.1, HX.out.2.2, H.out⟩
        case measure => simp [RowKit.intOf]; omega
      | false =>
        obtain ⟨S1, r1, l1, q1, r2, r3⟩ := Slb.claim_new hS (x := x) (by omega) (by omega) hh (by omega)
        have hcl := h.sClaim 0 rfl x hx.1 hx.2 r1
        rw [hh] at hi
        have HS := Lib.hid (And.intro l1 (And.intro q1 (And.intro r2 r3)))
        have b1 : (0 : Int) ≤ x ∧ x ≤ 1048575 := by omega
        have b2 : k ≤ 30 := by omega
        clear h hS hbad hkj hkl hq hh r1 l1 q1 r2 r3
        go_wp2_with fail
        refine hi.mono ?_
        rintro e w2 ⟨rfl, rfl⟩
        clear hi
        go_wp2_with fail
        refine hcl.mono ?_
        rintro e w2 ⟨rfl, h2⟩
        have h2 : Sep No w w2 [slabR b S1] := h2
        have c0 := h2.old HC.out
        have hr := h2.sRead 0 rfl (x * 64 + 63) HS.out.2.2.1
        have hw := h2.sWrite 0 rfl (x * 64) (k + 1) (by omega) (by omega) (Slb.write_in HS.out.2.2.2)
        clear hcl h2
        go_wp2_with fail
        go_wp2_with fail
        refine hr.mono ?_
        rintro e w3 ⟨rfl, rfl⟩
        clear hr
        go_wp2_with fail
        refine hw.mono ?_
        rintro e w3 ⟨rfl, h3⟩
        have H := Lib.hid h3
        clear hw h3
        go_wp2
        go_roundw
        case rel => exact ⟨j + 1, by go_num, by omega, k + 1, _, by go_num, by have := HX.out.1; omega, by rw [← HX.out.2.1]; exact HS.out.1, by rw [← HX.out.2.2]; exact HS.out.2.1, H.out⟩
        case measure => simp [RowKit.intOf]; omega
    · have hje : j = len0 := by omega
      subst hje
      have hS := h.sOk 0 rfl
      have hmul : n * S.pg.length ≤ 30 * 30 := Nat.mul_le_mul hn.1 (by omega)
      obtain ⟨S1, r1, l1, q1, r2⟩ := Slb.grant_new hS (n := n) (by omega) (by omega) (by omega) (by omega)
      have hg := h.sGrant 0 rfl n r1
      have hle := (Slb.least_spec S.pg n hn.2).1
      generalize Slb.least S.pg n = f at *
      have hf : f ≤ 900 := by omega
      have hlen1 : S1.pg.length = k + n := by omega
      have H2 := Lib.hid (And.intro r2 hlen1)
      clear h hS hmul r1 l1 q1 r2 hle hlen1 HR hkl hq
      go_wp2_with fail
      refine hg.mono ?_
      rintro e w2 ⟨rfl, h2⟩
      have h2 : Sep No w w2 [slabR b S1] := h2
      have H := Lib.hid h2
      clear hg h2
      go_wp2_with fail
      go_loopw [16] (fun i wr => ∃ t : Nat, i = .int .i64 t ∧ f ≤ t ∧ t ≤ f + n ∧ wr = w2) (fun i _ => f + n - (RowKit.intOf i).toNat)
      case atStart => exact ⟨f, rfl, Nat.le_refl _, by omega, rfl⟩
      case round =>
        obtain ⟨t, rfl, ht1, ht2, rfl⟩ := hrel
        by_cases hlt : t < f + n
        · have hx := H2.out.1 (t * 64) (by omega) (by omega)
          have hr := H.out.sRead 0 rfl ((t : Int) * 64) (x := 0) (er := 0) (by
            rw [show ((t : Int) * 64) = ((t * 64 : Nat) : Int) by omega, Slb.read_in hx.1, Int.toNat_natCast, hx.2])
          clear hx
          have hlt' : (t : Int) < (f : Int) + (n : Int) := by omega
          go_wp2_with fail
          go_wp2_with fail
          refine hr.mono ?_
          rintro e w3 ⟨rfl, rfl⟩
          clear hr
          go_wp2
          go_roundw
          case rel => exact ⟨t + 1, by go_num, by omega, by omega, trivial⟩
          case measure => simp [RowKit.intOf]; omega
        · have hte : t = f + n := by omega
          have hlt' : decide ((t : Int) < (f : Int) + (n : Int)) = false := ltF (by omega)
          have hp := H.out.sPages 0 rfl
          clear hte
          go_wp2_with fail
          refine hp.mono ?_
          rintro e w3 ⟨v, rfl, h3⟩
          obtain ⟨sa, cap, rfl⟩ := h3.form 1 rfl
          have hl : (List.map (fun k : Nat => (k : Int)) S1.pg).length = k + n := by rw [List.length_map]; exact H2.out.2
          rw [hl]
          have H3 := Lib.hid h3
          clear hp h3 hl
          go_wp2_with fail
          refine (awake_call _).mono ?_
          rintro e w4 ⟨rfl, hm⟩
          go_wp2
          go_ret
          exact ⟨rfl, (H3.out.more hm).below⟩

set_option maxRecDepth 100000 in
theorem slabClaims_walk (s0 : Option Addr) (len0 cap0 : Nat) (z0 : List (List Int)) (a1 : Int) (w : World) (R : Recs w s0 len0 [some .i64] z0) (_w1 : (Lit.int .i64 a1).wf = true) :
    Calls Try.prog 3 #[.slice s0 len0 cap0, .int .i64 a1] w fun e w' => e = .returned (.bool true) ∧ Below w.heap.size w w' := by
  have ha := (awake_call w).mono (R' := fun e w' => e = .returned (.bool true) ∧ Below w.heap.size w w') fun e w' ⟨he, hm⟩ => ⟨he, hm.below _ (Nat.le_refl _) (fun _ _ x => x)⟩
  by_cases hl : len0 ≤ 30
  · have d30 : decide ((30 : Int) < (len0 : Int)) = false := ltF (by omega)
    by_cases h1 : a1 < 1
    · have d1 : decide (a1 < 1) = true := ltT h1
      clear R h1
      go_enter Try.func3, Try.ntmps3
      go_wp2_with ((with_reducible refine ha.mono ?_); rintro e w' ⟨rfl, hb⟩)
      go_ret
      exact ⟨rfl, hb⟩
    · have d1 : decide (a1 < 1) = false := ltF (by omega)
      by_cases h2 : 30 < a1
      · have d2 : decide (30 < a1) = true := ltT h2
        clear R h1 h2
        go_enter Try.func3, Try.ntmps3
        go_wp2_with ((with_reducible refine ha.mono ?_); rintro e w' ⟨rfl, hb⟩)
        go_ret
        exact ⟨rfl, hb⟩
      · obtain ⟨n, rfl⟩ := Int.eq_ofNat_of_zero_le (show 0 ≤ a1 by omega)
        exact claims_in s0 len0 cap0 z0 n w (by omega) R hl
  · have d30 : decide ((30 : Int) < (len0 : Int)) = true := ltT (by omega)
    clear R
    go_enter Try.func3, Try.ntmps3
    go_wp2_with ((with_reducible refine ha.mono ?_); rintro e w' ⟨rfl, hb⟩)
    go_ret
    exact ⟨rfl, hb⟩
end Go.Proofs.Ytnkdopaajpbjfaa
