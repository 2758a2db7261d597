/- Package bnode, walked: fits; slices.All over words. Conditions: a node's slices hold what is said. -/
import Derived.Test.YtfmcddomciicdaaDoorBnodeWalk
set_option linter.unusedVariables false
set_option linter.unusedSimpArgs false
set_option maxRecDepth 100000
namespace Go.Proofs.YtfmcddomciicdaaDoor
open Go Go.RowKit

variable {F0 : Nat → Prop} {w0 w : World} {Ps : List Res}


set_option maxHeartbeats 2000000 in
theorem fits_call {sk sv sc : Option Addr} {ck cv cc : Nat} {x : Nd} (h : HasR w sc x.kids) (lk : x.keys.length ≤ maxLen) (lc : x.kids.length ≤ maxLen) (t : Int) :
    Calls Tryd.prog 68 #[.int .i64 t, ndV sk ck sv cv sc cc x] w fun e w' => e = .returned (.bool (Nd.fitB t x)) ∧ Mod No w w' := by
  have hm : Mod No w (w.alloc (.cells #[.slice sk x.keys.length ck, .slice sv x.vals.length cv, .slice sc x.kids.length cc, .int .u64 x.size] 73)) := (Mod.refl No w).alloc _
  have hcc := contains_call (c := cc) (n := x.kids.length) rfl lc (h.mod hm) 0
  have hi := is_call t (w.alloc (.cells #[.slice sk x.keys.length ck, .slice sv x.vals.length cv, .slice sc x.kids.length cc, .int .u64 x.size] 73))
  have HM := Lib.hid hm
  have HR : Hid (Nd.degB t = true → 2 ≤ t ∧ t ≤ 16) := fun h => by simpa [Nd.degB] using h
  unfold Nd.fitB Nd.kidsB
  unfold ndV
  obtain ⟨nk, hk⟩ : ∃ n, x.keys.length = n := ⟨_, rfl⟩
  obtain ⟨nv, hv⟩ : ∃ n, x.vals.length = n := ⟨_, rfl⟩
  obtain ⟨nc, hc⟩ : ∃ n, x.kids.length = n := ⟨_, rfl⟩
  rw [hk, hv, hc] at hcc hi HM ⊢
  rw [hk] at lk
  obtain ⟨kz, hkz⟩ : ∃ b, decide ((0 : Int) ∈ x.kids) = b := ⟨_, rfl⟩
  rw [hkz] at hcc ⊢
  obtain ⟨dg, hdg⟩ : ∃ b, Nd.degB t = b := ⟨_, rfl⟩
  rw [hdg] at hi HR ⊢
  obtain ⟨a, ha⟩ : ∃ b, decide ((nk : Int) ≤ 2 * t - 1) = b := ⟨_, rfl⟩
  rw [ha]
  obtain ⟨bq, hb⟩ : ∃ b, (nv == nk) = b := ⟨_, rfl⟩
  rw [hb]
  have hb' : ((nv : Int) == (nk : Int)) = bq := by
    rw [← hb]
    by_cases e : nv = nk
    · rw [beqT (by omega)]; exact (beq_iff_eq.2 e).symm
    · rw [beqF (by omega)]; exact (beq_eq_false_iff_ne.2 e).symm
  have hl : nk ≤ 9223372036854775807 := by unfold maxLen at lk; omega
  have hl2 : nc ≤ 9223372036854775807 := by rw [hc] at lc; unfold maxLen at lc; omega
  obtain ⟨wv, e1⟩ : ∃ v, IntKind.i64.wrap ((nk : Int) + 1) = v := ⟨_, rfl⟩
  have hwv : ((nc : Int) == wv) = (nc == nk + 1) := by
    rw [← e1, IntKind.wrap_i64]
    by_cases e : nc = nk + 1
    · rw [beqT (by omega)]; exact (beq_iff_eq.2 e).symm
    · rw [beqF (by omega)]; exact (beq_eq_false_iff_ne.2 e).symm
  obtain ⟨sz, hsz⟩ : ∃ v, x.size = v := ⟨_, rfl⟩
  rw [hsz] at hcc hi HM ⊢
  clear h lk lc hm hk hv hc hkz hdg hb hsz
  by_cases h1 : nc = 0
  · subst h1
    rw [show (0 == 0) = true from rfl, Bool.true_or]
    clear hcc hwv
    go_enter Tryd.func68, Tryd.ntmps68
    go_wp2_with fail
    cases dg with
    | false =>
      go_wp2_with fail
      refine hi.mono ?_
      rintro e w' ⟨rfl, rfl⟩
      clear hi
      go_wp2
      go_ret
      exact ⟨by simp, HM.out⟩
    | true =>
      have hr := HR.out rfl
      have e2 : IntKind.i64.wrap (2 * t) = 2 * t := by rw [IntKind.wrap_i64]; omega
      have e3 : IntKind.i64.wrap (2 * t - 1) = 2 * t - 1 := by rw [IntKind.wrap_i64]; omega
      cases a with
      | false =>
        go_wp2_with fail
        refine hi.mono ?_
        rintro e w' ⟨rfl, rfl⟩
        clear hi
        go_wp2
        go_ret
        exact ⟨by simp, HM.out⟩
      | true =>
        cases bq with
        | false =>
          go_wp2_with fail
          refine hi.mono ?_
          rintro e w' ⟨rfl, rfl⟩
          clear hi
          go_wp2
          go_ret
          exact ⟨by simp, HM.out⟩
        | true =>
          go_wp2_with fail
          refine hi.mono ?_
          rintro e w' ⟨rfl, rfl⟩
          clear hi
          go_wp2
          go_ret
          exact ⟨by simp, HM.out⟩
  · have a1 : ((nc : Int) == 0) = false := beqF (by omega)
    rw [show (nc == 0) = false by simp [h1], Bool.false_or]
    by_cases h2 : nc = nk + 1
    · have a2 : ((nc : Int) == wv) = true := by rw [hwv]; exact beq_iff_eq.2 h2
      rw [show (nc == nk + 1) = true by simp [h2], Bool.true_and]
      clear h1 h2 hwv
      cases kz with
      | true =>
        go_enter Tryd.func68, Tryd.ntmps68
        go_wp2_with fail
        refine hcc.mono ?_
        rintro e w' ⟨rfl, rfl⟩
        clear hcc
        go_wp2_with fail
        cases dg with
        | false =>
          go_wp2_with fail
          refine hi.mono ?_
          rintro e w' ⟨rfl, rfl⟩
          clear hi
          go_wp2
          go_ret
          exact ⟨by simp, HM.out⟩
        | true =>
          have hr := HR.out rfl
          have e2 : IntKind.i64.wrap (2 * t) = 2 * t := by rw [IntKind.wrap_i64]; omega
          have e3 : IntKind.i64.wrap (2 * t - 1) = 2 * t - 1 := by rw [IntKind.wrap_i64]; omega
          cases a with
          | false =>
            go_wp2_with fail
            refine hi.mono ?_
            rintro e w' ⟨rfl, rfl⟩
            clear hi
            go_wp2
            go_ret
            exact ⟨by simp, HM.out⟩
          | true =>
            cases bq with
            | false =>
              go_wp2_with fail
              refine hi.mono ?_
              rintro e w' ⟨rfl, rfl⟩
              clear hi
              go_wp2
              go_ret
              exact ⟨by simp, HM.out⟩
            | true =>
              go_wp2_with fail
              refine hi.mono ?_
              rintro e w' ⟨rfl, rfl⟩
              clear hi
              go_wp2
              go_ret
              exact ⟨by simp, HM.out⟩
      | false =>
        go_enter Tryd.func68, Tryd.ntmps68
        go_wp2_with fail
        refine hcc.mono ?_
        rintro e w' ⟨rfl, rfl⟩
        clear hcc
        go_wp2_with fail
        cases dg with
        | false =>
          go_wp2_with fail
          refine hi.mono ?_
          rintro e w' ⟨rfl, rfl⟩
          clear hi
          go_wp2
          go_ret
          exact ⟨by simp, HM.out⟩
        | true =>
          have hr := HR.out rfl
          have e2 : IntKind.i64.wrap (2 * t) = 2 * t := by rw [IntKind.wrap_i64]; omega
          have e3 : IntKind.i64.wrap (2 * t - 1) = 2 * t - 1 := by rw [IntKind.wrap_i64]; omega
          cases a with
          | false =>
            go_wp2_with fail
            refine hi.mono ?_
            rintro e w' ⟨rfl, rfl⟩
            clear hi
            go_wp2
            go_ret
            exact ⟨by simp, HM.out⟩
          | true =>
            cases bq with
            | false =>
              go_wp2_with fail
              refine hi.mono ?_
              rintro e w' ⟨rfl, rfl⟩
              clear hi
              go_wp2
              go_ret
              exact ⟨by simp, HM.out⟩
            | true =>
              go_wp2_with fail
              refine hi.mono ?_
              rintro e w' ⟨rfl, rfl⟩
              clear hi
              go_wp2
              go_ret
              exact ⟨by simp, HM.out⟩
    · have a2 : ((nc : Int) == wv) = false := by rw [hwv]; exact beq_eq_false_iff_ne.2 h2
      rw [show (nc == nk + 1) = false by simp [h2], Bool.false_and]
      clear h1 h2 hcc hwv
      go_enter Tryd.func68, Tryd.ntmps68
      go_wp2_with fail
      cases dg with
      | false =>
        go_wp2_with fail
        refine hi.mono ?_
        rintro e w' ⟨rfl, rfl⟩
        clear hi
        go_wp2
        go_ret
        exact ⟨by simp, HM.out⟩
      | true =>
        have hr := HR.out rfl
        have e2 : IntKind.i64.wrap (2 * t) = 2 * t := by rw [IntKind.wrap_i64]; omega
        have e3 : IntKind.i64.wrap (2 * t - 1) = 2 * t - 1 := by rw [IntKind.wrap_i64]; omega
        cases a with
        | false =>
          go_wp2_with fail
          refine hi.mono ?_
          rintro e w' ⟨rfl, rfl⟩
          clear hi
          go_wp2
          go_ret
          exact ⟨by simp, HM.out⟩
        | true =>
          cases bq with
          | false =>
            go_wp2_with fail
            refine hi.mono ?_
            rintro e w' ⟨rfl, rfl⟩
            clear hi
            go_wp2
            go_ret
            exact ⟨by simp, HM.out⟩
          | true =>
            go_wp2_with fail
            refine hi.mono ?_
            rintro e w' ⟨rfl, rfl⟩
            clear hi
            go_wp2
            go_ret
            exact ⟨by simp, HM.out⟩
end Go.Proofs.YtfmcddomciicdaaDoor
