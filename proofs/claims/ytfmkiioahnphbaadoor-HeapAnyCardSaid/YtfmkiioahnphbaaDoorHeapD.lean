/- Package heap, walked: fine. Conditions: the heap's arena is as said. | Package heap, walked: Spare. Conditions: the heap's arena is as said. | Package heap, walked: Audit. Conditions: the heap's arena is as said. | Package heap, walked: heads, at whatever a round keeps of the caller's. Conditions: the heap's arena is as said. | Package heap, walked: Live. Conditions: the heap's arena is as said. | Package heap, walked: New; the calls of no heap. Conditions: the arena is as said, or there is none. -/
import Derived.Test.YtfmkiioahnphbaaDoorHeapPure
import Derived.Maps.AppendAt
import Derived.Maps.OwnIn
set_option linter.unusedVariables false
set_option linter.unusedSimpArgs false
set_option maxRecDepth 100000
namespace Go.Proofs.YtfmkiioahnphbaaDoor
open Go Go.RowKit Go.Shelf

variable {F0 : Nat → Prop} {w0 w : World} {Ps : List Res}

theorem cpages_range (n : Int) : 0 ≤ (cpages n).1 ∧ (cpages n).1 ≤ 63 := by
  unfold cpages
  split
  · exact ⟨Int.le_refl 0, by show (0 : Int) ≤ 63; omega⟩
  · split
    · exact ⟨by show (0 : Int) ≤ 1; omega, by show (1 : Int) ≤ 63; omega⟩
    · constructor <;> (show _ ≤ _; dsimp only; omega)

def HasAll (S : Slb) (p : Nat) (k : Nat) : Prop := ∀ i : Nat, i < k → S.has ((p : Int) + (i : Int)) = true

set_option maxRecDepth 100000 in
set_option maxHeartbeats 1000000 in
theorem hfine_call (h : Sep F0 w0 w Ps) (i j : Nat) {b s : Nat} {S : Slb} (hi : Ps[i]? = some (hpAt b s)) (hj : Ps[j]? = some (slabR s S)) (p : Nat) (p1 : p ≤ 33554432) (kd nn ww : Int) (w0' : 0 ≤ ww) (w1' : ww < 18446744073709551616) :
    Calls Tryd.prog 46 #[.pointer (some ⟨b, 0, none⟩), .int .i64 (p : Nat), .agg #[.int .i64 kd, .int .i64 nn, .int .u64 ww]] w fun e w' => e = .returned (.bool (S.fineB p ⟨kd, nn, ww⟩)) ∧ Mod No w w' := by
  have hm0 : Mod No w (w.alloc (.cells #[.int .i64 kd, .int .i64 nn, .int .u64 ww] 71)) := (Mod.refl No w).alloc _
  have HM0 := Lib.hid hm0
  have HB := Lib.hid (h.alloc (.cells #[.int .i64 kd, .int .i64 nn, .int .u64 ww] 71))
  have hF : S.fineB p ⟨kd, nn, ww⟩ = (decide (ww ≤ 4000) && !(cof ww).2.1 && decide ((cof ww).2.2 = 0) && decide ((cpages ww).1 = nn) && (List.range (cpages ww).1.toNat).all fun k => S.has ((p : Int) + (k : Int))) := rfl
  have HIJ := Lib.hid (And.intro hi hj)
  by_cases h1 : 4000 < ww
  · have e : S.fineB p ⟨kd, nn, ww⟩ = false := by rw [hF, decide_eq_false (by omega)]; rfl
    rw [e]
    have d1 : decide (4000 < ww) = true := ltT h1
    clear h hm0 hF e hi hj HB
    go_enter Tryd.func46, Tryd.ntmps46
    go_wp2
    go_ret
    exact ⟨rfl, HM0.out⟩
  · have d1 : decide (4000 < ww) = false := ltF (by omega)
    have hof := fun W => of_call ww W
    have hpg := fun W => pages_call ww W
    have hpr := cpages_range ww
    rw [decide_eq_true (show ww ≤ 4000 by omega), Bool.true_and] at hF
    obtain ⟨c1, hc1⟩ : ∃ x, (cof ww).1 = x := ⟨_, rfl⟩
    obtain ⟨c2, hc2⟩ : ∃ x, (cof ww).2.1 = x := ⟨_, rfl⟩
    obtain ⟨c3, hc3⟩ : ∃ x, (cof ww).2.2 = x := ⟨_, rfl⟩
    obtain ⟨q2, hq2⟩ : ∃ x, (cpages ww).2 = x := ⟨_, rfl⟩
    obtain ⟨m, hm⟩ : ∃ m : Nat, (cpages ww).1 = m := ⟨(cpages ww).1.toNat, by omega⟩
    have HOF : Hid (∀ W, Calls Tryd.prog 35 #[.int .i64 ww] W fun e w' => e = .returned (.tuple #[.int .i64 c1, .bool c2, .int .i64 c3]) ∧ Mod No W w') := fun W => by have := hof W; rw [hc1, hc2, hc3] at this; exact this
    have HPG : Hid (∀ W, Calls Tryd.prog 36 #[.int .i64 ww] W fun e w' => e = .returned (.tuple #[.int .i64 (m : Nat), .int .i64 q2]) ∧ Mod No W w') := fun W => by have := hpg W; rw [hm, hq2] at this; exact this
    rw [hc2, hc3, hm, Int.toNat_natCast] at hF
    rw [hm] at hpr
    have hm63 : (m : Int) ≤ 63 := hpr.2
    have hm0' : (0 : Int) ≤ (m : Int) := by omega
    have ew : IntKind.i64.wrap ww = ww := wrap_small _ (by omega) (by omega)
    have HF := Lib.hid hF
    clear hof hpg hc1 hc2 hc3 hq2 hm hpr hF hi hj h hm0
    go_enter Tryd.func46, Tryd.ntmps46
    go_wp2_with fail
    have hb0 := cell_at (heap_alloc_new w (.cells #[.int .i64 kd, .int .i64 nn, .int .u64 ww] 71))
    have b1 : (w.alloc (.cells #[.int .i64 kd, .int .i64 nn, .int .u64 ww] 71)).cell? ⟨w.heap.size, 1, none⟩ = some (.int .i64 nn) := by rw [hb0]; rfl
    have b2 : (w.alloc (.cells #[.int .i64 kd, .int .i64 nn, .int .u64 ww] 71)).cell? ⟨w.heap.size, 2, none⟩ = some (.int .u64 ww) := by rw [hb0]; rfl
    clear hb0
    obtain ⟨o, ho⟩ : ∃ o, w.heap.size = o := ⟨_, rfl⟩
    obtain ⟨W0, hW0⟩ : ∃ x, w.alloc (.cells #[.int .i64 kd, .int .i64 nn, .int .u64 ww] 71) = x := ⟨_, rfl⟩
    rw [hW0, ho] at b1 b2
    rw [hW0] at HB HM0 ⊢
    rw [ho]
    clear hW0 ho
    go_wp2_with fail
    refine (HOF.out _).mono ?_
    rintro e w1 ⟨rfl, hm1⟩
    have b1 := hm1.cell b1 (fun x => x)
    have b2 := hm1.cell b2 (fun x => x)
    have HM1 := Lib.hid (HM0.out.trans' hm1)
    have HB1 := Lib.hid (HB.out.more hm1)
    clear hm1 HM0 HB HOF
    go_wp2_with fail
    refine (HPG.out _).mono ?_
    rintro e w2 ⟨rfl, hm2⟩
    have b1 := hm2.cell b1 (fun x => x)
    have HM2 := Lib.hid (HM1.out.trans' hm2)
    have HB2 := Lib.hid (HB1.out.more hm2)
    clear hm2 HM1 HB1 HPG b2
    cases c2 with
    | true =>
      have HR := Lib.hid (show S.fineB p ⟨kd, nn, ww⟩ = false from by rw [HF.out]; rfl)
      clear HF
      go_wp2
      go_ret
      exact ⟨by rw [HR.out]; first | done | rfl, HM2.out⟩
    | false =>
      by_cases h3 : c3 = 0
      · subst h3
        by_cases h4 : (m : Int) = nn
        · subst h4
          have d4 : ((m : Int) != (m : Int)) = false := bneF rfl
          have HF2 := Lib.hid (show S.fineB p ⟨kd, (m : Int), ww⟩ = (List.range m).all fun k => S.has ((p : Int) + (k : Int)) from by rw [HF.out]; simp)
          clear HF
          go_wp2_with fail
          go_loopw [43] (fun iv wr => ∃ k : Nat, k ≤ m ∧ iv = .int .i64 k ∧ Mod No w wr ∧ Sep F0 w0 wr Ps ∧ HasAll S p k) (fun iv _ => m - (RowKit.intOf iv).toNat)
          case atStart => exact ⟨0, Nat.zero_le _, rfl, HM2.out, HB2.out, fun i hi => by omega⟩
          case round =>
            obtain ⟨k, hk, rfl, hmr, hs, hall⟩ := hrel
            clear HM2 HB2
            have HH := Lib.hid (And.intro hmr hs)
            have HA := Lib.hid hall
            by_cases hlt : k < m
            · have hlt' : (k : Int) < (m : Int) := by omega
              have hk0 : (0 : Int) ≤ (k : Int) := by omega
              have hp0 : (0 : Int) ≤ (p : Int) := by omega
              have hp1 : (p : Int) ≤ 33554432 := by omega
              have c0 := (hs.cell i HIJ.out.1 0 (v := .pointer (some ⟨s, 0, none⟩)) rfl).1
              have hc := hs.sIs j HIJ.out.2 ((p : Int) + (k : Int)) (by omega) (by omega)
              clear hmr hs hall
              cases hh : S.has ((p : Int) + (k : Int)) with
              | true =>
                have HQ := Lib.hid (show HasAll S p (k + 1) from fun i hi => by
                  rcases Nat.lt_or_ge i k with h | h
                  · exact HA.out i h
                  · obtain rfl : i = k := by omega
                    exact hh)
                rw [hh] at hc
                clear hh
                go_wp2_with fail
                refine hc.mono ?_
                rintro e w' ⟨rfl, rfl⟩
                clear hc
                go_wp2
                go_roundw
                case rel => exact ⟨k + 1, by omega, by go_num, HH.out.1, HH.out.2, HQ.out⟩
                case measure => simp [RowKit.intOf]; omega
              | false =>
                have HR := Lib.hid (show S.fineB p ⟨kd, (m : Int), ww⟩ = false from by
                  rw [HF2.out, List.all_eq_false]
                  exact ⟨k, List.mem_range.2 hlt, by rw [hh]; decide⟩)
                rw [hh] at hc
                clear hh
                go_wp2_with fail
                refine hc.mono ?_
                rintro e w' ⟨rfl, rfl⟩
                clear hc
                go_wp2
                go_ret
                exact ⟨by rw [HR.out]; first | done | rfl, HH.out.1⟩
            · obtain rfl : k = m := by omega
              have HR := Lib.hid (show S.fineB p ⟨kd, (k : Int), ww⟩ = true from by
                rw [HF2.out, List.all_eq_true]
                exact fun i hi => HA.out i (List.mem_range.1 hi))
              clear hmr hs hall hlt
              go_wp2
              go_ret
              exact ⟨by rw [HR.out]; first | done | rfl, HH.out.1⟩
        · have d4 : ((m : Int) != nn) = true := bneT h4
          have HR := Lib.hid (show S.fineB p ⟨kd, nn, ww⟩ = false from by rw [HF.out, decide_eq_false h4]; simp)
          clear HF h4
          go_wp2
          go_ret
          exact ⟨by rw [HR.out]; first | done | rfl, HM2.out⟩
      · have d3 : (c3 != 0) = true := bneT h3
        have HR := Lib.hid (show S.fineB p ⟨kd, nn, ww⟩ = false from by rw [HF.out, decide_eq_false h3]; simp)
        clear HF h3
        go_wp2
        go_ret
        exact ⟨by rw [HR.out]; first | done | rfl, HM2.out⟩
end Go.Proofs.YtfmkiioahnphbaaDoor

namespace Go.Proofs.YtfmkiioahnphbaaDoor
open Go Go.RowKit Go.Shelf

variable {F0 : Nat → Prop} {w0 w : World} {Ps : List Res}

/-- How many slots of a class are free on a page. -/
def spareF (c : Int) (x : Ent) : Int := if x.2.kind = 1 ∧ x.2.n = c then (cslots c).1 - Bt.count x.2.w.toNat (cslots c).1 else 0
def spareL (c : Int) : List Ent → Int
  | [] => 0
  | x :: L => spareF c x + spareL c L
def Slb.spare (S : Slb) (c : Int) : Int := if (cslots c).2 = 0 then spareL c S.heads else 0
theorem spareL_append (c : Int) (A B : List Ent) : spareL c (A ++ B) = spareL c A + spareL c B := by
  induction A with
  | nil => simp [spareL]
  | cons x A ih => simp only [List.cons_append, spareL, ih]; omega
theorem cslots_range (c : Int) : 0 ≤ (cslots c).1 ∧ (cslots c).1 ≤ 31 := by
  by_cases h : 0 ≤ c ∧ c < 8
  · have hr := csz_range (show c.toNat < 8 by omega)
    rw [cslots_in h.1 h.2]
    dsimp only
    omega
  · rw [cslots_out h]
    exact ⟨Int.le_refl 0, by show (0 : Int) ≤ 31; omega⟩
theorem count_range (N : Nat) {n : Int} (h0 : 0 ≤ n) (h1 : n ≤ 31) : 0 ≤ Bt.count N n ∧ Bt.count N n ≤ n := by
  rw [Bt.count_eq]
  have := Bt.cnt_le N (Bt.cl n)
  have := Bt.cl_of n h0 (by omega)
  omega
theorem spareF_range (c : Int) (x : Ent) : 0 ≤ spareF c x ∧ spareF c x ≤ 31 := by
  have h := cslots_range c
  have h2 := count_range x.2.w.toNat h.1 h.2
  unfold spareF
  split <;> omega
theorem spareL_range (c : Int) : ∀ L : List Ent, 0 ≤ spareL c L ∧ spareL c L ≤ 31 * (L.length : Int)
  | [] => by simp [spareL]
  | x :: L => by
    have h1 := spareF_range c x
    have h2 := spareL_range c L
    simp only [spareL, List.length_cons]
    omega
namespace Slb
theorem hgo_len {S : Slb} : ∀ (L : List Nat) (nx : Int), (S.hgo L nx).length ≤ L.length
  | [], _ => Nat.le_refl _
  | p :: L, nx => by
    unfold hgo
    split
    · have := hgo_len (S := S) L nx; simp; omega
    · have := hgo_len (S := S) L (if (S.hd p).kind = 2 then (p : Int) + (S.hd p).n else nx); simp; omega
theorem heads_len {S : Slb} (h : S.Ok) : S.heads.length ≤ 4096 := by
  have := hgo_len (S := S) S.pg 0
  have := h.fit
  have := h.q1
  unfold heads
  omega
end Slb

theorem cel_ownP {β : Type} (l : β → List (Nat × Value)) : Own (fun (x : β) W => Cel (l x) W) := fun x A B row hs hg hr => cel_own (β := Unit) (l x) () A B row hs hg hr

attribute [local go_sem] Oper.semAt_some

end Go.Proofs.YtfmkiioahnphbaaDoor

namespace Go.Proofs.YtfmkiioahnphbaaDoor
open Go Go.RowKit Go.Shelf

variable {F0 : Nat → Prop} {w0 w : World} {Ps : List Res}

namespace Slb
theorem fineB_n {S : Slb} {p : Nat} {h : Hd} (hf : S.fineB p h = true) : 0 ≤ h.n ∧ h.n ≤ 63 := by
  unfold fineB at hf
  simp only [Bool.and_eq_true, decide_eq_true_eq] at hf
  have := cpages_range h.w
  omega
theorem okB_pg {S : Slb} {x : Ent} (h : S.okB x = true) : 0 ≤ (if x.2.kind = 2 then x.2.n else 1) ∧ (if x.2.kind = 2 then x.2.n else 1) ≤ 63 := by
  by_cases h2 : x.2.kind = 2
  · rw [if_pos h2]
    unfold okB at h
    rw [if_neg (by omega), Bool.and_eq_true] at h
    exact fineB_n h.2
  · rw [if_neg h2]; omega
theorem pgsum_range {S : Slb} : ∀ {L : List Ent}, (∀ x ∈ L, S.okB x = true) → 0 ≤ pgsum L ∧ pgsum L ≤ 63 * (L.length : Int)
  | [], _ => by simp [pgsum]
  | x :: L, h => by
    have h1 := okB_pg (h x (by simp))
    have h2 := pgsum_range (L := L) (fun y hy => h y (by simp [hy]))
    simp only [pgsum, List.length_cons]
    omega
theorem audit_bad {S : Slb} {x : Ent} (hx : x ∈ S.heads) (h : S.okB x = false) : S.audit = 8 := by
  unfold audit
  have : S.heads.all S.okB = false := List.all_eq_false.2 ⟨x, hx, by rw [h]; decide⟩
  rw [this]; rfl
theorem audit_sum {S : Slb} (h : ∀ x ∈ S.heads, S.okB x = true) : S.audit = if pgsum S.heads = S.pg.length then 0 else 8 := by
  unfold audit
  rw [List.all_eq_true.2 h, Bool.true_and]
  by_cases hp : pgsum S.heads = S.pg.length
  · rw [decide_eq_true hp, if_pos hp]; rfl
  · rw [decide_eq_false hp, if_neg hp]; rfl
end Slb

attribute [local go_sem] Oper.semAt_some

theorem pure_ownP {β : Type} (p : β → Prop) : Own (fun (x : β) (_ : World) => p x) := fun _ _ _ _ hs _ _ => hs

/-- A region that never leaves its code: no other way out is asked for. -/
theorem region_only {P : Program} {id : Nat} {ops : Array Oper} {Q : Exit → Act → World → Prop} {a : Act} {w : World} (h : (Code.region id ops true).wp P (fun e a w => match e with | .normal => Q .normal a w | _ => False) a w) : (Code.region id ops true).wp P Q a w :=
  wp_mono h (fun e a w q => by cases e <;> first | exact q | exact q.elim)

/-- What stands in a round. -/
def ASt (b Bx : Nat) (h : Hd) (M : Int) (w W W' : World) : Prop :=
  Cel [(w.heap.size, .pointer (some ⟨b, 0, none⟩)), (w.heap.size + 1, .int .i64 0), (w.heap.size + 1 + 1, .int .i64 M)] W' ∧ Below w.heap.size w W' ∧ KeepsOthers W W' ∧ KpH w.heap.size (w.heap.size + 1 + 1 + 1) W W' ∧ HBox Bx h W'
theorem ASt.mod {b Bx : Nat} {h : Hd} {M : Int} {w W W1 W2 : World} (s : ASt b Bx h M w W W1) (hm : Mod No W1 W2) : ASt b Bx h M w W W2 :=
  ⟨s.1.mod hm, s.2.1.trans (hm.below _ s.2.1.size (fun _ _ x => x)), s.2.2.1.trans (KeepsOthers.of_mod hm), s.2.2.2.1.trans (KpH.of_mod hm s.2.1.size), s.2.2.2.2.kept (Mod.grown0 hm) (fun r e => by cases e)⟩
theorem ASt.set {b Bx : Nat} {h : Hd} {M : Int} {w W W1 : World} (s : ASt b Bx h M w W W1) (hB : w.heap.size + 1 + 1 < Bx) (v : Int) : ASt b Bx h v w W (W1.setCell ⟨w.heap.size + 1 + 1, 0, none⟩ (.int .i64 v)) :=
  ⟨s.1.set 2 rfl (Cel.ne (by simp; omega) rfl) _, s.2.1.setCell (p := ⟨w.heap.size + 1 + 1, 0, none⟩) (by simp; omega) _, s.2.2.1.trans (KeepsOthers.setCell _ _ _), s.2.2.2.1.trans (KpH.set _ _ _ (by omega) (by omega)), s.2.2.2.2.far (by omega) 0 _⟩

set_option maxRecDepth 100000 in
set_option maxHeartbeats 8000000 in
theorem audit_in (hS : Sep F0 w0 w Ps) (i j : Nat) {b s : Nat} {S : Slb} (hi : Ps[i]? = some (hpAt b s)) (hj : Ps[j]? = some (slabR s S)) :
    Calls Tryd.prog 21 #[.pointer (some ⟨b, 0, none⟩)] w fun e w' => e = .returned (.int .i64 S.audit) ∧ Below w.heap.size w w' := by
  have hok := hS.sOk j hj
  have hlen := Slb.heads_len hok
  refine (callsIn_wide (n := 4)).1 ?_
  refine callsIn_of_wp_marks Tryd.func21 rfl trivial ?_ rfl
  simp only [Tryd.ntmps21, List.size_toArray, List.length_cons, List.length_nil, Nat.reduceAdd, Nat.reduceSub, Array.replicate_succ, Array.replicate_zero, List.push_toArray, List.append_toArray, List.nil_append, List.cons_append]
  gi_wp2_with fail
  refine ⟨trivial, ?_⟩
  refine (callsIn_wide.2 (hnone_call ((hS.alloc _).alloc _) i hi)).mono ?_
  rintro e w' ⟨rfl, rfl⟩
  gi_wp2_with fail
  refine ⟨trivial, ?_⟩
  refine (callsIn_wide.2 (heads_call b _)).mono ?_
  rintro e w2 ⟨rfl, rfl⟩
  gi_wp2_with fail
  obtain ⟨W0, hW0⟩ : ∃ x, (((w.alloc (.cells #[.pointer (some ⟨b, 0, none⟩)] 35)).alloc (.cells #[.int .i64 0] 27)).alloc (.cells #[.int .i64 0] 3)).alloc (.cells #[.pointer (some ⟨b, 0, none⟩)] 35) = x := ⟨_, rfl⟩
  have hsz : W0.heap.size = w.heap.size + 4 := by rw [← hW0]; simp
  have hb0 : Below w.heap.size w W0 := by rw [← hW0]; exact ((((Below.refl _ w).alloc (Nat.le_refl _) _).alloc (by simp) _).alloc (by simp <;> omega) _).alloc (by simp <;> omega) _
  have hc0 : Cel [(w.heap.size, .pointer (some ⟨b, 0, none⟩)), (w.heap.size + 1, .int .i64 0), (w.heap.size + 1 + 1, .int .i64 0)] W0 := by
    rw [← hW0]
    exact ((((Cel.nil w).new (.pointer (some ⟨b, 0, none⟩)) 35 rfl).new (.int .i64 0) 27 (by simp)).new (.int .i64 0) 3 (by simp)).alloc _
  have hbx : W0.cell? ⟨w.heap.size + 1 + 1 + 1, 0, none⟩ = some (.pointer (some ⟨b, 0, none⟩)) := by
    rw [← hW0]
    have := cell_at (heap_alloc_new (((w.alloc (.cells #[.pointer (some ⟨b, 0, none⟩)] 35)).alloc (.cells #[.int .i64 0] 27)).alloc (.cells #[.int .i64 0] 3)) (.cells #[.pointer (some ⟨b, 0, none⟩)] 35)) 0
    simp only [World.size_alloc] at this
    exact this
  rw [hW0]
  have hpw : [w.heap.size, w.heap.size + 1, w.heap.size + 1 + 1].Pairwise (· ≠ ·) := by simp; omega
  clear hW0
  have HO := Lib.hid hok
  have HL := Lib.hid hlen
  have HSep := Lib.hid (And.intro hS (And.intro hi hj))
  refine wpIn_rangeFunc_ownH rfl (by omega) (gf := 48) (lb := #[.pointer (some ⟨w.heap.size + 1 + 1 + 1, 0, none⟩)]) rfl trivial (enters_of Tryd.func48 (by kernel_rfl) rfl) (heads_stops hS i j hi hj (w.heap.size + 1 + 1 + 1) (by omega) W0 hb0 hbx 3 (by omega)) KpH.trans (KpH.b (by omega)) (Below.refl _ _) (fun _ => rfl)
    (fun pre W => ((∀ x ∈ pre.map (·.1), S.okB x = true) ∧ Cel [(w.heap.size, .pointer (some ⟨b, 0, none⟩)), (w.heap.size + 1, .int .i64 0), (w.heap.size + 1 + 1, .int .i64 (Slb.pgsum (pre.map (·.1))))] W) ∧ Below w.heap.size w W)
    (fun q pre W => ((∃ pre' x, q = .ret ∧ pre = pre' ++ [x] ∧ S.okB x.1 = false) ∧ ∃ v, Cel [(w.heap.size, .pointer (some ⟨b, 0, none⟩)), (w.heap.size + 1, .int .i64 8), (w.heap.size + 1 + 1, v)] W) ∧ Below w.heap.size w W)
    (OwnFrom.and (Own.from (Own.and' (pure_ownP _) (cel_ownP fun pre : List (HdOf S) => [(w.heap.size, .pointer (some ⟨b, 0, none⟩)), (w.heap.size + 1, .int .i64 0), (w.heap.size + 1 + 1, .int .i64 (Slb.pgsum (pre.map (·.1))))])) _) (ownFrom_below (Nat.le_refl _) (by omega)))
    (fun q => OwnFrom.and (Own.from (fun s A B row hs hg hr => by obtain ⟨h1, v, h2⟩ := hs; exact ⟨h1, v, cel_own (β := Unit) _ () _ _ _ h2 hg hr⟩) _) (ownFrom_below (Nat.le_refl _) (by omega)))
    ⟨⟨by simp, hc0⟩, hb0⟩
    (fun x a' W => ∃ Bx, (w.heap.size + 1 + 1 < Bx ∧ HBox Bx x.1.2 W) ∧ a' = { tmps := #[.pointer (some ⟨b, 0, none⟩), .pointer (some ⟨w.heap.size, 0, none⟩), .pointer (some ⟨w.heap.size + 1, 0, none⟩), .pointer (some ⟨w.heap.size + 1 + 1, 0, none⟩), .int .i64 ((x.1.1 : Nat) : Int), .pointer (some ⟨Bx, 0, none⟩), undef, undef, .pointer (some ⟨b, 0, none⟩), .bool false, .pointer (some ⟨b, 0, none⟩), .func (.func 48) #[] #[.pointer (some ⟨w.heap.size + 1 + 1 + 1, 0, none⟩)], .int .i64 ((x.1.1 : Nat) : Int), .agg #[.int .i64 x.1.2.kind, .int .i64 x.1.2.n, .int .u64 x.1.2.w], undef, undef, undef, undef, undef, undef, undef, undef, undef, undef, undef, undef, undef, undef, undef, undef, undef, undef, undef, undef, undef, undef, undef, undef, undef, undef, undef, undef, undef, undef, undef, undef, undef, undef, undef, undef, undef, undef, undef, undef, undef, undef, undef, undef, undef, undef, undef], defers := [] })
    (fun x a' _ A B row hs hg hr => by obtain ⟨Bx, ⟨h1, h2⟩, h3⟩ := hs; exact ⟨Bx, ⟨h1, h2.kept hg (fun r e => (hr r e).2)⟩, h3⟩) ?assign ?body ?done ?stop
  case assign =>
    rintro l pre x W K ⟨⟨hne, hC⟩, hB⟩ hK
    have hK1 := hK _ (W.alloc (.cells #[.int .i64 x.1.2.kind, .int .i64 x.1.2.n, .int .u64 x.1.2.w] 71)) ((KeepsOthers.alloc _ _).from _) (KpH.of_mod ((Mod.refl No W).alloc _) hB.size) ⟨⟨hne, hC.alloc _⟩, hB.alloc hB.size _⟩ ⟨W.heap.size, ⟨World.block_lt_of_cell? W ⟨w.heap.size + 1 + 1, 0, none⟩ (hC.get 2 rfl).1, HBox.new W _ _⟩, rfl⟩
    clear hK
    gi_wp2
    exact hK1
  case body =>
    rintro l pre x a' W hl ⟨rr, hrr⟩ ⟨⟨hne, hC⟩, hB⟩ ⟨Bx, ⟨hBx, hb⟩, rfl⟩ hlen
    obtain ⟨⟨p, kd, nn, ww⟩, hx⟩ := x
    have hmem := Slb.heads_mem hx
    have hrg := Slb.hd_range HO.out (p : Int)
    rw [← hmem.2] at hrg
    have hps := HO.out.small _ hmem.1
    dsimp only at hb hrg hps ⊢
    obtain ⟨N, rfl⟩ := Int.eq_ofNat_of_zero_le hrg.2.2.2.2.1
    have HBX := Lib.hid hb
    obtain ⟨b0, b1, b2⟩ := hb
    dsimp only at b0 b1 b2
    have hs0 := Slb.pgsum_range hne
    rw [List.length_map] at hs0
    have hl2 := HL.out
    have hmany : 0 ≤ Slb.pgsum (pre.map (·.1)) ∧ Slb.pgsum (pre.map (·.1)) ≤ 400000 := by omega
    have HE : Hid (Slb.pgsum ((pre ++ [(⟨(p, ⟨kd, nn, (N : Int)⟩), hx⟩ : HdOf S)]).map (·.1)) = Slb.pgsum (pre.map (·.1)) + (if kd = 2 then nn else 1)) := by
      show _ = _
      rw [List.map_append, Slb.pgsum_append]
      simp [Slb.pgsum]
    have HNE : Hid (S.okB (p, ⟨kd, nn, (N : Int)⟩) = true → ∀ y ∈ (pre ++ [(⟨(p, ⟨kd, nn, (N : Int)⟩), hx⟩ : HdOf S)]).map (·.1), S.okB y = true) := fun h y hy => by
      rw [List.map_append] at hy
      rcases List.mem_append.1 hy with hy | hy
      · exact hne y hy
      · simp at hy; rw [hy]; exact h
    have HC := Lib.hid (And.intro hC hB)
    obtain ⟨M, hM⟩ : ∃ x, Slb.pgsum (pre.map (·.1)) = x := ⟨_, rfl⟩
    rw [hM] at HC HE hmany
    obtain ⟨M0, M1⟩ := hmany
    have hc0' := (HC.out.1.get 0 rfl).1
    have hc2' := (HC.out.1.get 2 rfl).1
    have hf2' := (HC.out.1.get 2 rfl).2
    have hsl := slots_call nn W
    have hN1 := cslots_range nn
    obtain ⟨N1, hN1e⟩ : ∃ x, (cslots nn).1 = x := ⟨_, rfl⟩
    obtain ⟨N2, hN2e⟩ : ∃ x, (cslots nn).2 = x := ⟨_, rfl⟩
    have HN := Lib.hid (And.intro hN1e hN2e)
    rw [hN1e] at hsl hN1
    rw [hN2e] at hsl
    obtain ⟨hN10, hN11⟩ := hN1
    clear hne hC hB hmem hlen hrr hs0 hl2 hM hN1e hN2e
    have hmx : Tryd.prog.follows .mixedOrders = true := by kernel_rfl
    gi_wp2_with fail
    refine ⟨trivial, ?_⟩
    refine (CallsIn.inRound l (callsIn_wide.2 hsl)).mono ?_
    rintro e w3 ⟨rfl, hm3⟩
    have HM3 := Lib.hid hm3
    have b0 := hm3.cell b0 (fun x => x)
    have b1 := hm3.cell b1 (fun x => x)
    have b2 := hm3.cell b2 (fun x => x)
    have ST3 : Hid (ASt b Bx ⟨kd, nn, (N : Int)⟩ M w W w3) := ASt.mod ⟨HC.out.1, HC.out.2, KeepsOthers.refl _, KpH.refl _ _ _, HBX.out⟩ hm3
    have hc0' := (ST3.out.1.get 0 rfl).1
    have hc1' := (ST3.out.1.get 1 rfl).1
    have hf1' := (ST3.out.1.get 1 rfl).2
    have hc2' := (ST3.out.1.get 2 rfl).1
    have hf2' := (ST3.out.1.get 2 rfl).2
    have n0 : Bx ≠ w.heap.size + 1 + 1 := by omega
    clear hsl hm3
    by_cases h1 : kd = 1
    · subst h1
      gi_wp2_with fail
      obtain ⟨W4, hW4⟩ : ∃ x, w3.setCell ⟨w.heap.size + 1 + 1, 0, none⟩ (.int .i64 (M + 1)) = x := ⟨_, rfl⟩
      have ST : Hid (ASt b Bx ⟨1, nn, (N : Int)⟩ (M + 1) w W W4) := hW4 ▸ ST3.out.set hBx (M + 1)
      rw [hW4]
      clear hW4 b0 b1 b2 hc0' hc1' hf1' hc2' hf2'
      have hc0' := (ST.out.1.get 0 rfl).1
      have hc1' := (ST.out.1.get 1 rfl).1
      have hf1' := (ST.out.1.get 1 rfl).2
      have hc2' := (ST.out.1.get 2 rfl).1
      have hf2' := (ST.out.1.get 2 rfl).2
      obtain ⟨b0, b1, b2⟩ := ST.out.2.2.2.2
      dsimp only at b0 b1 b2
      by_cases h2 : N2 = 0
      · subst h2
        by_cases h3 : (N : Int) = 0
        · have d3 : ((N : Int) == 0) = true := beqT h3
          have HR := Lib.hid (show S.okB (p, ⟨1, nn, (N : Int)⟩) = false from by unfold Slb.okB; rw [if_pos rfl]; dsimp only; rw [decide_eq_true h3]; simp)
          clear h3
          refine wp_region_round (S := fun w' => w'.cell? ⟨Bx, 2, none⟩ = some (.int .u64 (N : Int))) hmx (by kernel_rfl) (by rintro ⟨_, _, h⟩; exact h) b2 (fun hHeld => ?_)
          refine wpAnyH_takeD (i := 0) (v := ?_) (some 26) rfl (by rfl) (by kernel_rfl) (by kernel_rfl) (by kernel_rfl) (fun _ _ _ h => h) (Or.inl ⟨by rfl, ?_⟩) (by assumption) ?_
          rotate_left
          · intro w hSw
            try dsimp only at hSw
            go_simp
            try with_reducible rfl
          simp only [Act.put, List.setIfInBounds_toArray, List.set_cons_zero, List.set_cons_succ]
          refine wpAnyH_takeD (i := 1) (v := ?_) (some 27) rfl (by rfl) (by kernel_rfl) (by kernel_rfl) (by kernel_rfl) (fun _ _ _ h => h) (Or.inl ⟨by rfl, ?_⟩) (by assumption) ?_
          rotate_left
          · intro w hSw
            try dsimp only at hSw
            go_simp
            try with_reducible rfl
          simp only [Act.put, List.setIfInBounds_toArray, List.set_cons_zero, List.set_cons_succ]
          refine wpAnyH_takeD (i := 2) (v := ?_) (some 28) rfl (by rfl) (by kernel_rfl) (by kernel_rfl) (by kernel_rfl) (fun _ _ _ h => h) (Or.inl ⟨by rfl, ?_⟩) (by assumption) ?_
          rotate_left
          · intro w hSw
            try dsimp only at hSw
            go_simp
            try with_reducible rfl
          simp only [Act.put, List.setIfInBounds_toArray, List.set_cons_zero, List.set_cons_succ]
          refine wpAnyH_takeD (i := 3) (v := ?_) (some 29) rfl (by rfl) (by kernel_rfl) (by kernel_rfl) (by kernel_rfl) (fun _ _ _ h => h) (Or.inl ⟨by rfl, ?_⟩) (by assumption) ?_
          rotate_left
          · intro w hSw
            try dsimp only at hSw
            go_simp
            try with_reducible rfl
          simp only [Act.put, List.setIfInBounds_toArray, List.set_cons_zero, List.set_cons_succ]
          refine wpAnyH_takeD (i := 4) (v := ?_) (some 30) rfl (by rfl) (by kernel_rfl) (by kernel_rfl) (by kernel_rfl) (fun _ _ _ h => h) (Or.inl ⟨by rfl, ?_⟩) (by assumption) ?_
          rotate_left
          · intro w hSw
            try dsimp only at hSw
            go_simp
            try with_reducible rfl
          simp only [Act.put, List.setIfInBounds_toArray, List.set_cons_zero, List.set_cons_succ]
          refine wpAnyH_takeD (i := 5) (v := ?_) (some 31) rfl (by rfl) (by kernel_rfl) (by kernel_rfl) (by kernel_rfl) (fun _ _ _ h => h) (Or.inl ⟨by rfl, ?_⟩) (by assumption) ?_
          rotate_left
          · intro w hSw
            try dsimp only at hSw
            go_simp
            try with_reducible rfl
          simp only [Act.put, List.setIfInBounds_toArray, List.set_cons_zero, List.set_cons_succ]
          refine wpAnyH_takeD (i := 6) (v := ?_) (some 32) rfl (by rfl) (by kernel_rfl) (by kernel_rfl) (by kernel_rfl) (fun _ _ _ h => h) (Or.inl ⟨by rfl, ?_⟩) (by assumption) ?_
          rotate_left
          · intro w hSw
            try dsimp only at hSw
            go_simp
            try with_reducible rfl
          simp only [Act.put, List.setIfInBounds_toArray, List.set_cons_zero, List.set_cons_succ]
          refine wpAnyH_takeD (i := 7) (v := ?_) (some 33) rfl (by rfl) (by kernel_rfl) (by kernel_rfl) (by kernel_rfl) (fun _ _ _ h => h) (Or.inl ⟨by rfl, ?_⟩) (by assumption) ?_
          rotate_left
          · intro w hSw
            try dsimp only at hSw
            go_simp
            try with_reducible rfl
          simp only [Act.put, List.setIfInBounds_toArray, List.set_cons_zero, List.set_cons_succ]
          refine wpAnyH_takeD (i := 8) (v := undef) (some 34) rfl (by rfl) (by kernel_rfl) (by kernel_rfl) (by kernel_rfl) (fun _ _ _ h => h) (Or.inr ⟨by rfl, rfl⟩) (by assumption) ?_
          simp only [Act.put, List.setIfInBounds_toArray, List.set_cons_zero, List.set_cons_succ]
          refine wpAnyH_takeD (i := 9) (v := undef) (some 35) rfl (by rfl) (by kernel_rfl) (by kernel_rfl) (by kernel_rfl) (fun _ _ _ h => h) (Or.inr ⟨by rfl, rfl⟩) (by assumption) ?_
          simp only [Act.put, List.setIfInBounds_toArray, List.set_cons_zero, List.set_cons_succ]
          refine wpAnyH_takeD (i := 10) (v := undef) (some 36) rfl (by rfl) (by kernel_rfl) (by kernel_rfl) (by kernel_rfl) (fun _ _ _ h => h) (Or.inr ⟨by rfl, rfl⟩) (by assumption) ?_
          simp only [Act.put, List.setIfInBounds_toArray, List.set_cons_zero, List.set_cons_succ]
          refine wpAnyH_takeD (i := 11) (v := undef) (some 37) rfl (by rfl) (by kernel_rfl) (by kernel_rfl) (by kernel_rfl) (fun _ _ _ h => h) (Or.inr ⟨by rfl, rfl⟩) (by assumption) ?_
          simp only [Act.put, List.setIfInBounds_toArray, List.set_cons_zero, List.set_cons_succ]
          refine wpAnyH_takeD (i := 12) (v := undef) (some 38) rfl (by rfl) (by kernel_rfl) (by kernel_rfl) (by kernel_rfl) (fun _ _ _ h => h) (Or.inr ⟨by rfl, rfl⟩) (by assumption) ?_
          simp only [Act.put, List.setIfInBounds_toArray, List.set_cons_zero, List.set_cons_succ]
          refine wpAnyH_takeD (i := 13) (v := undef) (some 39) rfl (by rfl) (by kernel_rfl) (by kernel_rfl) (by kernel_rfl) (fun _ _ _ h => h) (Or.inr ⟨by rfl, rfl⟩) (by assumption) ?_
          simp only [Act.put, List.setIfInBounds_toArray, List.set_cons_zero, List.set_cons_succ]
          refine wpAnyH_takeD (i := 14) (v := ?_) (some 40) rfl (by rfl) (by kernel_rfl) (by kernel_rfl) (by kernel_rfl) (fun _ _ _ h => h) (Or.inl ⟨by rfl, ?_⟩) (by assumption) ?_
          rotate_left
          · intro w hSw
            try dsimp only at hSw
            go_simp
            try with_reducible rfl
          simp only [Act.put, List.setIfInBounds_toArray, List.set_cons_zero, List.set_cons_succ]
          refine wpAnyH_done (by kernel_rfl) ?_ _
          have ST5 := Lib.hid (ST.out.mod (Mod.refl No W4).drew)
          clear ST hHeld hc0' hc1' hf1' hc2' hf2' b0 b1 b2
          have ST := ST5
          clear ST5
          have hc0' := (ST.out.1.get 0 rfl).1
          have hc1' := (ST.out.1.get 1 rfl).1
          have hf1' := (ST.out.1.get 1 rfl).2
          have hc2' := (ST.out.1.get 2 rfl).1
          have hf2' := (ST.out.1.get 2 rfl).2
          obtain ⟨b0, b1, b2⟩ := ST.out.2.2.2.2
          dsimp only at b0 b1 b2
          have hset := Lib.hid (ST.out.1.set 1 rfl (Cel.ne hpw rfl) (.int .i64 8))
          gi_wp2
          exact ⟨(ST.out.2.2.1.trans (KeepsOthers.setCell _ _ _)).from _, ⟨⟨_, _, rfl, rfl, HR.out⟩, _, hset.out⟩, ST.out.2.1.setCell (p := ⟨w.heap.size + 1, 0, none⟩) (by simp) _⟩
        · have hn3 : ((N : Int) == 0) = false := beqF (by omega)
          have hfl : Bt.full N1 < 18446744073709551616 := by
            have := Bt.pow_le (Bt.cl N1) (Bt.cl_le N1)
            unfold Bt.full
            omega
          have hA := u64_andNot_nat N (Bt.full N1) (by omega) hfl
          have hfc := fun W' => full_call N1 W'
          have HOK : Hid (S.okB (p, ⟨1, nn, (N : Int)⟩) = decide ((((N &&& (18446744073709551615 - Bt.full N1)) : Nat) : Int) = 0)) := by
            show _ = _
            unfold Slb.okB
            rw [if_pos rfl]
            dsimp only
            rw [HN.out.2, HN.out.1, decide_eq_true rfl, decide_eq_false (by omega), Int.toNat_natCast]
            simp
          obtain ⟨Fl, hFl⟩ : ∃ x, Bt.full N1 = x := ⟨_, rfl⟩
          obtain ⟨X, hX⟩ : ∃ x : Nat, N &&& (18446744073709551615 - Fl) = x := ⟨_, rfl⟩
          rw [hFl] at hA hfl HOK
          rw [hX] at hA HOK
          have HFC : Hid (∀ W', Calls Tryd.prog 45 #[.int .i64 N1] W' fun e w' => e = .returned (.int .u64 (Fl : Nat)) ∧ W' = w') := fun W' => by have := hfc W'; rw [hFl] at this; exact this
          clear hfc hFl hX
          refine wp_region_round (S := fun w' => w'.cell? ⟨Bx, 2, none⟩ = some (.int .u64 (N : Int))) hmx (by kernel_rfl) (by rintro ⟨_, _, h⟩; exact h) b2 (fun hHeld => ?_)
          refine wpAnyH_takeD (i := 0) (v := ?_) (some 26) rfl (by rfl) (by kernel_rfl) (by kernel_rfl) (by kernel_rfl) (fun _ _ _ h => h) (Or.inl ⟨by rfl, ?_⟩) (by assumption) ?_
          rotate_left
          · intro w hSw
            try dsimp only at hSw
            go_simp
            try with_reducible rfl
          simp only [Act.put, List.setIfInBounds_toArray, List.set_cons_zero, List.set_cons_succ]
          refine wpAnyH_takeD (i := 1) (v := ?_) (some 27) rfl (by rfl) (by kernel_rfl) (by kernel_rfl) (by kernel_rfl) (fun _ _ _ h => h) (Or.inl ⟨by rfl, ?_⟩) (by assumption) ?_
          rotate_left
          · intro w hSw
            try dsimp only at hSw
            go_simp
            try with_reducible rfl
          simp only [Act.put, List.setIfInBounds_toArray, List.set_cons_zero, List.set_cons_succ]
          refine wpAnyH_takeD (i := 2) (v := ?_) (some 28) rfl (by rfl) (by kernel_rfl) (by kernel_rfl) (by kernel_rfl) (fun _ _ _ h => h) (Or.inl ⟨by rfl, ?_⟩) (by assumption) ?_
          rotate_left
          · intro w hSw
            try dsimp only at hSw
            go_simp
            try with_reducible rfl
          simp only [Act.put, List.setIfInBounds_toArray, List.set_cons_zero, List.set_cons_succ]
          refine wpAnyH_takeD (i := 3) (v := ?_) (some 29) rfl (by rfl) (by kernel_rfl) (by kernel_rfl) (by kernel_rfl) (fun _ _ _ h => h) (Or.inl ⟨by rfl, ?_⟩) (by assumption) ?_
          rotate_left
          · intro w hSw
            try dsimp only at hSw
            go_simp
            try with_reducible rfl
          simp only [Act.put, List.setIfInBounds_toArray, List.set_cons_zero, List.set_cons_succ]
          refine wpAnyH_takeD (i := 4) (v := ?_) (some 30) rfl (by rfl) (by kernel_rfl) (by kernel_rfl) (by kernel_rfl) (fun _ _ _ h => h) (Or.inl ⟨by rfl, ?_⟩) (by assumption) ?_
          rotate_left
          · intro w hSw
            try dsimp only at hSw
            go_simp
            try with_reducible rfl
          simp only [Act.put, List.setIfInBounds_toArray, List.set_cons_zero, List.set_cons_succ]
          refine wpAnyH_takeD (i := 5) (v := ?_) (some 31) rfl (by rfl) (by kernel_rfl) (by kernel_rfl) (by kernel_rfl) (fun _ _ _ h => h) (Or.inl ⟨by rfl, ?_⟩) (by assumption) ?_
          rotate_left
          · intro w hSw
            try dsimp only at hSw
            go_simp
            try with_reducible rfl
          simp only [Act.put, List.setIfInBounds_toArray, List.set_cons_zero, List.set_cons_succ]
          refine wpAnyH_takeD (i := 6) (v := ?_) (some 32) rfl (by rfl) (by kernel_rfl) (by kernel_rfl) (by kernel_rfl) (fun _ _ _ h => h) (Or.inl ⟨by rfl, ?_⟩) (by assumption) ?_
          rotate_left
          · intro w hSw
            try dsimp only at hSw
            go_simp
            try with_reducible rfl
          simp only [Act.put, List.setIfInBounds_toArray, List.set_cons_zero, List.set_cons_succ]
          refine wpAnyH_takeD (i := 7) (v := ?_) (some 33) rfl (by rfl) (by kernel_rfl) (by kernel_rfl) (by kernel_rfl) (fun _ _ _ h => h) (Or.inl ⟨by rfl, ?_⟩) (by assumption) ?_
          rotate_left
          · intro w hSw
            try dsimp only at hSw
            go_simp
            try with_reducible rfl
          simp only [Act.put, List.setIfInBounds_toArray, List.set_cons_zero, List.set_cons_succ]
          refine wpAnyH_takeD (i := 8) (v := ?_) (some 34) rfl (by rfl) (by kernel_rfl) (by kernel_rfl) (by kernel_rfl) (fun _ _ _ h => h) (Or.inl ⟨by rfl, ?_⟩) (by assumption) ?_
          rotate_left
          · intro w hSw
            try dsimp only at hSw
            go_simp
            try with_reducible rfl
          simp only [Act.put, List.setIfInBounds_toArray, List.set_cons_zero, List.set_cons_succ]
          refine wpAnyH_takeD (i := 9) (v := ?_) (some 35) rfl (by rfl) (by kernel_rfl) (by kernel_rfl) (by kernel_rfl) (fun _ _ _ h => h) (Or.inl ⟨by rfl, ?_⟩) (by assumption) ?_
          rotate_left
          · intro w hSw
            try dsimp only at hSw
            go_simp
            try with_reducible rfl
          simp only [Act.put, List.setIfInBounds_toArray, List.set_cons_zero, List.set_cons_succ]
          refine wpAnyH_takeD (i := 10) (v := ?_) (some 36) rfl (by rfl) (by kernel_rfl) (by kernel_rfl) (by kernel_rfl) (fun _ _ _ h => h) (Or.inl ⟨by rfl, ?_⟩) (by assumption) ?_
          rotate_left
          · intro w hSw
            try dsimp only at hSw
            go_simp
            try with_reducible rfl
          simp only [Act.put, List.setIfInBounds_toArray, List.set_cons_zero, List.set_cons_succ]
          refine wpAnyH_ready (rs := [11]) (by kernel_rfl) (by simp) ?_
          refine AllReadyH.cons rfl (fun K hK => ?_) AllReadyH.nil
          go_simp
          refine (HFC.out _).mono ?_
          rintro e w5 ⟨rfl, rfl⟩
          have HX := hHeld
          refine hK.out _ _ HX (fun _ => ?_)
          clear hK K hHeld
          have hHeld := HX
          clear HX
          try simp only [Act.put, List.setIfInBounds_toArray, List.set_cons_zero, List.set_cons_succ]
          refine wpAnyH_takeD (i := 12) (v := ?_) (some 38) rfl (by rfl) (by kernel_rfl) (by kernel_rfl) (by kernel_rfl) (fun _ _ _ h => h) (Or.inl ⟨by rfl, ?_⟩) (by assumption) ?_
          rotate_left
          · intro w hSw
            try dsimp only at hSw
            go_simp
            try with_reducible rfl
          simp only [Act.put, List.setIfInBounds_toArray, List.set_cons_zero, List.set_cons_succ]
          by_cases h4 : (X : Int) = 0
          · have d4 : ((X : Int) != 0) = false := bneF h4
            have HR := Lib.hid (show S.okB (p, ⟨1, nn, (N : Int)⟩) = true from by rw [HOK.out, decide_eq_true h4])
            clear h4
            refine wpAnyH_takeD (i := 13) (v := ?_) (some 39) rfl (by rfl) (by kernel_rfl) (by kernel_rfl) (by kernel_rfl) (fun _ _ _ h => h) (Or.inl ⟨by rfl, ?_⟩) (by assumption) ?_
            rotate_left
            · intro w hSw
              try dsimp only at hSw
              go_simp
              try with_reducible rfl
            simp only [Act.put, List.setIfInBounds_toArray, List.set_cons_zero, List.set_cons_succ]
            refine wpAnyH_takeD (i := 14) (v := ?_) (some 40) rfl (by rfl) (by kernel_rfl) (by kernel_rfl) (by kernel_rfl) (fun _ _ _ h => h) (Or.inl ⟨by rfl, ?_⟩) (by assumption) ?_
            rotate_left
            · intro w hSw
              try dsimp only at hSw
              go_simp
              try with_reducible rfl
            simp only [Act.put, List.setIfInBounds_toArray, List.set_cons_zero, List.set_cons_succ]
            refine wpAnyH_done (by kernel_rfl) ?_ _
            have ST5 := Lib.hid (ST.out.mod (Mod.refl No W4).drew)
            clear ST hHeld hc0' hc1' hf1' hc2' hf2' b0 b1 b2
            have ST := ST5
            clear ST5
            have hc0' := (ST.out.1.get 0 rfl).1
            have hc1' := (ST.out.1.get 1 rfl).1
            have hf1' := (ST.out.1.get 1 rfl).2
            have hc2' := (ST.out.1.get 2 rfl).1
            have hf2' := (ST.out.1.get 2 rfl).2
            obtain ⟨b0, b1, b2⟩ := ST.out.2.2.2.2
            dsimp only at b0 b1 b2
            gi_wp2
            refine ⟨ST.out.2.2.1.from _, ST.out.2.2.2.1, ⟨HNE.out HR.out, ?_⟩, ST.out.2.1⟩
            rw [HE.out]
            exact ST.out.1
          · have d4 : ((X : Int) != 0) = true := bneT h4
            have HR := Lib.hid (show S.okB (p, ⟨1, nn, (N : Int)⟩) = false from by rw [HOK.out, decide_eq_false h4])
            clear h4
            refine wpAnyH_takeD (i := 13) (v := ?_) (some 39) rfl (by rfl) (by kernel_rfl) (by kernel_rfl) (by kernel_rfl) (fun _ _ _ h => h) (Or.inl ⟨by rfl, ?_⟩) (by assumption) ?_
            rotate_left
            · intro w hSw
              try dsimp only at hSw
              go_simp
              try with_reducible rfl
            simp only [Act.put, List.setIfInBounds_toArray, List.set_cons_zero, List.set_cons_succ]
            refine wpAnyH_takeD (i := 14) (v := ?_) (some 40) rfl (by rfl) (by kernel_rfl) (by kernel_rfl) (by kernel_rfl) (fun _ _ _ h => h) (Or.inl ⟨by rfl, ?_⟩) (by assumption) ?_
            rotate_left
            · intro w hSw
              try dsimp only at hSw
              go_simp
              try with_reducible rfl
            simp only [Act.put, List.setIfInBounds_toArray, List.set_cons_zero, List.set_cons_succ]
            refine wpAnyH_done (by kernel_rfl) ?_ _
            have ST5 := Lib.hid (ST.out.mod (Mod.refl No W4).drew)
            clear ST hHeld hc0' hc1' hf1' hc2' hf2' b0 b1 b2
            have ST := ST5
            clear ST5
            have hc0' := (ST.out.1.get 0 rfl).1
            have hc1' := (ST.out.1.get 1 rfl).1
            have hf1' := (ST.out.1.get 1 rfl).2
            have hc2' := (ST.out.1.get 2 rfl).1
            have hf2' := (ST.out.1.get 2 rfl).2
            obtain ⟨b0, b1, b2⟩ := ST.out.2.2.2.2
            dsimp only at b0 b1 b2
            have hset := Lib.hid (ST.out.1.set 1 rfl (Cel.ne hpw rfl) (.int .i64 8))
            gi_wp2
            exact ⟨(ST.out.2.2.1.trans (KeepsOthers.setCell _ _ _)).from _, ⟨⟨_, _, rfl, rfl, HR.out⟩, _, hset.out⟩, ST.out.2.1.setCell (p := ⟨w.heap.size + 1, 0, none⟩) (by simp) _⟩
      · have d2 : (N2 != 0) = true := bneT h2
        have HR := Lib.hid (show S.okB (p, ⟨1, nn, (N : Int)⟩) = false from by
          unfold Slb.okB
          rw [if_pos rfl]
          dsimp only
          rw [HN.out.2, decide_eq_false h2]
          rfl)
        clear h2
        refine wp_region_round (S := fun w' => w'.cell? ⟨Bx, 2, none⟩ = some (.int .u64 (N : Int))) hmx (by kernel_rfl) (by rintro ⟨_, _, h⟩; exact h) b2 (fun hHeld => ?_)
        refine wpAnyH_takeD (i := 0) (v := ?_) (some 26) rfl (by rfl) (by kernel_rfl) (by kernel_rfl) (by kernel_rfl) (fun _ _ _ h => h) (Or.inl ⟨by rfl, ?_⟩) (by assumption) ?_
        rotate_left
        · intro w hSw
          try dsimp only at hSw
          go_simp
          try with_reducible rfl
        simp only [Act.put, List.setIfInBounds_toArray, List.set_cons_zero, List.set_cons_succ]
        refine wpAnyH_takeD (i := 1) (v := ?_) (some 27) rfl (by rfl) (by kernel_rfl) (by kernel_rfl) (by kernel_rfl) (fun _ _ _ h => h) (Or.inl ⟨by rfl, ?_⟩) (by assumption) ?_
        rotate_left
        · intro w hSw
          try dsimp only at hSw
          go_simp
          try with_reducible rfl
        simp only [Act.put, List.setIfInBounds_toArray, List.set_cons_zero, List.set_cons_succ]
        refine wpAnyH_takeD (i := 2) (v := ?_) (some 28) rfl (by rfl) (by kernel_rfl) (by kernel_rfl) (by kernel_rfl) (fun _ _ _ h => h) (Or.inl ⟨by rfl, ?_⟩) (by assumption) ?_
        rotate_left
        · intro w hSw
          try dsimp only at hSw
          go_simp
          try with_reducible rfl
        simp only [Act.put, List.setIfInBounds_toArray, List.set_cons_zero, List.set_cons_succ]
        refine wpAnyH_takeD (i := 3) (v := undef) (some 29) rfl (by rfl) (by kernel_rfl) (by kernel_rfl) (by kernel_rfl) (fun _ _ _ h => h) (Or.inr ⟨by rfl, rfl⟩) (by assumption) ?_
        simp only [Act.put, List.setIfInBounds_toArray, List.set_cons_zero, List.set_cons_succ]
        refine wpAnyH_takeD (i := 4) (v := undef) (some 30) rfl (by rfl) (by kernel_rfl) (by kernel_rfl) (by kernel_rfl) (fun _ _ _ h => h) (Or.inr ⟨by rfl, rfl⟩) (by assumption) ?_
        simp only [Act.put, List.setIfInBounds_toArray, List.set_cons_zero, List.set_cons_succ]
        refine wpAnyH_takeD (i := 5) (v := undef) (some 31) rfl (by rfl) (by kernel_rfl) (by kernel_rfl) (by kernel_rfl) (fun _ _ _ h => h) (Or.inr ⟨by rfl, rfl⟩) (by assumption) ?_
        simp only [Act.put, List.setIfInBounds_toArray, List.set_cons_zero, List.set_cons_succ]
        refine wpAnyH_takeD (i := 6) (v := ?_) (some 32) rfl (by rfl) (by kernel_rfl) (by kernel_rfl) (by kernel_rfl) (fun _ _ _ h => h) (Or.inl ⟨by rfl, ?_⟩) (by assumption) ?_
        rotate_left
        · intro w hSw
          try dsimp only at hSw
          go_simp
          try with_reducible rfl
        simp only [Act.put, List.setIfInBounds_toArray, List.set_cons_zero, List.set_cons_succ]
        refine wpAnyH_takeD (i := 7) (v := ?_) (some 33) rfl (by rfl) (by kernel_rfl) (by kernel_rfl) (by kernel_rfl) (fun _ _ _ h => h) (Or.inl ⟨by rfl, ?_⟩) (by assumption) ?_
        rotate_left
        · intro w hSw
          try dsimp only at hSw
          go_simp
          try with_reducible rfl
        simp only [Act.put, List.setIfInBounds_toArray, List.set_cons_zero, List.set_cons_succ]
        refine wpAnyH_takeD (i := 8) (v := undef) (some 34) rfl (by rfl) (by kernel_rfl) (by kernel_rfl) (by kernel_rfl) (fun _ _ _ h => h) (Or.inr ⟨by rfl, rfl⟩) (by assumption) ?_
        simp only [Act.put, List.setIfInBounds_toArray, List.set_cons_zero, List.set_cons_succ]
        refine wpAnyH_takeD (i := 9) (v := undef) (some 35) rfl (by rfl) (by kernel_rfl) (by kernel_rfl) (by kernel_rfl) (fun _ _ _ h => h) (Or.inr ⟨by rfl, rfl⟩) (by assumption) ?_
        simp only [Act.put, List.setIfInBounds_toArray, List.set_cons_zero, List.set_cons_succ]
        refine wpAnyH_takeD (i := 10) (v := undef) (some 36) rfl (by rfl) (by kernel_rfl) (by kernel_rfl) (by kernel_rfl) (fun _ _ _ h => h) (Or.inr ⟨by rfl, rfl⟩) (by assumption) ?_
        simp only [Act.put, List.setIfInBounds_toArray, List.set_cons_zero, List.set_cons_succ]
        refine wpAnyH_takeD (i := 11) (v := undef) (some 37) rfl (by rfl) (by kernel_rfl) (by kernel_rfl) (by kernel_rfl) (fun _ _ _ h => h) (Or.inr ⟨by rfl, rfl⟩) (by assumption) ?_
        simp only [Act.put, List.setIfInBounds_toArray, List.set_cons_zero, List.set_cons_succ]
        refine wpAnyH_takeD (i := 12) (v := undef) (some 38) rfl (by rfl) (by kernel_rfl) (by kernel_rfl) (by kernel_rfl) (fun _ _ _ h => h) (Or.inr ⟨by rfl, rfl⟩) (by assumption) ?_
        simp only [Act.put, List.setIfInBounds_toArray, List.set_cons_zero, List.set_cons_succ]
        refine wpAnyH_takeD (i := 13) (v := undef) (some 39) rfl (by rfl) (by kernel_rfl) (by kernel_rfl) (by kernel_rfl) (fun _ _ _ h => h) (Or.inr ⟨by rfl, rfl⟩) (by assumption) ?_
        simp only [Act.put, List.setIfInBounds_toArray, List.set_cons_zero, List.set_cons_succ]
        refine wpAnyH_takeD (i := 14) (v := ?_) (some 40) rfl (by rfl) (by kernel_rfl) (by kernel_rfl) (by kernel_rfl) (fun _ _ _ h => h) (Or.inl ⟨by rfl, ?_⟩) (by assumption) ?_
        rotate_left
        · intro w hSw
          try dsimp only at hSw
          go_simp
          try with_reducible rfl
        simp only [Act.put, List.setIfInBounds_toArray, List.set_cons_zero, List.set_cons_succ]
        refine wpAnyH_done (by kernel_rfl) ?_ _
        have ST5 := Lib.hid (ST.out.mod (Mod.refl No W4).drew)
        clear ST hHeld hc0' hc1' hf1' hc2' hf2' b0 b1 b2
        have ST := ST5
        clear ST5
        have hc0' := (ST.out.1.get 0 rfl).1
        have hc1' := (ST.out.1.get 1 rfl).1
        have hf1' := (ST.out.1.get 1 rfl).2
        have hc2' := (ST.out.1.get 2 rfl).1
        have hf2' := (ST.out.1.get 2 rfl).2
        obtain ⟨b0, b1, b2⟩ := ST.out.2.2.2.2
        dsimp only at b0 b1 b2
        have hset := Lib.hid (ST.out.1.set 1 rfl (Cel.ne hpw rfl) (.int .i64 8))
        gi_wp2
        exact ⟨(ST.out.2.2.1.trans (KeepsOthers.setCell _ _ _)).from _, ⟨⟨_, _, rfl, rfl, HR.out⟩, _, hset.out⟩, ST.out.2.1.setCell (p := ⟨w.heap.size + 1, 0, none⟩) (by simp) _⟩
    · have d1 : (kd == 1) = false := beqF h1
      by_cases h2 : kd = 2
      · subst h2
        gi_wp2_with fail
        obtain ⟨W4, hW4⟩ : ∃ x, w3.setCell ⟨w.heap.size + 1 + 1, 0, none⟩ (.int .i64 (M + 1)) = x := ⟨_, rfl⟩
        have ST : Hid (ASt b Bx ⟨2, nn, (N : Int)⟩ (M + 1) w W W4) := hW4 ▸ ST3.out.set hBx (M + 1)
        rw [hW4]
        clear hW4 b0 b1 b2 hc0' hc1' hf1' hc2' hf2'
        have hc0' := (ST.out.1.get 0 rfl).1
        have hc1' := (ST.out.1.get 1 rfl).1
        have hf1' := (ST.out.1.get 1 rfl).2
        have hc2' := (ST.out.1.get 2 rfl).1
        have hf2' := (ST.out.1.get 2 rfl).2
        obtain ⟨b0, b1, b2⟩ := ST.out.2.2.2.2
        dsimp only at b0 b1 b2
        have hs4 := HSep.out.1.more (Mod.of_below ST.out.2.1 No)
        have hfn := hfine_call hs4 i j HSep.out.2.1 HSep.out.2.2 p (by omega) 2 nn (N : Int) (by omega) (by omega)
        have HOK : Hid (S.okB (p, ⟨2, nn, (N : Int)⟩) = S.fineB p ⟨2, nn, (N : Int)⟩) := by
          show _ = _
          unfold Slb.okB
          rw [if_neg (by simp)]
          simp
        refine ⟨trivial, ?_⟩
        refine (CallsIn.inRound l (callsIn_wide.2 hfn)).mono ?_
        rintro e w5 ⟨rfl, hm5⟩
        have ST5 : Hid (ASt b Bx ⟨2, nn, (N : Int)⟩ (M + 1) w W w5) := ST.out.mod hm5
        clear ST hm5 hfn hs4 hc0' hc1' hf1' hc2' hf2' b0 b1 b2
        have ST := ST5
        clear ST5
        have hc0' := (ST.out.1.get 0 rfl).1
        have hc1' := (ST.out.1.get 1 rfl).1
        have hf1' := (ST.out.1.get 1 rfl).2
        have hc2' := (ST.out.1.get 2 rfl).1
        have hf2' := (ST.out.1.get 2 rfl).2
        obtain ⟨b0, b1, b2⟩ := ST.out.2.2.2.2
        dsimp only at b0 b1 b2
        cases hfv : S.fineB p ⟨2, nn, (N : Int)⟩ with
        | true =>
          have HR := Lib.hid (show S.okB (p, ⟨2, nn, (N : Int)⟩) = true from by rw [HOK.out, hfv])
          have hnr := Slb.fineB_n hfv
          dsimp only at hnr
          obtain ⟨n00, n01⟩ := hnr
          have hset := Lib.hid (ST.out.set hBx (M + nn))
          clear hfv HOK
          have e1 : IntKind.i64.wrap (nn - 1) = nn - 1 := by rw [IntKind.wrap_i64]; omega
          have e2 : IntKind.i64.wrap (M + 1 + (nn - 1)) = M + nn := by rw [IntKind.wrap_i64]; omega
          gi_wp2
          refine ⟨hset.out.2.2.1.from _, hset.out.2.2.2.1, ⟨HNE.out HR.out, ?_⟩, hset.out.2.1⟩
          rw [HE.out]
          exact hset.out.1
        | false =>
          have HR := Lib.hid (show S.okB (p, ⟨2, nn, (N : Int)⟩) = false from by rw [HOK.out, hfv])
          clear hfv HOK
          have hset := Lib.hid (ST.out.1.set 1 rfl (Cel.ne hpw rfl) (.int .i64 8))
          gi_wp2
          exact ⟨(ST.out.2.2.1.trans (KeepsOthers.setCell _ _ _)).from _, ⟨⟨_, _, rfl, rfl, HR.out⟩, _, hset.out⟩, ST.out.2.1.setCell (p := ⟨w.heap.size + 1, 0, none⟩) (by simp) _⟩
      · have d2 : (kd == 2) = false := beqF h2
        have HR := Lib.hid (show S.okB (p, ⟨kd, nn, (N : Int)⟩) = false from by
          unfold Slb.okB
          rw [if_neg h1, decide_eq_false h2]
          rfl)
        have hs3 := ST3.out.set hBx (M + 1)
        have hset := Lib.hid (hs3.1.set 1 rfl (Cel.ne hpw rfl) (.int .i64 8))
        have HS3 := Lib.hid hs3
        clear h1 h2 hs3
        gi_wp2
        exact ⟨(HS3.out.2.2.1.trans (KeepsOthers.setCell _ _ _)).from _, ⟨⟨_, _, rfl, rfl, HR.out⟩, _, hset.out⟩, HS3.out.2.1.setCell (p := ⟨w.heap.size + 1, 0, none⟩) (by simp) _⟩
  case done =>
    rintro D xs W hD hxs ⟨⟨hne, hC⟩, hB⟩ hK
    have hau := Slb.audit_sum (S := S) (fun x hx => hne x (by rw [hxs]; exact hx))
    have hs0 := Slb.pgsum_range hne
    rw [hxs] at hs0
    have hm : 0 ≤ Slb.pgsum (xs.map (·.1)) ∧ Slb.pgsum (xs.map (·.1)) ≤ 400000 := by rw [hxs]; omega
    rw [← hxs] at hau
    obtain ⟨M, hM⟩ : ∃ x, Slb.pgsum (xs.map (·.1)) = x := ⟨_, rfl⟩
    rw [hM] at hau hm hC
    obtain ⟨M0, M1⟩ := hm
    have hsW := HSep.out.1.more (Mod.of_below hB No)
    have c0 := (hsW.cell i HSep.out.2.1 0 (v := .pointer (some ⟨s, 0, none⟩)) rfl).1
    obtain ⟨b', p', hM', _, _⟩ := hsW.drew.sGet j HSep.out.2.2
    have hpg := spages hM' HO.out.sorted (by have := HO.out.fit; have := HO.out.q1; omega)
    have hc0' := (hC.get 0 rfl).1
    have hc2' := (hC.get 2 rfl).1
    have hpl : (S.pg.length : Int) ≤ 4096 := by have := HO.out.fit; have := HO.out.q1; omega
    have HH := Lib.hid (And.intro hC (And.intro hB hau))
    have hplen : (S.pg.map fun k : Nat => (k : Int)).length = S.pg.length := List.length_map _
    clear hne hxs hs0 hM hC hB hau hsW hM'
    gi_wp2_with fail
    refine wpIn_wide.2 (region_only ?_)
    refine wp_region_held_drew (S := fun w' => w'.cell? ⟨w.heap.size + 1 + 1, 0, none⟩ = some (.int .i64 M) ∧ w'.cell? ⟨w.heap.size, 0, none⟩ = some (.pointer (some ⟨b, 0, none⟩)) ∧ w'.cell? ⟨b, 0, none⟩ = some (.pointer (some ⟨s, 0, none⟩))) (by kernel_rfl) ⟨hc2', hc0', c0⟩ (fun hHeld => ?_)
    refine wpAnyH_takeD (i := 0) (v := ?_) (some 53) rfl (by rfl) (by kernel_rfl) (by kernel_rfl) (by kernel_rfl) (fun _ _ _ h => h) (Or.inl ⟨by rfl, ?_⟩) (by assumption) ?_
    rotate_left
    · intro w hSw
      try dsimp only at hSw
      go_simp
      try with_reducible rfl
    simp only [Act.put, List.setIfInBounds_toArray, List.set_cons_zero, List.set_cons_succ]
    refine wpAnyH_takeD (i := 1) (v := ?_) (some 54) rfl (by rfl) (by kernel_rfl) (by kernel_rfl) (by kernel_rfl) (fun _ _ _ h => h) (Or.inl ⟨by rfl, ?_⟩) (by assumption) ?_
    rotate_left
    · intro w hSw
      try dsimp only at hSw
      go_simp
      try with_reducible rfl
    simp only [Act.put, List.setIfInBounds_toArray, List.set_cons_zero, List.set_cons_succ]
    refine wpAnyH_takeD (i := 2) (v := ?_) (some 55) rfl (by rfl) (by kernel_rfl) (by kernel_rfl) (by kernel_rfl) (fun _ _ _ h => h) (Or.inl ⟨by rfl, ?_⟩) (by assumption) ?_
    rotate_left
    · intro w hSw
      try dsimp only at hSw
      go_simp
      try with_reducible rfl
    simp only [Act.put, List.setIfInBounds_toArray, List.set_cons_zero, List.set_cons_succ]
    refine wpAnyH_takeD (i := 3) (v := ?_) (some 56) rfl (by rfl) (by kernel_rfl) (by kernel_rfl) (by kernel_rfl) (fun _ _ _ h => h) (Or.inl ⟨by rfl, ?_⟩) (by assumption) ?_
    rotate_left
    · intro w hSw
      try dsimp only at hSw
      go_simp
      try with_reducible rfl
    simp only [Act.put, List.setIfInBounds_toArray, List.set_cons_zero, List.set_cons_succ]
    refine wpAnyH_takeD (i := 4) (v := ?_) (some 57) rfl (by rfl) (by kernel_rfl) (by kernel_rfl) (by kernel_rfl) (fun _ _ _ h => h) (Or.inl ⟨by rfl, ?_⟩) (by assumption) ?_
    rotate_left
    · intro w hSw
      try dsimp only at hSw
      go_simp
      try with_reducible rfl
    simp only [Act.put, List.setIfInBounds_toArray, List.set_cons_zero, List.set_cons_succ]
    refine wpAnyH_ready (rs := [5]) (by kernel_rfl) (by simp) ?_
    refine AllReadyH.cons rfl (fun K hK => ?_) AllReadyH.nil
    go_simp
    refine (hpg).mono ?_
    rintro e w5 ⟨v, rfl, h5⟩
    obtain ⟨sa, cap, rfl⟩ := h5.form 0 rfl
    rw [hplen]
    have hm5 := h5.mod
    have HM5 := Lib.hid ((Mod.refl No W).drew.trans' hm5)
    have HX := And.intro (hm5.cell hHeld.1 (fun x => x)) (And.intro (hm5.cell hHeld.2.1 (fun x => x)) (hm5.cell hHeld.2.2 (fun x => x)))
    clear h5 hm5 hplen
    refine hK.out _ _ HX (fun _ => ?_)
    clear hK K hHeld
    have hHeld := HX
    clear HX
    try simp only [Act.put, List.setIfInBounds_toArray, List.set_cons_zero, List.set_cons_succ]
    obtain ⟨Ln, hLn⟩ : ∃ x, (S.pg.length : Int) = x := ⟨_, rfl⟩
    rw [hLn] at hpl HH
    refine wpAnyH_takeD (i := 6) (v := ?_) (some 59) rfl (by rfl) (by kernel_rfl) (by kernel_rfl) (by kernel_rfl) (fun _ _ _ h => h) (Or.inl ⟨by rfl, ?_⟩) (by assumption) ?_
    rotate_left
    · intro w hSw
      try dsimp only at hSw
      go_simp
      try with_reducible rfl
    simp only [Act.put, List.setIfInBounds_toArray, List.set_cons_zero, List.set_cons_succ]
    try rw [hLn]
    have ST : Hid (Cel [(w.heap.size, .pointer (some ⟨b, 0, none⟩)), (w.heap.size + 1, .int .i64 0), (w.heap.size + 1 + 1, .int .i64 M)] w5 ∧ Below w.heap.size w w5 ∧ KeepsOthers W w5) := ⟨HH.out.1.mod HM5.out, HH.out.2.1.trans (HM5.out.below _ HH.out.2.1.size (fun _ _ x => x)), KeepsOthers.of_mod HM5.out⟩
    by_cases hml : M = Ln
    · have dm : (M != Ln) = false := bneF hml
      have HR := Lib.hid (show S.audit = 0 from by rw [HH.out.2.2, if_pos hml])
      clear hml
      refine wpAnyH_takeD (i := 7) (v := ?_) (some 60) rfl (by rfl) (by kernel_rfl) (by kernel_rfl) (by kernel_rfl) (fun _ _ _ h => h) (Or.inl ⟨by rfl, ?_⟩) (by assumption) ?_
      rotate_left
      · intro w hSw
        try dsimp only at hSw
        go_simp
        try with_reducible rfl
      simp only [Act.put, List.setIfInBounds_toArray, List.set_cons_zero, List.set_cons_succ]
      refine wpAnyH_done (by kernel_rfl) ?_ _
      dsimp only
      clear hHeld c0 hc0' hc2'
      have hc1' := (ST.out.1.get 1 rfl).1
      have hf1' := (ST.out.1.get 1 rfl).2
      have hK' := (ST.out.2.2.trans (KeepsOthers.setCell w5 ⟨w.heap.size + 1, 0, none⟩ (.int .i64 0))).same D _ (by assumption) rfl
      have hC' := (ST.out.1.set 1 rfl (Cel.ne hpw rfl) (.int .i64 0)).put hK' rfl (.deferred none)
      have hB2 := (ST.out.2.1.setCell (p := ⟨w.heap.size + 1, 0, none⟩) (by simp) (.int .i64 0)).trans (belowK_b (w := w) (Nat.le_refl _) _ D _ (.deferred none) (by omega) hK' rfl rfl)
      have q1 := (hC'.get 1 rfl).1
      have HQ := Lib.hid (And.intro hK' hB2)
      clear hC' hK' hB2
      gi_wp2
      refine ⟨by simp, .inl ⟨_, _, rfl, run_takeDeferred HQ.out.1, ?_⟩⟩
      refine ⟨.int .i64 0, ?_, by rw [HR.out], HQ.out.2⟩
      simp [results, Tryd.f21, go_sem, q1]
    · have dm : (M != Ln) = true := bneT hml
      have HR := Lib.hid (show S.audit = 8 from by rw [HH.out.2.2, if_neg hml])
      clear hml
      refine wpAnyH_takeD (i := 7) (v := ?_) (some 60) rfl (by rfl) (by kernel_rfl) (by kernel_rfl) (by kernel_rfl) (fun _ _ _ h => h) (Or.inl ⟨by rfl, ?_⟩) (by assumption) ?_
      rotate_left
      · intro w hSw
        try dsimp only at hSw
        go_simp
        try with_reducible rfl
      simp only [Act.put, List.setIfInBounds_toArray, List.set_cons_zero, List.set_cons_succ]
      refine wpAnyH_done (by kernel_rfl) ?_ _
      dsimp only
      clear hHeld c0 hc0' hc2'
      have hc1' := (ST.out.1.get 1 rfl).1
      have hf1' := (ST.out.1.get 1 rfl).2
      have hK' := (ST.out.2.2.trans (KeepsOthers.setCell w5 ⟨w.heap.size + 1, 0, none⟩ (.int .i64 8))).same D _ (by assumption) rfl
      have hC' := (ST.out.1.set 1 rfl (Cel.ne hpw rfl) (.int .i64 8)).put hK' rfl (.deferred none)
      have hB2 := (ST.out.2.1.setCell (p := ⟨w.heap.size + 1, 0, none⟩) (by simp) (.int .i64 8)).trans (belowK_b (w := w) (Nat.le_refl _) _ D _ (.deferred none) (by omega) hK' rfl rfl)
      have q1 := (hC'.get 1 rfl).1
      have HQ := Lib.hid (And.intro hK' hB2)
      clear hC' hK' hB2
      gi_wp2
      refine ⟨by simp, .inl ⟨_, _, rfl, run_takeDeferred HQ.out.1, ?_⟩⟩
      refine ⟨.int .i64 8, ?_, by rw [HR.out], HQ.out.2⟩
      simp [results, Tryd.f21, go_sem, q1]
  case stop =>
    rintro D q pre W hD ⟨k, hk⟩ ⟨⟨⟨pre', x, rfl, rfl, hr⟩, v, hC⟩, hB⟩ hK
    have hau := Slb.audit_bad (S := S) x.2 hr
    have hC' := hC.put hK rfl (.deferred none)
    have hB2 := hB.trans (belowK_b (w := w) (Nat.le_refl _) W D _ (.deferred none) (by omega) hK rfl rfl)
    have q1 := (hC'.get 1 rfl).1
    have HH := Lib.hid (And.intro hau hB2)
    clear hC' hC hk hr hB hau hB2
    gi_wp2
    refine ⟨by simp, .inl ⟨_, _, rfl, run_takeDeferred hK, ?_⟩⟩
    refine ⟨.int .i64 8, ?_, by rw [HH.out.1], HH.out.2⟩
    simp [results, Tryd.f21, go_sem, q1]

theorem Sep.hAudit (h : Sep F0 w0 w Ps) (i j : Nat) {b s : Nat} {S : Slb} (hi : Ps[i]? = some (hpAt b s)) (hj : Ps[j]? = some (slabR s S)) :
    Calls Tryd.prog 21 #[.pointer (some ⟨b, 0, none⟩)] w fun e w' => e = .returned (.int .i64 S.audit) ∧ Mod No w w' :=
  (audit_in h i j hi hj).mono fun _ _ h => ⟨h.1, Mod.of_below h.2 _⟩
end Go.Proofs.YtfmkiioahnphbaaDoor

namespace Go.Proofs.YtfmkiioahnphbaaDoor
open Go Go.RowKit Go.Shelf

attribute [local go_sem] Oper.semAt_some

variable {F0 : Nat → Prop} {w0 w : World} {Ps : List Res}


set_option maxRecDepth 100000 in
set_option maxHeartbeats 2000000 in
theorem heads_stopsK {wB : World} (hS : Sep F0 w0 wB Ps) (i j : Nat) {b s : Nat} {S : Slb} (hi : Ps[i]? = some (hpAt b s)) (hj : Ps[j]? = some (slabR s S)) (B2 : Nat) (w : World) (hBw : Below wB.heap.size wB w)
    (hbx : w.cell? ⟨B2, 0, none⟩ = some (.pointer (some ⟨b, 0, none⟩))) (n : Nat) (hn : 1 ≤ n) (Kp : World → World → Prop) (kr : ∀ A, Kp A A) (kt : ∀ A B C, Kp A B → Kp B C → Kp A C) (kb : ∀ A B, Kp A B → Below wB.heap.size A B)
    (km : ∀ A B, Mod No A B → w.heap.size ≤ A.heap.size → Kp A B) (kk : ∀ (W1 wr : World) (g : Nat) (x : Obj), Below w.heap.size w W1 → Kp W1 wr → B2 ≤ g → W1.heap[g]? = some x → x.isCells = true → wr.heap[g]? = some x) :
    SeqStopsK Fence.wide n Tryd.prog 48 #[.pointer (some ⟨B2, 0, none⟩)] (henc (S := S)) Kp (fun xs => xs.map (·.1) = S.heads) (fun pre => ∃ k, pre.map (·.1) = S.heads.take k) S.heads.length w := fun l J Jx W hW hJ hJx hY h0 => by
  have hok := hS.sOk j hj
  have hlen : (S.pg.length : Int) ≤ 4096 := by have := hok.fit; have := hok.q1; omega
  have hblt : B2 < w.heap.size := World.block_lt_of_cell? w ⟨B2, 0, none⟩ hbx
  have hbx1 : W.cell? ⟨B2, 0, none⟩ = some (.pointer (some ⟨b, 0, none⟩)) := (hW.cell (p := ⟨B2, 0, none⟩) hblt).trans hbx
  have hBW : Below wB.heap.size wB W := hBw.trans (hW.mono hBw.size)
  have hSW := hS.more (Mod.of_below hBW No)
  have c0 := (hSW.cell i hi 0 (v := .pointer (some ⟨s, 0, none⟩)) rfl).1
  obtain ⟨b', p', hM, _, _⟩ := hSW.sGet j hj
  have hp := spages hM hok.sorted (by omega)
  have HS := Lib.hid hS
  have HJ := Lib.hid hJ
  have HJx := Lib.hid hJx
  have HY := Lib.hid hY
  have HO := Lib.hid hok
  have HW := Lib.hid (And.intro hBW (And.intro h0 hW))
  clear hS hJ hJx hY hok hBw hW hBW hSW hM h0
  refine callsIn_of_wp Tryd.func48 rfl trivial ?_ rfl
  simp only [Tryd.ntmps48, List.size_toArray, List.length_cons, List.length_nil, Nat.reduceAdd, Nat.reduceSub, Array.replicate_succ, Array.replicate_zero, List.push_toArray, List.append_toArray, List.nil_append, List.cons_append]
  gi_wp2_with fail
  refine ⟨trivial, ?_⟩
  refine (callsIn_wide.2 hp).mono ?_
  rintro e W1 ⟨v, rfl, k1⟩
  obtain ⟨sa, cap, rfl⟩ := k1.form 0 rfl
  have hm := k1.mod
  have hJ1 := HJ.out _ _ _ _ HW.out.2.1 (Mod.grown0 hm) (fun r e => by cases e)
  have hbx2 := hm.cell hbx1 (fun x => x)
  have hB1 : Below wB.heap.size wB W1 := HW.out.1.trans (hm.below _ HW.out.1.size (fun _ _ x => x))
  have hW1 : Below w.heap.size w W1 := HW.out.2.2.trans (hm.below _ HW.out.2.2.size (fun _ _ x => x))
  have hl1 : (S.pg.map fun k : Nat => (k : Int)).length = S.pg.length := List.length_map _
  have HP : Hid (∀ (wr : World), Kp W1 wr → ∀ (k q : Nat), S.pg[k]? = some q → ∃ g, sa = some ⟨g, 0, none⟩ ∧ wr.cell? ⟨g, k, none⟩ = some (.int .i64 q)) := by
    intro wr hK k q hq
    obtain ⟨g, rfl, hc, _⟩ := k1.item 0 rfl (o := k) (x := .int .i64 q) (by rw [List.getElem?_map, List.getElem?_map, hq]; rfl)
    refine ⟨g, rfl, ?_⟩
    have hfr : W.heap.size ≤ g := k1.fresh 0 rfl
    have hbw := World.block_lt_of_cell? W ⟨B2, 0, none⟩ hbx1
    obtain ⟨x, hx, hxc⟩ := cells_of_cell hc
    have hx2 := kk W1 wr g x hW1 hK (by simp at hbw; omega) hx hxc
    exact (World.cell?_of_block (w := W1) (by rw [hx2, hx])).trans hc
  have HB : Hid (∀ (wr : World), Kp W1 wr → wr.cell? ⟨B2, 0, none⟩ = some (.pointer (some ⟨b, 0, none⟩)) ∧ Sep F0 w0 wr Ps) := by
    intro wr hK
    obtain ⟨x, hx, hxc⟩ := cells_of_cell hbx2
    have hx2 := kk W1 wr B2 x hW1 hK (Nat.le_refl _) hx hxc
    exact ⟨(World.cell?_of_block (w := W1) (by rw [hx2, hx])).trans hbx2, HS.out.more (Mod.of_below (hB1.trans (kb _ _ hK)) No)⟩
  rw [hl1] at k1 ⊢
  have HJ1 := Lib.hid hJ1
  have hWs : W.heap.size ≤ W1.heap.size := hm.size
  clear hbx1 hbx2 hbx c0 hp k1 hm hJ1 HW hl1
  gi_wp2_with fail
  gi_loopw [3, 13] (fun nx iv wr => ∃ (k : Nat) (pre : List (HdOf S)) (next : Int), k ≤ S.pg.length ∧ iv = .int .i64 k ∧ nx = .int .i64 next ∧ 0 ≤ next ∧ next ≤ 72057594071482368 ∧ J pre wr ∧ pre.map (·.1) ++ S.hgo (S.pg.drop k) next = S.heads ∧ Kp W1 wr) (fun _ iv _ => S.pg.length - (RowKit.intOf iv).toNat)
  case atStart => exact ⟨0, [], 0, Nat.zero_le _, rfl, rfl, by omega, by omega, HJ1.out, rfl, kr _⟩
  case round =>
    obtain ⟨k, pre, next, hk, rfl, rfl, hn0, hn1, hJr, heq, hK⟩ := hrel
    clear HJ1
    by_cases hlt : k < S.pg.length
    · have hq := List.getElem?_eq_getElem hlt
      obtain ⟨g, rfl, hcg⟩ := HP.out wr hK k _ hq
      have hsmall := HO.out.small _ (List.mem_of_getElem? hq)
      have hdrop : S.pg.drop k = S.pg[k] :: S.pg.drop (k + 1) := List.drop_eq_getElem_cons hlt
      rw [hdrop] at heq
      generalize S.pg[k] = q at *
      have HK := Lib.hid hK
      have HJr := Lib.hid hJr
      by_cases hlq : (q : Int) < next
      · have d1 : decide ((q : Int) < next) = true := ltT hlq
        have HE := Lib.hid (show pre.map (·.1) ++ S.hgo (S.pg.drop (k + 1)) next = S.heads from by
          have h := heq
          rw [Slb.hgo, if_pos hlq] at h
          exact h)
        clear heq hdrop hK hJr hq hlq
        gi_wp2
        go_roundw
        case rel => exact ⟨k + 1, pre, next, by omega, by go_num, rfl, hn0, hn1, HJr.out, HE.out, HK.out⟩
        case measure => simp [RowKit.intOf]; omega
      · have d1 : decide ((q : Int) < next) = false := ltF (by omega)
        rw [Slb.hgo, if_neg hlq] at heq
        have hmem : ((q, S.hd q) : Nat × Hd) ∈ S.heads := by
          have h : ((q, S.hd q) : Nat × Hd) ∈ pre.map (·.1) ++ (q, S.hd q) :: S.hgo (S.pg.drop (k + 1)) (if (S.hd q).kind = 2 then (q : Int) + (S.hd q).n else next) := by simp
          rw [heq] at h
          exact h
        have hpl : pre.length < S.heads.length := by
          have := congrArg List.length heq
          simp at this
          omega
        obtain ⟨hbx, hSr⟩ := HB.out wr hK
        have hg := hget_call hSr i j hi hj (q : Int) (by omega) (by omega)
        have hrg := Slb.hd_range HO.out (q : Int)
        have HM := Lib.hid (And.intro hmem hpl)
        have HE := Lib.hid heq
        have hwsz : w.heap.size ≤ wr.heap.size := Nat.le_trans hW1.size (kb _ _ hK).size
        obtain ⟨kd, hkd⟩ : ∃ x, (S.hd q).kind = x := ⟨_, rfl⟩
        obtain ⟨nn, hnn⟩ : ∃ x, (S.hd q).n = x := ⟨_, rfl⟩
        obtain ⟨ww, hww⟩ : ∃ x, (S.hd q).w = x := ⟨_, rfl⟩
        have HH := Lib.hid (And.intro hkd (And.intro hnn hww))
        rw [hkd, hnn, hww] at hg hrg
        clear heq hdrop hK hJr hq hlq hmem hpl hSr hkd hnn hww
        gi_wp2_with fail
        refine ⟨trivial, ?_⟩
        refine (callsIn_wide.2 hg).mono ?_
        rintro e w3 ⟨rfl, hm3⟩
        have hJ3 := HJ.out _ _ _ _ (HJ.out _ _ _ _ HJr.out (Mod.grown0 hm3) (fun r e => by cases e)) (World.grownBy_alloc w3 (.cells #[.int .i64 kd, .int .i64 nn, .int .u64 ww] 71) none) (fun r e => by cases e)
        have hK3 := kt _ _ _ HK.out (kt _ _ _ (km _ _ hm3 hwsz) (km _ _ ((Mod.refl No w3).alloc (.cells #[.int .i64 kd, .int .i64 nn, .int .u64 ww] 71)) (Nat.le_trans hwsz hm3.size)))
        obtain ⟨fn, tmps, assign, body, hy, hR⟩ := HY.out pre ⟨(q, S.hd q), HM.out.1⟩ _ hJ3 HM.out.2
        dsimp only [henc] at hy
        rw [HH.out.1, HH.out.2.1, HH.out.2.2] at hy
        have HK3 := Lib.hid hK3
        clear hJ3 hK3 hm3 hg HJr
        by_cases hk2 : kd = 2
        · subst hk2
          have HE2 := Lib.hid (show (pre ++ [(⟨(q, S.hd q), HM.out.1⟩ : HdOf S)]).map (·.1) ++ S.hgo (S.pg.drop (k + 1)) ((q : Int) + nn) = S.heads from by
            have h := HE.out
            rw [if_pos HH.out.1, HH.out.2.1] at h
            rw [List.map_append, List.append_assoc]
            exact h)
          have hnn0 : 0 ≤ (q : Int) + nn := by omega
          have hnn1 : (q : Int) + nn ≤ 72057594071482368 := by omega
          clear HE
          gi_wp2
          refine hR.mono ?_
          rintro e W5 (⟨rfl, hJ5, hK5⟩ | ⟨rfl, hx5⟩)
          · have H5 := Lib.hid (And.intro hJ5 (kt _ _ _ HK3.out hK5))
            clear hJ5 hK5
            gi_wp2
            go_roundw
            case rel => exact ⟨k + 1, pre ++ [⟨(q, S.hd q), HM.out.1⟩], _, by omega, by go_num, rfl, by omega, by omega, H5.out.1, HE2.out, H5.out.2⟩
            case measure => simp [RowKit.intOf]; omega
          · have H5 := Lib.hid hx5
            clear hx5
            gi_wp2
            refine bodyPost_ret (results_none rfl _ _ _) rfl ?_
            refine ⟨⟨_, rfl⟩, .inr ⟨_, ⟨pre.length + 1, ?_⟩, H5.out⟩⟩
            have h := congrArg (List.take (pre.length + 1)) HE2.out
            rw [← h, List.take_append_of_le_length (by simp), List.take_of_length_le (by simp)]
        · have d2 : (kd == 2) = false := beqF hk2
          have HE2 := Lib.hid (show (pre ++ [(⟨(q, S.hd q), HM.out.1⟩ : HdOf S)]).map (·.1) ++ S.hgo (S.pg.drop (k + 1)) next = S.heads from by
            have h := HE.out
            rw [if_neg (fun e => hk2 (HH.out.1.symm.trans e))] at h
            rw [List.map_append, List.append_assoc]
            exact h)
          clear HE hk2
          gi_wp2
          refine hR.mono ?_
          rintro e W5 (⟨rfl, hJ5, hK5⟩ | ⟨rfl, hx5⟩)
          · have H5 := Lib.hid (And.intro hJ5 (kt _ _ _ HK3.out hK5))
            clear hJ5 hK5
            gi_wp2
            go_roundw
            case rel => exact ⟨k + 1, pre ++ [⟨(q, S.hd q), HM.out.1⟩], _, by omega, by go_num, rfl, by omega, by omega, H5.out.1, HE2.out, H5.out.2⟩
            case measure => simp [RowKit.intOf]; omega
          · have H5 := Lib.hid hx5
            clear hx5
            gi_wp2
            refine bodyPost_ret (results_none rfl _ _ _) rfl ?_
            refine ⟨⟨_, rfl⟩, .inr ⟨_, ⟨pre.length + 1, ?_⟩, H5.out⟩⟩
            have h := congrArg (List.take (pre.length + 1)) HE2.out
            rw [← h, List.take_append_of_le_length (by simp), List.take_of_length_le (by simp)]
    · obtain rfl : k = S.pg.length := by omega
      have heq2 : pre.map (·.1) = S.heads := by
        have h := heq
        rw [List.drop_length, Slb.hgo, List.append_nil] at h
        exact h
      have HQ := Lib.hid (And.intro heq2 hJr)
      clear heq heq2 hJr hK hlt
      gi_wp2
      go_end0
      exact ⟨⟨_, rfl⟩, .inl ⟨_, HQ.out.1, HQ.out.2⟩⟩
end Go.Proofs.YtfmkiioahnphbaaDoor

namespace Go.Proofs.YtfmkiioahnphbaaDoor
open Go Go.RowKit Go.Shelf

variable {F0 : Nat → Prop} {w0 w : World} {Ps : List Res}

/-- The blocks of an entry, as the program tells them. -/
def liveS (x : Ent) (n : Nat) : List Int := ((List.range n).filter fun k : Nat => Bt.has x.2.w.toNat (k : Int)).map fun k : Nat => hplace x.1 x.2.n (k : Int)
def liveE (x : Ent) : List Int := if x.2.kind = 2 then [(x.1 : Int) * 64 + 2] else liveS x (cslots x.2.n).1.toNat
def Slb.live (S : Slb) : List Int := S.heads.flatMap liveE
theorem liveS_succ (x : Ent) (n : Nat) : liveS x (n + 1) = liveS x n ++ (if Bt.has x.2.w.toNat (n : Int) then [hplace x.1 x.2.n (n : Int)] else []) := by
  unfold liveS
  rw [List.range_succ, List.filter_append, List.map_append]
  congr 1
  by_cases h : Bt.has x.2.w.toNat (n : Int) = true
  · simp [h]
  · simp [h]
theorem liveS_len (x : Ent) (n : Nat) : (liveS x n).length ≤ n := by
  unfold liveS
  rw [List.length_map]
  have := List.length_filter_le (fun k : Nat => Bt.has x.2.w.toNat (k : Int)) (List.range n)
  rw [List.length_range] at this
  exact this
theorem liveE_len (x : Ent) : (liveE x).length ≤ 31 := by
  unfold liveE
  split
  · simp
  · have := liveS_len x (cslots x.2.n).1.toNat
    have := cslots_range x.2.n
    omega
theorem liveL_len : ∀ L : List Ent, (L.flatMap liveE).length ≤ 31 * L.length
  | [] => by simp
  | x :: L => by
    have h1 := liveE_len x
    have h2 := liveL_len L
    rw [List.flatMap_cons, List.length_append, List.length_cons]
    omega

/-- The block of a slice that a cell holds. -/
def outBlk (W : World) (o : Nat) : Option Nat := match W.cell? ⟨o, 0, none⟩ with
  | some v => v.ownBlock
  | none => none
/-- What a round keeps that lets a slice grow. -/
def KpL (B0 B2 o : Nat) (A B : World) : Prop :=
  Below B0 A B ∧ (outBlk B o = outBlk A o ∨ ∃ g, outBlk B o = some g ∧ A.heap.size ≤ g) ∧ ∀ (k : Nat) (x : Obj), B2 ≤ k → A.heap[k]? = some x → x.isCells = true → outBlk A o ≠ some k → B.heap[k]? = some x
theorem KpL.refl (B0 B2 o : Nat) (A : World) : KpL B0 B2 o A A := ⟨Below.refl _ _, .inl rfl, fun _ _ _ h _ _ => h⟩
theorem KpL.trans {B0 B2 o : Nat} {A B C : World} (h : KpL B0 B2 o A B) (k : KpL B0 B2 o B C) : KpL B0 B2 o A C := by
  refine ⟨h.1.trans k.1, ?_, fun j x hj hx hc hn => k.2.2 j x hj (h.2.2 j x hj hx hc hn) hc (fun e => ?_)⟩
  · rcases k.2.1 with e | ⟨g, e, hg⟩
    · rcases h.2.1 with e2 | ⟨g, e2, hg⟩
      · exact .inl (e.trans e2)
      · exact .inr ⟨g, e.trans e2, hg⟩
    · exact .inr ⟨g, e, Nat.le_trans h.1.size hg⟩
  · rcases h.2.1 with e2 | ⟨g, e2, hg⟩
    · exact hn (e2.symm.trans e)
    · rw [e2] at e
      cases e
      have := (Array.getElem?_eq_some_iff.1 hx).1
      omega
theorem KpL.of_mod {B0 B2 o : Nat} {A B : World} (h : Mod No A B) (hB : B0 ≤ A.heap.size) (ho : o < A.heap.size) : KpL B0 B2 o A B :=
  ⟨h.below B0 hB (fun _ _ x => x), .inl (by unfold outBlk; rw [World.cell?_of_block (w := A) (h.block o ho (fun x => x))]), fun k x _ hx _ _ => by rw [h.block k (Array.getElem?_eq_some_iff.1 hx).1 (fun x => x)]; exact hx⟩
theorem KpL.b {B0 B2 o n : Nat} {w : World} (hn : B0 ≤ w.heap.size) (ho : o < w.heap.size) (W : World) (l : Nat) (x x' : Obj) (hl : w.heap.size ≤ l) (h : W.heap[l]? = some x) (hc : x.isCells = false) (hw : x.isWalk = false) : KpL B0 B2 o W (W.putObj l x') :=
  ⟨belowK_b hn W l x x' hl h hc hw, .inl (by unfold outBlk; rw [World.cell?_of_block (w := W) (World.putObj_heap_other (by dsimp only; omega))]), fun k u _ hu huc _ => by
    have hkl : k ≠ l := fun e => by subst e; rw [h] at hu; cases hu; rw [hc] at huc; cases huc
    rw [World.putObj_heap_other hkl]
    exact hu⟩
theorem outBlk_boxed {W : World} {o : Nat} {t : TypeId} {v : Value} (h : Boxed W o t v) : outBlk W o = v.ownBlock := by unfold outBlk; rw [h.cell]
/-- A slice's growth, and the variable that holds it. -/
theorem KpL.grow {B0 B2 o : Nat} {W W1 : World} {t e : TypeId} {v v' : Value} {k m : Nat} {xs ys : List Value} {tmp : Obj} (hv : Boxed W o t v) (hte : t ≠ e) (hrow : W.ownsRow B0 e 1 v k xs) (h0 : B0 ≤ W.heap.size) (ho : B0 ≤ o) (ho2 : o < B2)
    (hown : W1.ownsRow B0 e 1 v' m ys) (hgrow : (W.alloc tmp).grownBy W1 v.ownBlock) (hblk : v'.ownBlock = v.ownBlock ∨ v'.ownBlock = some (W.alloc tmp).heap.size) : KpL B0 B2 o W (W1.setCell ⟨o, 0, none⟩ v') := by
  obtain ⟨h1, h2, h3, h4, h5⟩ := hv.appended hte hrow h0 ho hown hgrow
  refine ⟨h5, ?_, fun j x hj hx hc hn => ?_⟩
  · rw [outBlk_boxed h2, outBlk_boxed hv]
    rcases hblk with e | e
    · exact .inl e
    · exact .inr ⟨_, e, by simp⟩
  · rw [outBlk_boxed hv] at hn
    have hjw := (Array.getElem?_eq_some_iff.1 hx).1
    rw [at_setCell_ne _ _ (show j ≠ o by omega), hgrow.block j (by simp; omega) (fun e => hn e.symm), Below.heap_alloc _ _ _ hjw]
    exact hx

/-- append to a slice that is owned, at a step of a region that draws its order. -/
theorem oper_append_own {P : Program} {w : World} {o : Oper} {a : Act} {K : Act → World → Prop} {Q : Exit → Act → World → Prop}
    (s x : Operand) (t : TypeId) (hop : o.op = Op.call { callee := Callee.builtin Builtin.append, args := #[s, x], argTypes := #[t, t] })
    (base : Nat) (e : TypeId) (i : TypeInfo) (z : Value) (size bytes : Nat) (h1 : P.underlying t = some (.slice e)) (h2 : P.info? e = some i) (h3 : i.zero = some z) (h4 : i.size = size) (h5 : i.bytes = bytes) (h6 : z.cells.size = size) (h7 : 0 < size)
    (v : Value) (k : Nat) (xs : List Value) (hs : a.eval s = v) (hown : w.ownsRow base e size v k xs) (ad : Addr) (m c : Nat) (news : List Value) (hx : a.eval x = .slice (some ad) m c) (hn : news.length = m * size)
    (hc : ∀ j u, news[j]? = some u → w.cell? (ad.add j) = some u) (h1c : ∀ u ∈ news, u.oneCell' = true) (b1 : k + m ≤ maxLen) (b2 : (k + m) * bytes ≤ 140737488355328) (b3 : base ≤ w.heap.size)
    (hK : ∀ v' w', w'.ownsRow base e size v' (k + m) (xs ++ news) → w.grownBy w' v.ownBlock → (v'.ownBlock = v.ownBlock ∨ v'.ownBlock = some w.heap.size) → K (a.put o.dst v') w') : Oper.wp P o a w K Q := by
  obtain ⟨v', w', hrun, r1, r2, _, r4⟩ := run_append_own_at (P := P) w base t o.type e i z size bytes h1 h2 h3 h4 h5 h6 h7 v k xs hown ad m c news hn hc h1c b1 b2 b3
  unfold Oper.wp execOp
  simp only [hop, resolve, invoke, builtin, Sem.run_bind, Sem.run_pure, Result.andThen_ok, List.map_toArray, List.map_cons, List.map_nil, hs, hx, hrun]
  exact hK _ _ r1 r2 r4

attribute [local go_sem] Oper.semAt_some

theorem infoInt : (Tryd.prog.info? 3).map (fun i => (i.zero, i.size, i.bytes)) = some (some (.int .i64 0), 1, 8) := by kernel_rfl

/-- What stands in a round: the slice, the world behind the round's start. -/
def LSt (Bx : Nat) (h : Hd) (l : List Int) (w W W' : World) : Prop :=
  (∃ v, Boxed W' w.heap.size 22 v ∧ W'.ownsRow w.heap.size 3 1 v l.length (l.map (Value.int .i64))) ∧ Below w.heap.size w W' ∧ KeepsOthers W W' ∧ KpL w.heap.size (w.heap.size + 1) w.heap.size W W' ∧ HCel Bx h W'
theorem LSt.mod {Bx : Nat} {h : Hd} {l : List Int} {w W W1 W2 : World} (s : LSt Bx h l w W W1) (hm : Mod No W1 W2) : LSt Bx h l w W W2 := by
  obtain ⟨⟨v, hv, hr⟩, h2, h3, h4, h5⟩ := s
  have hg := Mod.grown0 hm
  exact ⟨⟨v, hv.kept hg (by simp), hr.kept hg (by
    rcases hr.2 with ⟨rfl, _⟩ | ⟨g, cap, cur, rfl, _⟩
    · exact .inl rfl
    · exact .inr (by simp [Value.ownBlock]))⟩, h2.trans (hm.below _ h2.size (fun _ _ x => x)), h3.trans (KeepsOthers.of_mod hm), h4.trans (KpL.of_mod hm h2.size hv.lt), h5.mod hm⟩
/-- An element more. -/
theorem LSt.grow {Bx : Nat} {h : Hd} {l : List Int} {w W W1 w2 : World} {v v' : Value} {a : Int} {tmp : Obj} (hst : LSt Bx h l w W W1) (hv : Boxed W1 w.heap.size 22 v) (hr : W1.ownsRow w.heap.size 3 1 v l.length (l.map (Value.int .i64))) (hBx : w.heap.size < Bx)
    (hown : w2.ownsRow w.heap.size 3 1 v' (l.length + 1) (l.map (Value.int .i64) ++ [.int .i64 a])) (hgrow : (W1.alloc tmp).grownBy w2 v.ownBlock) (hblk : v'.ownBlock = v.ownBlock ∨ v'.ownBlock = some (W1.alloc tmp).heap.size) :
    LSt Bx h (l ++ [a]) w W (w2.setCell ⟨w.heap.size, 0, none⟩ v') ∧ Boxed w2 w.heap.size 22 v ∧ HCel Bx h w2 := by
  obtain ⟨_, h2, h3, h4, h5⟩ := hst
  have hle := h2.size
  obtain ⟨q1, q2, q3, q4, q5⟩ := hv.appended (by decide) hr hle (Nat.le_refl _) hown hgrow
  have hne : v.ownBlock ≠ some Bx := row_ne hr (show W1.heap[Bx]? = _ from h5) (by decide)
  have hlt := (Array.getElem?_eq_some_iff.1 (show W1.heap[Bx]? = _ from h5)).1
  have h6 : HCel Bx h w2 := by
    show w2.heap[Bx]? = _
    rw [hgrow.block Bx (by simp; omega) (fun e => hne e.symm), Below.heap_alloc _ _ _ hlt]
    exact h5
  refine ⟨⟨⟨v', q2, by rw [List.length_append, List.map_append]; exact q3⟩, h2.trans q5, h3.trans q4, h4.trans (KpL.grow hv (by decide) hr hle (Nat.le_refl _) (by omega) hown hgrow hblk), ?_⟩, q1, h6⟩
  show (w2.setCell ⟨w.heap.size, 0, none⟩ v').heap[Bx]? = _
  rw [at_setCell_ne _ _ (show Bx ≠ w.heap.size by omega)]
  exact h6

theorem lrow_own {S : Slb} (n B : Nat) : Own (fun (pre : List (HdOf S)) W => ∃ v, Boxed W B 22 v ∧ W.ownsRow n 3 1 v ((pre.map (·.1)).flatMap liveE).length (((pre.map (·.1)).flatMap liveE).map (Value.int .i64))) := fun s A W row hs hg hr => by
  obtain ⟨v, h1, h2, _⟩ := holdsRow_own (β := List (HdOf S)) n B 22 3 1 (fun pre => ((pre.map (·.1)).flatMap liveE).length) (fun pre => ((pre.map (·.1)).flatMap liveE).map (Value.int .i64)) (fun _ _ => True) s A W row (by obtain ⟨v, h1, h2⟩ := hs; exact ⟨v, h1, h2, trivial⟩) hg hr
  exact ⟨v, h1, h2⟩

set_option maxRecDepth 100000 in
set_option maxHeartbeats 8000000 in
theorem live_in (hS : Sep F0 w0 w Ps) (i j : Nat) {b s : Nat} {S : Slb} (hi : Ps[i]? = some (hpAt b s)) (hj : Ps[j]? = some (slabR s S)) :
    Calls Tryd.prog 9 #[.pointer (some ⟨b, 0, none⟩)] w fun e w' => ∃ v, e = .returned v ∧ Below w.heap.size w w' ∧ w'.ownsRow w.heap.size 3 1 v S.live.length (S.live.map (Value.int .i64)) := by
  have hok := hS.sOk j hj
  have hlen := Slb.heads_len hok
  refine (callsIn_wide (n := 4)).1 ?_
  refine callsIn_of_wp_marks Tryd.func9 rfl trivial ?_ rfl
  simp only [Tryd.ntmps9, List.size_toArray, List.length_cons, List.length_nil, Nat.reduceAdd, Nat.reduceSub, Array.replicate_succ, Array.replicate_zero, List.push_toArray, List.append_toArray, List.nil_append, List.cons_append]
  gi_wp2_with fail
  refine ⟨trivial, ?_⟩
  refine (callsIn_wide.2 (hnone_call hS i hi)).mono ?_
  rintro e w' ⟨rfl, rfl⟩
  gi_wp2_with fail
  refine ⟨trivial, ?_⟩
  refine (callsIn_wide.2 (heads_call b _)).mono ?_
  rintro e w2 ⟨rfl, rfl⟩
  gi_wp2_with fail
  have hbox := Boxed.new w 22 (.slice none 0 0)
  obtain ⟨W0, hW0⟩ : ∃ x, (w.alloc (.cells #[.slice none 0 0] 22)).alloc (.cells #[.pointer (some ⟨b, 0, none⟩)] 35) = x := ⟨_, rfl⟩
  have hsz : W0.heap.size = w.heap.size + 2 := by rw [← hW0]; simp
  have hb0 : Below w.heap.size w W0 := by rw [← hW0]; exact ((Below.refl _ w).alloc (Nat.le_refl _) _).alloc (by simp) _
  have hbox0 : Boxed W0 w.heap.size 22 (.slice none 0 0) := by rw [← hW0]; exact hbox.alloc _
  have hbx : W0.cell? ⟨w.heap.size + 1, 0, none⟩ = some (.pointer (some ⟨b, 0, none⟩)) := by
    rw [← hW0]
    have := cell_at (heap_alloc_new (w.alloc (.cells #[.slice none 0 0] 22)) (.cells #[.pointer (some ⟨b, 0, none⟩)] 35)) 0
    simp only [World.size_alloc] at this
    exact this
  rw [hW0]
  clear hW0 hbox
  have HO := Lib.hid hok
  have HL := Lib.hid hlen
  have HSep := Lib.hid (And.intro hS (And.intro hi hj))
  have hstops := heads_stopsK hS i j hi hj (w.heap.size + 1) W0 hb0 hbx 3 (by omega) (KpL w.heap.size (w.heap.size + 1) w.heap.size) (KpL.refl _ _ _) (fun _ _ _ => KpL.trans) (fun _ _ h => h.1) (fun A B hm hs => KpL.of_mod hm (by omega) (by omega))
    (fun W1 wr g x hW1 hK hg hx hc => hK.2.2 g x hg hx hc (by
      have hb1 : Boxed W1 w.heap.size 22 (.slice none 0 0) := (hW1.block _ (by omega)).trans hbox0
      rw [outBlk_boxed hb1]
      simp [Value.ownBlock]))
  refine wpIn_rangeFunc_ownH rfl (by omega) (gf := 48) (lb := #[.pointer (some ⟨w.heap.size + 1, 0, none⟩)]) rfl trivial (enters_of Tryd.func48 (by kernel_rfl) rfl) hstops KpL.trans (fun W l o o' hl h hc hw => KpL.b (n := 0) (w := W0) (by omega) (by omega) W l o o' hl h hc hw) (Below.refl _ _) (fun _ => rfl)
    (fun pre W => (∃ v, Boxed W w.heap.size 22 v ∧ W.ownsRow w.heap.size 3 1 v ((pre.map (·.1)).flatMap liveE).length (((pre.map (·.1)).flatMap liveE).map (Value.int .i64))) ∧ Below w.heap.size w W)
    (fun _ _ _ => False)
    (OwnFrom.and (Own.from (lrow_own _ _) _) (ownFrom_below (Nat.le_refl _) (by omega)))
    (fun q s A B row hs hg hr => hs)
    ⟨⟨_, hbox0, World.ownsRow_nil ..⟩, hb0⟩
    (fun x a' W => ∃ Bx, (w.heap.size < Bx ∧ HCel Bx x.1.2 W) ∧ a' = { tmps := #[.pointer (some ⟨b, 0, none⟩), undef, .slice none 0 0, .pointer (some ⟨w.heap.size, 0, none⟩), .int .i64 ((x.1.1 : Nat) : Int), .pointer (some ⟨Bx, 0, none⟩), undef, undef, undef, .pointer (some ⟨b, 0, none⟩), .bool false, .pointer (some ⟨b, 0, none⟩), .func (.func 48) #[] #[.pointer (some ⟨w.heap.size + 1, 0, none⟩)], .int .i64 ((x.1.1 : Nat) : Int), .agg #[.int .i64 x.1.2.kind, .int .i64 x.1.2.n, .int .u64 x.1.2.w], undef, undef, undef, undef, undef, undef, undef, undef, undef, undef, undef, undef, undef, undef, undef, undef, undef, undef, undef, undef, undef, undef, undef, undef, undef, undef, undef, undef, undef, undef, undef, undef, undef], defers := [] })
    (fun x a' _ A B row hs hg hr => by obtain ⟨Bx, ⟨h1, h2⟩, h3⟩ := hs; exact ⟨Bx, ⟨h1, hcel_own (β := Unit) _ _ () _ _ _ h2 hg (fun r e => (hr r e).2)⟩, h3⟩) ?assign ?body ?done ?stop
  case assign =>
    rintro l pre x W K ⟨⟨v, hv, hr⟩, hB⟩ hK
    have hm : Mod No W (W.alloc (.cells #[.int .i64 x.1.2.kind, .int .i64 x.1.2.n, .int .u64 x.1.2.w] 71)) := (Mod.refl No W).alloc _
    have hK1 := hK _ (W.alloc (.cells #[.int .i64 x.1.2.kind, .int .i64 x.1.2.n, .int .u64 x.1.2.w] 71)) ((KeepsOthers.alloc _ _).from _) (KpL.of_mod hm hB.size hv.lt) ⟨⟨v, hv.alloc _, hr.alloc _⟩, hB.alloc hB.size _⟩ ⟨W.heap.size, ⟨hv.lt, heap_alloc_new W _⟩, rfl⟩
    clear hK
    gi_wp2
    exact hK1
  case body =>
    rintro l pre x a' W hl ⟨rr, hrr⟩ ⟨hrow, hB⟩ ⟨Bx, ⟨hBx, hb⟩, rfl⟩ hlen
    obtain ⟨⟨p, kd, nn, ww⟩, hx⟩ := x
    have hmem := Slb.heads_mem hx
    have hrg := Slb.hd_range HO.out (p : Int)
    rw [← hmem.2] at hrg
    have hps := HO.out.small _ hmem.1
    dsimp only at hb hrg hps ⊢
    obtain ⟨N, rfl⟩ := Int.eq_ofNat_of_zero_le hrg.2.2.2.2.1
    have hs0 := liveL_len (pre.map (·.1))
    rw [List.length_map] at hs0
    have hl2 := HL.out
    have HE : Hid (((pre ++ [(⟨(p, ⟨kd, nn, (N : Int)⟩), hx⟩ : HdOf S)]).map (·.1)).flatMap liveE = (pre.map (·.1)).flatMap liveE ++ liveE (p, ⟨kd, nn, (N : Int)⟩)) := by
      show _ = _
      rw [List.map_append, List.flatMap_append]
      simp
    obtain ⟨L, hL⟩ : ∃ x, (pre.map (·.1)).flatMap liveE = x := ⟨_, rfl⟩
    rw [hL] at hrow hs0 HE
    have hLl : L.length ≤ 126976 := by omega
    have ST0 : Hid (LSt Bx ⟨kd, nn, (N : Int)⟩ L w W W) := ⟨hrow, hB, KeepsOthers.refl _, KpL.refl _ _ _ _, hb⟩
    obtain ⟨v, hv, hr⟩ := hrow
    have hform : ∃ sa cap, v = .slice sa L.length cap := by
      obtain ⟨rfl, hz⟩ | ⟨g, cap, rfl⟩ := Joins.ownsRow_forms hr
      · exact ⟨none, 0, by rw [hz]⟩
      · exact ⟨_, _, rfl⟩
    obtain ⟨sa, cap, rfl⟩ := hform
    have hvc := hv.cell
    have hvf := hv.frozen
    obtain ⟨⟨b0, _⟩, ⟨b1, _⟩, ⟨b2, _⟩⟩ := hb.cells
    dsimp only at b0 b1 b2
    have hwle := hB.size
    have HV := Lib.hid (And.intro hv hr)
    clear hmem hlen hrr hs0 hl2 hL hB hb hv
    have hmx : Tryd.prog.follows .mixedOrders = true := by kernel_rfl
    obtain ⟨i0, hi0, hz0, hz1, hz2⟩ := info_parts infoInt
    have HI := Lib.hid (And.intro hi0 (And.intro hz0 (And.intro hz1 hz2)))
    by_cases h2 : kd = 2
    · subst h2
      have HR := Lib.hid (show liveE (p, ⟨2, nn, (N : Int)⟩) = [(p : Int) * 64 + 2] from if_pos rfl)
      gi_wp2_with (gi_at_builtin; refine wpListIn_append_own_at _ (by rfl) _ _ 22 (by rfl) w.heap.size 3 i0 _ 1 8 Tryd.underlying22 hi0 hz0 hz1 hz2 rfl (by decide) _ _ _ (by rfl) (hr.alloc _) ⟨W.heap.size, 0, none⟩ 1 1 [.int .i64 ((p : Int) * 64 + 2)] (by rfl) rfl (cell_one_new _ _ _) (by simp [Value.oneCell']) (by unfold maxLen; omega) (by omega) (Nat.le_trans hwle (by simp)) ?_)
      intro v' w1 hown' hgrow _ hblk
      obtain ⟨g', cap', rfl⟩ := ownsRow_succ hown'
      obtain ⟨hG, hv1, _⟩ := LSt.grow ST0.out HV.out.1 HV.out.2 hBx hown' hgrow (hblk.imp id (fun h => by rw [h]; simp))
      have hc1 := hv1.cell
      have hf1 := hv1.frozen
      have HG := Lib.hid hG
      clear hG hv1 hown' hgrow hblk hr hvc hvf b0 b1 b2
      gi_wp2
      refine ⟨HG.out.2.2.1.from _, HG.out.2.2.2.1, ?_, HG.out.2.1⟩
      rw [HE.out, HR.out]
      exact HG.out.1
    · have d2 : (kd == 2) = false := beqF h2
      have hsl := slots_call nn W
      have hN1 := cslots_range nn
      have HR : Hid (liveE (p, ⟨kd, nn, (N : Int)⟩) = liveS (p, ⟨kd, nn, (N : Int)⟩) (cslots nn).1.toNat) := if_neg h2
      obtain ⟨N1, hN1e⟩ : ∃ x, (cslots nn).1 = x := ⟨_, rfl⟩
      obtain ⟨N2, hN2e⟩ : ∃ x, (cslots nn).2 = x := ⟨_, rfl⟩
      rw [hN1e] at hsl hN1 HR
      rw [hN2e] at hsl
      obtain ⟨hN10, hN11⟩ := hN1
      clear h2 hN1e hN2e hvc hvf hr
      gi_wp2_with fail
      refine ⟨trivial, ?_⟩
      refine (CallsIn.inRound l (callsIn_wide.2 hsl)).mono ?_
      rintro e w3 ⟨rfl, hm3⟩
      have ST3 : Hid (LSt Bx ⟨kd, nn, (N : Int)⟩ L w W w3) := ST0.out.mod hm3
      clear hsl hm3 b0 b1 b2
      gi_wp2_with fail
      gi_loopw [31] (fun iv wr => ∃ k : Nat, (k : Int) ≤ N1 ∧ iv = .int .i64 k ∧ LSt Bx ⟨kd, nn, (N : Int)⟩ (L ++ liveS (p, ⟨kd, nn, (N : Int)⟩) k) w W wr) (fun iv _ => N1.toNat - (RowKit.intOf iv).toNat)
      case atStart => exact ⟨0, by omega, rfl, by rw [show liveS (p, ⟨kd, nn, (N : Int)⟩) 0 = [] from rfl, List.append_nil]; exact ST3.out⟩
      case round =>
        obtain ⟨k, hk, rfl, hst⟩ := hrel
        clear ST3
        by_cases hlt : (k : Int) < N1
        · have ST := Lib.hid hst
          obtain ⟨⟨v, hv, hr⟩, hB, _, _, hb⟩ := hst
          have hform : ∃ sa cap, v = .slice sa (L ++ liveS (p, ⟨kd, nn, (N : Int)⟩) k).length cap := by
            obtain ⟨rfl, hz⟩ | ⟨g, cap, rfl⟩ := Joins.ownsRow_forms hr
            · exact ⟨none, 0, by rw [hz]⟩
            · exact ⟨_, _, rfl⟩
          obtain ⟨sb, capb, rfl⟩ := hform
          obtain ⟨⟨b0, _⟩, ⟨b1, _⟩, ⟨b2, _⟩⟩ := hb.cells
          dsimp only at b0 b1 b2
          have hhs := has_call N (by omega) (k : Int) wr
          have hMl := liveS_len (p, ⟨kd, nn, (N : Int)⟩) k
          obtain ⟨M, hM⟩ : ∃ x, L ++ liveS (p, ⟨kd, nn, (N : Int)⟩) k = x := ⟨_, rfl⟩
          have hMlen : M.length ≤ 200000 := by rw [← hM, List.length_append]; omega
          have HMe := Lib.hid hM
          rw [hM] at hr hv ST
          obtain ⟨hv0, hhv⟩ : ∃ x, Bt.has N (k : Int) = x := ⟨_, rfl⟩
          have HHV := Lib.hid hhv
          rw [hhv] at hhs
          have hvc := hv.cell
          have hvf := hv.frozen
          have hk0 : (0 : Int) ≤ (k : Int) := by omega
          have hp0 : (0 : Int) ≤ (p : Int) := by omega
          have hq0 : (p : Int) ≤ 33554432 := by omega
          have hpl := fun W' => hplace_call (p : Int) nn (k : Int) hp0 (by omega) W'
          obtain ⟨ad, had⟩ : ∃ x, hplace (p : Int) nn (k : Int) = x := ⟨_, rfl⟩
          have HPL : Hid (∀ W', Calls Tryd.prog 26 #[.int .i64 (p : Int), .int .i64 nn, .int .i64 (k : Int)] W' fun e w' => e = .returned (.int .i64 ad) ∧ Mod No W' w') := fun W' => by
            have := hpl W'
            rw [had] at this
            exact this
          have HAD := Lib.hid had
          have hwle2 := hB.size
          have HV2 := Lib.hid (And.intro hv hr)
          clear hv hB hb hMl hM hhv had hpl
          cases hv0 with
          | false =>
            have HS : Hid (liveS (p, ⟨kd, nn, (N : Int)⟩) (k + 1) = liveS (p, ⟨kd, nn, (N : Int)⟩) k) := by
              have hb : ¬ Bt.has (N : Int).toNat (k : Int) = true := by rw [Int.toNat_natCast, HHV.out]; decide
              show _ = _
              rw [liveS_succ]
              dsimp only
              rw [if_neg hb, List.append_nil]
            clear hr hvc hvf
            gi_wp2_with fail
            refine ⟨trivial, ?_⟩
            refine (CallsIn.inRound l (callsIn_wide.2 hhs)).mono ?_
            rintro e w' ⟨rfl, rfl⟩
            clear hhs
            gi_wp2
            go_roundw
            case rel => exact ⟨k + 1, by omega, by go_num, by rw [HS.out, HMe.out]; exact ST.out⟩
            case measure => simp [RowKit.intOf]; omega
          | true =>
            have HS : Hid (liveS (p, ⟨kd, nn, (N : Int)⟩) (k + 1) = liveS (p, ⟨kd, nn, (N : Int)⟩) k ++ [ad]) := by
              have hb : Bt.has (N : Int).toNat (k : Int) = true := by rw [Int.toNat_natCast, HHV.out]
              show _ = _
              rw [liveS_succ]
              dsimp only
              rw [if_pos hb, HAD.out]
            gi_wp2_with fail
            refine ⟨trivial, ?_⟩
            refine (CallsIn.inRound l (callsIn_wide.2 hhs)).mono ?_
            rintro e w' ⟨rfl, rfl⟩
            clear hhs
            gi_wp2_with fail
            refine wp_region_round (S := fun w' => w'.cell? ⟨Bx, 1, none⟩ = some (.int .i64 nn)) hmx (by kernel_rfl) (by rintro ⟨_, _, h⟩; exact h) b1 (fun hHeld => ?_)
            have hvD : wr.drew.cell? ⟨w.heap.size, 0, none⟩ = some (.slice sb M.length capb) := hvc
            have hmD : Mod No wr wr.drew := (Mod.refl No wr).drew
            have HMD := Lib.hid hmD
            clear hvc hvf b0 b1 b2 hr hmD
            refine wpAnyH_takeD (i := 1) (v := ?_) (some 39) rfl (by rfl) (by kernel_rfl) (by kernel_rfl) (by kernel_rfl) (fun _ _ _ h => h) (Or.inl ⟨by rfl, ?_⟩) (by assumption) ?_
            rotate_left
            · intro w hSw
              try dsimp only at hSw
              go_simp
              try with_reducible rfl
            simp only [Act.put, List.setIfInBounds_toArray, List.set_cons_zero, List.set_cons_succ]
            refine wpAnyH_takeD (i := 2) (v := ?_) (some 40) rfl (by rfl) (by kernel_rfl) (by kernel_rfl) (by kernel_rfl) (fun _ _ _ h => h) (Or.inl ⟨by rfl, ?_⟩) (by assumption) ?_
            rotate_left
            · intro w hSw
              try dsimp only at hSw
              go_simp
              try with_reducible rfl
            simp only [Act.put, List.setIfInBounds_toArray, List.set_cons_zero, List.set_cons_succ]
            refine wpAnyH_takeD (i := 3) (v := ?_) (some 41) rfl (by rfl) (by kernel_rfl) (by kernel_rfl) (by kernel_rfl) (fun _ _ _ h => h) (Or.inl ⟨by rfl, ?_⟩) (by assumption) ?_
            rotate_left
            · intro w hSw
              try dsimp only at hSw
              go_simp
              try with_reducible rfl
            simp only [Act.put, List.setIfInBounds_toArray, List.set_cons_zero, List.set_cons_succ]
            refine wpAnyH_takeD (i := 4) (v := ?_) (some 42) rfl (by rfl) (by kernel_rfl) (by kernel_rfl) (by kernel_rfl) (fun _ _ _ h => h) (Or.inl ⟨by rfl, ?_⟩) (by assumption) ?_
            rotate_left
            · intro w hSw
              try dsimp only at hSw
              go_simp
              try with_reducible rfl
            simp only [Act.put, List.setIfInBounds_toArray, List.set_cons_zero, List.set_cons_succ]
            refine wpAnyH_ready (rs := [0, 5]) (by kernel_rfl) (by simp) ?_
            refine AllReadyH.cons rfl (fun K hK => ?_) (AllReadyH.cons rfl (fun K hK => ?_) AllReadyH.nil)
            · skip
              go_simp
              refine hK.out _ _ hHeld (fun _ => ?_)
              clear hK K
              try simp only [Act.put, List.setIfInBounds_toArray, List.set_cons_zero, List.set_cons_succ]
              refine wpAnyH_ready (rs := [5]) (by kernel_rfl) (by simp) ?_
              refine AllReadyH.cons rfl (fun K hK => ?_) AllReadyH.nil
              go_simp
              refine (HPL.out _).mono ?_
              rintro e w4 ⟨rfl, hm4⟩
              have ST4 : Hid (LSt Bx ⟨kd, nn, (N : Int)⟩ M w W w4) := ST.out.mod (HMD.out.trans' hm4)
              have hg4 := Mod.grown0 (HMD.out.trans' hm4)
              have HV4 : Hid (Boxed w4 w.heap.size 22 (.slice sb M.length capb) ∧ w4.ownsRow w.heap.size 3 1 (.slice sb M.length capb) M.length (M.map (Value.int .i64))) := ⟨HV2.out.1.kept hg4 (by simp), HV2.out.2.kept hg4 (by
                rcases HV2.out.2.2 with ⟨h, _⟩ | ⟨g, cap, cur, h, _⟩
                · exact .inl (by rw [h]; rfl)
                · exact .inr (by rw [h]; simp [Value.ownBlock]))⟩
              have HX := hm4.cell hHeld (fun x => x)
              have hwle4 := ST4.out.2.1.size
              clear hg4 hm4
              refine hK.out _ _ HX (fun _ => ?_)
              clear hK K hHeld
              have hHeld := HX
              clear HX
              try simp only [Act.put, List.setIfInBounds_toArray, List.set_cons_zero, List.set_cons_succ]
              refine wpAnyH_ready (rs := [6]) (by kernel_rfl) (by simp) ?_
              refine AllReadyH.cons rfl (fun K hK => ?_) AllReadyH.nil
              go_simp
              have hHeld2 : (w4.alloc (.cells #[.int .i64 ad] 3)).cell? ⟨Bx, 1, none⟩ = some (.int .i64 nn) := ((Mod.refl No w4).alloc _).cell hHeld (fun x => x)
              refine hK.out _ _ hHeld2 (fun _ => ?_)
              clear hK K hHeld
              have hHeld := hHeld2
              clear hHeld2
              try simp only [Act.put, List.setIfInBounds_toArray, List.set_cons_zero, List.set_cons_succ]
              refine wpAnyH_ready (rs := [7]) (by kernel_rfl) (by simp) ?_
              refine AllReadyH.cons rfl (fun K hK => ?_) AllReadyH.nil
              refine oper_append_own _ _ 22 (by rfl) w.heap.size 3 i0 _ 1 8 Tryd.underlying22 hi0 hz0 hz1 hz2 rfl (by decide) _ _ _ (by rfl) (HV4.out.2.alloc _) ⟨w4.heap.size, 0, none⟩ 1 1 [.int .i64 ad] (by rfl) rfl (cell_one_new _ _ _) (by simp [Value.oneCell']) (by unfold maxLen; omega) (by omega) (Nat.le_trans hwle4 (by simp)) ?_
              intro v' w5 hown' hgrow hblk
              obtain ⟨g', cap', rfl⟩ := ownsRow_succ hown'
              obtain ⟨hG, hv1, hb5⟩ := LSt.grow ST4.out HV4.out.1 HV4.out.2 hBx hown' hgrow hblk
              have hc1 := hv1.cell
              have hf1 := hv1.frozen
              have HG := Lib.hid hG
              refine hK.out _ _ hb5.cells.2.1.1 (fun _ => ?_)
              clear hK K hHeld hown' hgrow hblk hv1 hG
              have HX8 : Hid ((w5.setCell ⟨w.heap.size, 0, none⟩ (.slice (some ⟨g', 0, none⟩) (M.length + 1) cap')).cell? ⟨Bx, 1, none⟩ = some (.int .i64 nn)) := HG.out.2.2.2.2.cells.2.1.1
              simp only [Act.put, List.setIfInBounds_toArray, List.set_cons_zero, List.set_cons_succ]
              refine wpAnyH_ready (rs := [8]) (by kernel_rfl) (by simp) ?_
              refine AllReadyH.cons rfl (fun K hK => ?_) AllReadyH.nil
              go_simp
              have hHeld := HX8.out
              refine hK.out _ _ hHeld (fun _ => ?_)
              clear hK K
              refine wpAnyH_done (by kernel_rfl) ?_ _
              clear hHeld hc1 hf1 hb5
              gi_wp2
              go_roundw
              case rel => exact ⟨k + 1, by omega, by go_num, by rw [HS.out, ← List.append_assoc, HMe.out]; exact HG.out⟩
              case measure => simp [RowKit.intOf]; omega
            · skip
              go_simp
              refine (HPL.out _).mono ?_
              rintro e w4 ⟨rfl, hm4⟩
              have ST4 : Hid (LSt Bx ⟨kd, nn, (N : Int)⟩ M w W w4) := ST.out.mod (HMD.out.trans' hm4)
              have hg4 := Mod.grown0 (HMD.out.trans' hm4)
              have HV4 : Hid (Boxed w4 w.heap.size 22 (.slice sb M.length capb) ∧ w4.ownsRow w.heap.size 3 1 (.slice sb M.length capb) M.length (M.map (Value.int .i64))) := ⟨HV2.out.1.kept hg4 (by simp), HV2.out.2.kept hg4 (by
                rcases HV2.out.2.2 with ⟨h, _⟩ | ⟨g, cap, cur, h, _⟩
                · exact .inl (by rw [h]; rfl)
                · exact .inr (by rw [h]; simp [Value.ownBlock]))⟩
              have HX := hm4.cell hHeld (fun x => x)
              have hwle4 := ST4.out.2.1.size
              clear hg4 hm4
              refine hK.out _ _ HX (fun _ => ?_)
              clear hK K hHeld
              have hHeld := HX
              clear HX
              try simp only [Act.put, List.setIfInBounds_toArray, List.set_cons_zero, List.set_cons_succ]
              have hv4 : w4.cell? ⟨w.heap.size, 0, none⟩ = some (.slice sb M.length capb) := HV4.out.1.cell
              refine wpAnyH_ready (rs := [0, 6]) (by kernel_rfl) (by simp) ?_
              refine AllReadyH.cons rfl (fun K hK => ?_) (AllReadyH.cons rfl (fun K hK => ?_) AllReadyH.nil)
              · skip
                go_simp
                refine hK.out _ _ hHeld (fun _ => ?_)
                clear hK K
                try simp only [Act.put, List.setIfInBounds_toArray, List.set_cons_zero, List.set_cons_succ]
                refine wpAnyH_ready (rs := [6]) (by kernel_rfl) (by simp) ?_
                refine AllReadyH.cons rfl (fun K hK => ?_) AllReadyH.nil
                go_simp
                have hHeld2 : (w4.alloc (.cells #[.int .i64 ad] 3)).cell? ⟨Bx, 1, none⟩ = some (.int .i64 nn) := ((Mod.refl No w4).alloc _).cell hHeld (fun x => x)
                refine hK.out _ _ hHeld2 (fun _ => ?_)
                clear hK K hHeld
                have hHeld := hHeld2
                clear hHeld2
                try simp only [Act.put, List.setIfInBounds_toArray, List.set_cons_zero, List.set_cons_succ]
                refine wpAnyH_ready (rs := [7]) (by kernel_rfl) (by simp) ?_
                refine AllReadyH.cons rfl (fun K hK => ?_) AllReadyH.nil
                refine oper_append_own _ _ 22 (by rfl) w.heap.size 3 i0 _ 1 8 Tryd.underlying22 hi0 hz0 hz1 hz2 rfl (by decide) _ _ _ (by rfl) (HV4.out.2.alloc _) ⟨w4.heap.size, 0, none⟩ 1 1 [.int .i64 ad] (by rfl) rfl (cell_one_new _ _ _) (by simp [Value.oneCell']) (by unfold maxLen; omega) (by omega) (Nat.le_trans hwle4 (by simp)) ?_
                intro v' w5 hown' hgrow hblk
                obtain ⟨g', cap', rfl⟩ := ownsRow_succ hown'
                obtain ⟨hG, hv1, hb5⟩ := LSt.grow ST4.out HV4.out.1 HV4.out.2 hBx hown' hgrow hblk
                have hc1 := hv1.cell
                have hf1 := hv1.frozen
                have HG := Lib.hid hG
                refine hK.out _ _ hb5.cells.2.1.1 (fun _ => ?_)
                clear hK K hHeld hown' hgrow hblk hv1 hG
                have HX8 : Hid ((w5.setCell ⟨w.heap.size, 0, none⟩ (.slice (some ⟨g', 0, none⟩) (M.length + 1) cap')).cell? ⟨Bx, 1, none⟩ = some (.int .i64 nn)) := HG.out.2.2.2.2.cells.2.1.1
                simp only [Act.put, List.setIfInBounds_toArray, List.set_cons_zero, List.set_cons_succ]
                refine wpAnyH_ready (rs := [8]) (by kernel_rfl) (by simp) ?_
                refine AllReadyH.cons rfl (fun K hK => ?_) AllReadyH.nil
                go_simp
                have hHeld := HX8.out
                refine hK.out _ _ hHeld (fun _ => ?_)
                clear hK K
                refine wpAnyH_done (by kernel_rfl) ?_ _
                clear hHeld hc1 hf1 hb5
                gi_wp2
                go_roundw
                case rel => exact ⟨k + 1, by omega, by go_num, by rw [HS.out, ← List.append_assoc, HMe.out]; exact HG.out⟩
                case measure => simp [RowKit.intOf]; omega
              · skip
                go_simp
                have hHeld2 : (w4.alloc (.cells #[.int .i64 ad] 3)).cell? ⟨Bx, 1, none⟩ = some (.int .i64 nn) := ((Mod.refl No w4).alloc _).cell hHeld (fun x => x)
                refine hK.out _ _ hHeld2 (fun _ => ?_)
                clear hK K hHeld
                have hHeld := hHeld2
                clear hHeld2
                try simp only [Act.put, List.setIfInBounds_toArray, List.set_cons_zero, List.set_cons_succ]
                have hv5 : (w4.alloc (.cells #[.int .i64 ad] 3)).cell? ⟨w.heap.size, 0, none⟩ = some (.slice sb M.length capb) := (HV4.out.1.alloc _).cell
                refine wpAnyH_ready (rs := [0]) (by kernel_rfl) (by simp) ?_
                refine AllReadyH.cons rfl (fun K hK => ?_) AllReadyH.nil
                go_simp
                refine hK.out _ _ hHeld (fun _ => ?_)
                clear hK K
                try simp only [Act.put, List.setIfInBounds_toArray, List.set_cons_zero, List.set_cons_succ]
                refine wpAnyH_ready (rs := [7]) (by kernel_rfl) (by simp) ?_
                refine AllReadyH.cons rfl (fun K hK => ?_) AllReadyH.nil
                refine oper_append_own _ _ 22 (by rfl) w.heap.size 3 i0 _ 1 8 Tryd.underlying22 hi0 hz0 hz1 hz2 rfl (by decide) _ _ _ (by rfl) (HV4.out.2.alloc _) ⟨w4.heap.size, 0, none⟩ 1 1 [.int .i64 ad] (by rfl) rfl (cell_one_new _ _ _) (by simp [Value.oneCell']) (by unfold maxLen; omega) (by omega) (Nat.le_trans hwle4 (by simp)) ?_
                intro v' w5 hown' hgrow hblk
                obtain ⟨g', cap', rfl⟩ := ownsRow_succ hown'
                obtain ⟨hG, hv1, hb5⟩ := LSt.grow ST4.out HV4.out.1 HV4.out.2 hBx hown' hgrow hblk
                have hc1 := hv1.cell
                have hf1 := hv1.frozen
                have HG := Lib.hid hG
                refine hK.out _ _ hb5.cells.2.1.1 (fun _ => ?_)
                clear hK K hHeld hown' hgrow hblk hv1 hG
                have HX8 : Hid ((w5.setCell ⟨w.heap.size, 0, none⟩ (.slice (some ⟨g', 0, none⟩) (M.length + 1) cap')).cell? ⟨Bx, 1, none⟩ = some (.int .i64 nn)) := HG.out.2.2.2.2.cells.2.1.1
                simp only [Act.put, List.setIfInBounds_toArray, List.set_cons_zero, List.set_cons_succ]
                refine wpAnyH_ready (rs := [8]) (by kernel_rfl) (by simp) ?_
                refine AllReadyH.cons rfl (fun K hK => ?_) AllReadyH.nil
                go_simp
                have hHeld := HX8.out
                refine hK.out _ _ hHeld (fun _ => ?_)
                clear hK K
                refine wpAnyH_done (by kernel_rfl) ?_ _
                clear hHeld hc1 hf1 hb5
                gi_wp2
                go_roundw
                case rel => exact ⟨k + 1, by omega, by go_num, by rw [HS.out, ← List.append_assoc, HMe.out]; exact HG.out⟩
                case measure => simp [RowKit.intOf]; omega
        · have HN : Hid (N1.toNat = k) := (by omega : N1.toNat = k)
          have ST := Lib.hid hst
          have dk : decide ((k : Int) < N1) = false := ltF (by omega)
          clear hst hlt
          gi_wp2
          refine ⟨ST.out.2.2.1.from _, ST.out.2.2.2.1, ?_, ST.out.2.1⟩
          rw [HE.out, HR.out, HN.out]
          exact ST.out.1
  case done =>
    rintro D xs W hD hxs ⟨⟨v, hv, hr⟩, hB⟩ hK
    rw [hxs] at hr
    have hvc := hv.cell
    have HQ := Lib.hid (And.intro (hB.trans (belowK_b (w := w) (Nat.le_refl _) W D _ (.deferred none) (by omega) hK rfl rfl)) (ownsRow_putObj hr (.deferred none) hK rfl))
    clear hv hr hB hxs
    gi_wp2
    refine ⟨by simp, .inl ⟨_, _, rfl, run_takeDeferred hK, ?_⟩⟩
    refine ⟨v, ?_, v, rfl, HQ.out.1, HQ.out.2⟩
    simp [results, Tryd.f9, go_sem]
  case stop =>
    rintro D q pre W hD _ h _
    exact h.elim

theorem Sep.hLive (h : Sep F0 w0 w Ps) (i j : Nat) {b s : Nat} {S : Slb} (hi : Ps[i]? = some (hpAt b s)) (hj : Ps[j]? = some (slabR s S)) :
    Calls Tryd.prog 9 #[.pointer (some ⟨b, 0, none⟩)] w fun e w' => ∃ v, e = .returned v ∧ Sep F0 w0 w' (Ps ++ [intsAt 3 .i64 v S.live]) := by
  refine (live_in h i j hi hj).mono ?_
  rintro e w' ⟨v, rfl, hb, hr⟩
  refine ⟨v, rfl, h.join ((Sep.nil w).push _ (fun k => v.ownBlock = some k) (w' := w') ⟨?_, rfl⟩ (Mod.of_below hb _) ?_)⟩
  · exact ownsRow_base_a hr (Nat.zero_le _)
  · intro k hk
    rcases hr.2 with ⟨rfl, _⟩ | ⟨g, cap, cur, rfl, hb', _⟩
    · simp [Value.ownBlock] at hk
    · simp only [Value.ownBlock, Option.some.injEq] at hk
      omega
end Go.Proofs.YtfmkiioahnphbaaDoor

namespace Go.Proofs.YtfmkiioahnphbaaDoor
open Go Go.RowKit

variable {F0 : Nat → Prop} {w0 w : World} {Ps : List Res}

namespace Slb
theorem audit_cases (S : Slb) : S.audit = 0 ∨ S.audit = 8 := by
  unfold audit
  split
  · exact .inl rfl
  · exact .inr rfl
theorem read_err_ne (S : Slb) (a : Int) : (S.read a).2 ≠ 1 := by
  unfold read
  split
  · show (0 : Int) ≠ 1; omega
  · rcases S.err_range a with h | h | h <;> (show S.err a ≠ 1; omega)
end Slb

set_option maxRecDepth 100000 in
theorem Sep.hNew (h : Sep F0 w0 w Ps) (j : Nat) {s : Nat} {S : Slb} (hj : Ps[j]? = some (slabR s S)) (ha : S.audit = 0) :
    Calls Tryd.prog 8 #[.pointer (some ⟨s, 0, none⟩)] w fun e w' => e = .returned (.tuple #[.pointer (some ⟨w.heap.size, 0, none⟩), .int .i64 0]) ∧ Sep F0 w0 w' (Ps ++ [hpAt w.heap.size s]) := by
  have hc := h.sRead j hj 0 (show S.read 0 = ((S.read 0).1, (S.read 0).2) from rfl)
  have hne := S.read_err_ne 0
  have hB := h.pushCells #[.pointer (some ⟨s, 0, none⟩)] 65
  have hau := hB.hAudit Ps.length j getLast' (getApp hj)
  rw [ha] at hau
  generalize (S.read 0).1 = r1 at *
  generalize (S.read 0).2 = r2 at *
  have dn : (r2 == 1) = false := beqF hne
  have HB := Lib.hid hB
  clear h hne hB ha
  go_enter Tryd.func8, Tryd.ntmps8
  go_wp2_with fail
  refine hc.mono ?_
  rintro e w' ⟨rfl, rfl⟩
  clear hc
  go_wp2_with fail
  refine hau.mono ?_
  rintro e w1 ⟨rfl, hm⟩
  have H1 := Lib.hid (HB.out.more hm)
  clear hau hm
  go_wp2
  go_ret2
  exact ⟨rfl, H1.out⟩

set_option maxRecDepth 100000 in
theorem Sep.hNew_bad (h : Sep F0 w0 w Ps) (j : Nat) {s : Nat} {S : Slb} (hj : Ps[j]? = some (slabR s S)) (ha : S.audit = 8) :
    Calls Tryd.prog 8 #[.pointer (some ⟨s, 0, none⟩)] w fun e w' => e = .returned (.tuple #[.pointer none, .int .i64 8]) ∧ Sep F0 w0 w' Ps := by
  have hc := h.sRead j hj 0 (show S.read 0 = ((S.read 0).1, (S.read 0).2) from rfl)
  have hne := S.read_err_ne 0
  have hB := h.pushCells #[.pointer (some ⟨s, 0, none⟩)] 65
  have hau := hB.hAudit Ps.length j getLast' (getApp hj)
  rw [ha] at hau
  generalize (S.read 0).1 = r1 at *
  generalize (S.read 0).2 = r2 at *
  have dn : (r2 == 1) = false := beqF hne
  have HB := Lib.hid hB
  clear h hne hB ha
  go_enter Tryd.func8, Tryd.ntmps8
  go_wp2_with fail
  refine hc.mono ?_
  rintro e w' ⟨rfl, rfl⟩
  clear hc
  go_wp2_with fail
  refine hau.mono ?_
  rintro e w1 ⟨rfl, hm⟩
  have H1 := Lib.hid (Sep.left (HB.out.more hm))
  clear hau hm
  go_wp2
  go_ret2
  exact ⟨rfl, H1.out⟩

/-! No heap: none there, or one that nobody made. -/
theorem hnone_nil (w : World) : Calls Tryd.prog 22 #[.pointer none] w fun e w' => e = .returned (.bool true) ∧ w = w' := by
  go_enter Tryd.func22, Tryd.ntmps22
  go_wp2
  go_ret
  exact ⟨rfl, rfl⟩
theorem hnone_zero (b : Nat) (w : World) (hc : w.cell? ⟨b, 0, none⟩ = some (.pointer none)) : Calls Tryd.prog 22 #[.pointer (some ⟨b, 0, none⟩)] w fun e w' => e = .returned (.bool true) ∧ w = w' := by
  go_enter Tryd.func22, Tryd.ntmps22
  go_wp2
  go_ret
  exact ⟨rfl, rfl⟩
theorem snone_nil (w : World) : Calls Tryd.prog 18 #[.pointer none] w fun e w' => e = .returned (.bool true) ∧ w = w' := by
  go_enter Tryd.func18, Tryd.ntmps18
  go_wp2
  go_ret
  exact ⟨rfl, rfl⟩

set_option maxRecDepth 100000 in
theorem hnew_nil (w : World) : Calls Tryd.prog 8 #[.pointer none] w fun e w' => e = .returned (.tuple #[.pointer none, .int .i64 1]) ∧ w = w' := by
  have hN := snone_nil w
  have h1 : Calls Tryd.prog 19 #[.pointer none, .int .i64 0] w fun e w' => e = .returned (.tuple #[.pointer none, .int .i64 1]) ∧ w = w' := by
    go_enter Tryd.func19, Tryd.ntmps19
    go_wp2_with ((with_reducible refine hN.mono ?_); rintro e w' ⟨rfl, rfl⟩)
    go_ret2
    exact ⟨rfl, rfl⟩
  have h2 : Calls Tryd.prog 20 #[.pointer none, .int .i64 0] w fun e w' => e = .returned (.tuple #[.int .u64 0, .int .i64 1]) ∧ w = w' := by
    clear hN
    go_enter Tryd.func20, Tryd.ntmps20
    go_wp2_with ((with_reducible refine h1.mono ?_); rintro e w' ⟨rfl, rfl⟩)
    go_ret2
    exact ⟨rfl, rfl⟩
  clear hN h1
  go_enter Tryd.func8, Tryd.ntmps8
  go_wp2_with fail
  refine h2.mono ?_
  rintro e w' ⟨rfl, rfl⟩
  clear h2
  go_wp2
  go_ret2
  exact ⟨rfl, rfl⟩

section
variable {p : Value} {w : World}
theorem zhAlloc (n : Int) (hN : Calls Tryd.prog 22 #[p] w fun e w' => e = .returned (.bool true) ∧ w = w') :
    Calls Tryd.prog 15 #[p, .int .i64 n] w fun e w' => e = .returned (.tuple #[.int .i64 0, .int .i64 1]) ∧ w = w' := by
  go_enter Tryd.func15, Tryd.ntmps15
  go_wp2_with ((with_reducible refine hN.mono ?_); rintro e w' ⟨rfl, rfl⟩)
  go_ret2
  exact ⟨rfl, rfl⟩
theorem zhRoom (n : Int) (hN : Calls Tryd.prog 22 #[p] w fun e w' => e = .returned (.bool true) ∧ w = w') :
    Calls Tryd.prog 10 #[p, .int .i64 n] w fun e w' => e = .returned (.tuple #[.int .i64 0, .int .i64 1]) ∧ w = w' := by
  go_enter Tryd.func10, Tryd.ntmps10
  go_wp2_with ((with_reducible refine hN.mono ?_); rintro e w' ⟨rfl, rfl⟩)
  go_ret2
  exact ⟨rfl, rfl⟩
theorem zhSlide (n : Int) (hN : Calls Tryd.prog 22 #[p] w fun e w' => e = .returned (.bool true) ∧ w = w') :
    Calls Tryd.prog 17 #[p, .int .i64 n] w fun e w' => e = .returned (.tuple #[.int .i64 0, .int .i64 1]) ∧ w = w' := by
  go_enter Tryd.func17, Tryd.ntmps17
  go_wp2_with ((with_reducible refine hN.mono ?_); rintro e w' ⟨rfl, rfl⟩)
  go_ret2
  exact ⟨rfl, rfl⟩
theorem zhFree (n : Int) (hN : Calls Tryd.prog 22 #[p] w fun e w' => e = .returned (.bool true) ∧ w = w') :
    Calls Tryd.prog 16 #[p, .int .i64 n] w fun e w' => e = .returned (.int .i64 1) ∧ w = w' := by
  go_enter Tryd.func16, Tryd.ntmps16
  go_wp2_with ((with_reducible refine hN.mono ?_); rintro e w' ⟨rfl, rfl⟩)
  go_ret
  exact ⟨rfl, rfl⟩
set_option maxRecDepth 100000 in
theorem zhAudit (po : Option Addr) (hN : ∀ w', Mod No w w' → Calls Tryd.prog 22 #[.pointer po] w' fun e w1 => e = .returned (.bool true) ∧ w' = w1) :
    Calls Tryd.prog 21 #[.pointer po] w fun e w' => e = .returned (.int .i64 1) ∧ Below w.heap.size w w' := by
  have hm1 : Mod No w ((w.alloc (.cells #[.pointer po] 35)).alloc (.cells #[.int .i64 0] 27)) := ((Mod.refl No w).alloc (.cells #[.pointer po] 35)).alloc (.cells #[.int .i64 0] 27)
  have hc := hN _ hm1
  have hb : Below w.heap.size w ((w.alloc (.cells #[.pointer po] 35)).alloc (.cells #[.int .i64 1] 27)) := ((Below.refl _ w).alloc (Nat.le_refl _) (.cells #[.pointer po] 35)).alloc (by simp) (.cells #[.int .i64 1] 27)
  have HB := Lib.hid hb
  clear hN hm1 hb
  go_enter Tryd.func21, Tryd.ntmps21
  go_wp2_with fail
  refine hc.mono ?_
  rintro e w' ⟨rfl, rfl⟩
  clear hc
  go_wp2
  refine bodyPost_ret (v := .int .i64 1) ?_ rfl ⟨rfl, HB.out⟩
  have q := cell_at (heap_alloc_new (w.alloc (.cells #[.pointer po] 35)) (.cells #[.int .i64 1] 27)) 0
  simp only [World.size_alloc] at q
  have q1 : ((w.alloc (.cells #[.pointer po] 35)).alloc (.cells #[.int .i64 1] 27)).cell? ⟨w.heap.size + 1, 0, none⟩ = some (.int .i64 1) := q
  simp [results, Tryd.f21, go_sem, q1]
theorem zhLive (hN : Calls Tryd.prog 22 #[p] w fun e w' => e = .returned (.bool true) ∧ w = w') :
    Calls Tryd.prog 9 #[p] w fun e w' => e = .returned (.slice none 0 0) ∧ w = w' := by
  go_enter Tryd.func9, Tryd.ntmps9
  go_wp2_with ((with_reducible refine hN.mono ?_); rintro e w' ⟨rfl, rfl⟩)
  go_ret
  exact ⟨rfl, rfl⟩
end
end Go.Proofs.YtfmkiioahnphbaaDoor
