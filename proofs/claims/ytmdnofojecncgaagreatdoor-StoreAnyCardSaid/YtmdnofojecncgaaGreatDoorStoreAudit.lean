/- Package store, walked: Audit of a store as it should be. Conditions: the store's records are as said. -/
import Derived.Test.YtmdnofojecncgaaGreatDoorStoreWalk2
import Derived.Test.YtmdnofojecncgaaGreatDoorStoreLawSpec
set_option linter.unusedVariables false
set_option linter.unusedSimpArgs false
set_option maxRecDepth 100000
namespace Go.Proofs.YtmdnofojecncgaaGreatDoor
open Go Go.RowKit

variable {F : Nat → Prop} {w : World}
section
variable {b s hp t : Nat} {m la : Int} {S S' : Slb} {T T' : HTbl} {H H' : List Ent} {R R' : List Rc}

theorem StInv.hd_eq (I : StInv S T H R) {r : Rc} (hr : r ∈ R) (h0 : 0 ≤ r.a) : S.read r.a = (r.h, 0) := by
  have h2 := StInv.room (I.words r hr h0).1
  have h3 := (I.adr hr h0).2.2
  have := I.rep.rdB (I.mem hr h0) (i := 0) (by dsimp only; omega)
  dsimp only at this
  rw [show ((r.a.toNat + 0 : Nat) : Int) = r.a by omega] at this
  rw [this, Nat.add_zero, (I.words r hr h0).2.1]
theorem StInv.live_rec (I : StInv S T H R) {a : Int} {k : Nat} (h : S.live[k]? = some a) : ∃ (j : Nat) (r : Rc), R[j]? = some r ∧ 0 ≤ r.a ∧ r.a = a := by
  have hm := List.mem_of_getElem? h
  rw [I.rep.live] at hm
  obtain ⟨x, hx, rfl⟩ := List.mem_map.1 hm
  obtain ⟨r, hr, rfl⟩ := List.mem_map.1 (I.perm.mem_iff.1 hx)
  have hr2 := List.mem_filter.1 hr
  have h0 : 0 ≤ r.a := by simpa using hr2.2
  obtain ⟨j, hj⟩ := List.mem_iff_getElem?.1 hr2.1
  exact ⟨j, r, hj, h0, by show r.a = ((r.a.toNat : Nat) : Int); omega⟩

theorem stfits_ok {w' : World} (h : Sep F w w' [stAt b m la s hp t, slabR s S, hpAt hp s, tabR t T]) (I : StInv S T H R) {r : Rc} (hr : r ∈ R) (h0 : 0 ≤ r.a) :
    Calls Tryz.prog 68 #[.pointer (some ⟨b, 0, none⟩), .int .i64 r.a, .int .i64 (r.w.length : Nat)] w' fun e w'' => e = .returned (.bool true) ∧ Mod No w' w'' := by
  have hl := (I.words r hr h0).1
  have had := I.adr hr h0
  have c3 := (h.cell 0 rfl 3 (v := .pointer (some ⟨hp, 0, none⟩)) rfl).1
  have hrm := hroom_call h 2 1 rfl rfl r.a (by omega) (by omega)
  have hrv := I.rep.room_blk (I.mem hr h0)
  have hrv : S.room ((r.a.toNat : Nat) : Int) = (((Slb.roomOf ((r.w.length : Int) + 2) : Nat) : Int), 0) := hrv
  rw [had.2.2] at hrv
  rw [hrv] at hrm
  obtain ⟨n, hn⟩ : ∃ n, r.w.length = n := ⟨_, rfl⟩
  rw [hn] at hrm hl ⊢
  obtain ⟨a, ha⟩ : ∃ a, r.a = a := ⟨_, rfl⟩
  rw [ha] at hrm ⊢
  have e1 : IntKind.i64.wrap ((n : Int) + 2) = (n : Int) + 2 := by rw [IntKind.wrap_i64]; omega
  have hof := fun W => of_call ((n : Int) + 2) W
  have hsz := fun c W => size_call c W
  have HOF := Lib.hid hof
  have HSZ := Lib.hid hsz
  clear h I hr h0 had hrv hn ha hof hsz
  by_cases hs : (n : Int) + 2 ≤ 28
  · have ec : cof ((n : Int) + 2) = (((clsOf ((n : Int) + 2) : Nat) : Int), true, 0) := by unfold cof; rw [if_neg (by omega), if_pos hs]
    have er : Slb.roomOf ((n : Int) + 2) = csz (clsOf ((n : Int) + 2)) := if_pos hs
    have es : csize ((clsOf ((n : Int) + 2) : Nat) : Int) = (((csz (clsOf ((n : Int) + 2)) : Nat) : Int), 0) := by
      rw [csize_in (by omega) (by have := clsOf_lt ((n : Int) + 2); omega), Int.toNat_natCast]
    have ho := fun W => HOF.out W
    have hz := fun W => HSZ.out ((clsOf ((n : Int) + 2) : Nat) : Int) W
    simp only [ec] at ho
    simp only [es] at hz
    rw [er] at hrm
    obtain ⟨c, hc⟩ : ∃ c, clsOf ((n : Int) + 2) = c := ⟨_, rfl⟩
    rw [hc] at ho hz hrm
    obtain ⟨z, hz0⟩ : ∃ z, ((csz c : Nat) : Int) = z := ⟨_, rfl⟩
    simp only [hz0] at hz
    rw [hz0] at hrm
    have HO := Lib.hid ho
    have HZ := Lib.hid hz
    have d : (z == z) = true := beqT rfl
    clear ho hz ec er es hc hz0 hs
    go_enter Tryz.func68, Tryz.ntmps68
    go_wp2_with fail
    refine hrm.mono ?_
    rintro e w1 ⟨rfl, m1⟩
    have M1 := Lib.hid m1
    have k := HO.out w1
    clear hrm m1 c3
    go_wp2_with fail
    refine k.mono ?_
    rintro e w2 ⟨rfl, m2⟩
    have M2 := Lib.hid (M1.out.trans' m2)
    have k := HZ.out w2
    clear m2 M1
    go_wp2_with fail
    refine k.mono ?_
    rintro e w3 ⟨rfl, m3⟩
    have M3 := Lib.hid (M2.out.trans' m3)
    clear m3 M2 k
    go_wp2
    go_ret
    exact ⟨rfl, M3.out⟩
  · have ec : cof ((n : Int) + 2) = (0, false, 0) := by unfold cof; rw [if_neg (by omega), if_neg hs]
    have er : ((Slb.roomOf ((n : Int) + 2) : Nat) : Int) = (n : Int) + 2 := by unfold Slb.roomOf; rw [if_neg hs]; omega
    have es : csize 0 = (((csz 0 : Nat) : Int), 0) := csize_in (by omega) (by omega)
    have ho := fun W => HOF.out W
    have hz := fun W => HSZ.out 0 W
    simp only [ec] at ho
    simp only [es] at hz
    rw [er] at hrm
    obtain ⟨z, hz0⟩ : ∃ z, ((csz 0 : Nat) : Int) = z := ⟨_, rfl⟩
    simp only [hz0] at hz
    have HO := Lib.hid ho
    have HZ := Lib.hid hz
    have d : ((n : Int) + 2 == (n : Int) + 2) = true := beqT rfl
    clear ho hz ec er es hz0 hs
    go_enter Tryz.func68, Tryz.ntmps68
    go_wp2_with fail
    refine hrm.mono ?_
    rintro e w1 ⟨rfl, m1⟩
    have M1 := Lib.hid m1
    have k := HO.out w1
    clear hrm m1 c3
    go_wp2_with fail
    refine k.mono ?_
    rintro e w2 ⟨rfl, m2⟩
    have M2 := Lib.hid (M1.out.trans' m2)
    have k := HZ.out w2
    clear m2 M1
    go_wp2_with fail
    refine k.mono ?_
    rintro e w3 ⟨rfl, m3⟩
    have M3 := Lib.hid (M2.out.trans' m3)
    clear m3 M2 k
    go_wp2
    go_ret
    exact ⟨rfl, M3.out⟩

def AuRel (F : Nat → Prop) (w : World) (b : Nat) (m la : Int) (s hp t : Nat) (S : Slb) (T : HTbl) (sl : Option Addr) (L cl : Nat) (wr : World) : Prop :=
  Sep F w wr [stAt b m la s hp t, slabR s S, hpAt hp s, tabR t T, rowAt 3 1 (.slice sl L cl) L (S.live.map (Value.int .i64))]

set_option maxHeartbeats 1000000 in
theorem staudit_in (h : Sep F w w [stAt b m la s hp t, slabR s S, hpAt hp s, tabR t T]) (I : StInv S T H R) :
    Calls Tryz.prog 26 #[.pointer (some ⟨b, 0, none⟩)] w fun e w' => e = .returned (.int .i64 0) ∧ Sep F w w' [stAt b m la s hp t, slabR s S, hpAt hp s, tabR t T] := by
  have hn := stnone_call h 0 rfl
  have hau := h.hAudit 2 1 rfl rfl
  rw [I.rep.audit] at hau
  have c3 := (h.cell 0 rfl 3 (v := .pointer (some ⟨hp, 0, none⟩)) rfl).1
  have hlen := live_len (h.sOk 1 rfl)
  have hll : S.live.length = T.live.length := by
    rw [I.rep.live, List.length_map, HTbl.live_count, I.live, I.perm.length_eq, List.length_map]
  have HI := Lib.hid I
  have H0 := Lib.hid h
  clear h I
  go_enter Tryz.func26, Tryz.ntmps26
  go_wp2_with fail
  refine hn.mono ?_
  rintro e w' ⟨rfl, rfl⟩
  clear hn
  go_wp2_with fail
  refine hau.mono ?_
  rintro e w1 ⟨rfl, hm1⟩
  have h1 := H0.out.more hm1
  have c3' := (h1.cell 0 rfl 3 (v := .pointer (some ⟨hp, 0, none⟩)) rfl).1
  have hlv := h1.hLive 2 1 rfl rfl
  clear hau c3 hm1 h1 H0
  go_wp2_with fail
  refine hlv.mono ?_
  rintro e w2 ⟨v, rfl, h2⟩
  obtain ⟨sl, cl, rfl⟩ := h2.form 4 rfl
  obtain ⟨L, hL⟩ : ∃ L, S.live.length = L := ⟨_, rfl⟩
  have HR : Hid (AuRel F w b m la s hp t S T sl L cl w2) := by
    have := h2
    unfold intsAt at this
    rw [hL] at this
    exact this
  rw [hL] at hlen hll ⊢
  have HL := Lib.hid (And.intro hL hll)
  clear hlv h2 c3' hL hll
  go_wp2_with fail
  go_loopw [30] (fun i wr => ∃ j : Nat, i = .int .i64 j ∧ j ≤ L ∧ AuRel F w b m la s hp t S T sl L cl wr) (fun i _ => L - (RowKit.intOf i).toNat)
  case atStart => exact ⟨0, rfl, Nat.zero_le _, HR.out⟩
  case round =>
    obtain ⟨j, rfl, hj, h⟩ := hrel
    clear HR
    by_cases hlt : j < L
    · obtain ⟨a, hja⟩ : ∃ a, S.live[j]? = some a := ⟨_, List.getElem?_eq_getElem (by rw [HL.out.1]; exact hlt)⟩
      obtain ⟨jr, r, hjr, h0, rfl⟩ := HI.out.live_rec hja
      have hr := List.mem_of_getElem? hjr
      obtain ⟨g, rfl, cx, _⟩ := Sep.item h 4 rfl (o := j) (x := .int .i64 r.a) (by rw [List.getElem?_map, hja]; rfl)
      have had := HI.out.adr hr h0
      have hrg := HI.out.rng hjr
      have hrd1 := Sep.sRead h 1 rfl r.a (HI.out.hd_eq hr h0)
      have hrd2 := Sep.sRead h 1 rfl (r.a + 1) (HI.out.len_eq hr h0)
      have hta := Sep.tAt h 3 rfl r.h hrg.1 hrg.2.1 (show T.at' r.h = (r.a, 0) by rw [HI.out.at_eq hjr, if_pos h0])
      have hft := stfits_ok (Sep.left (Ps := [_, _, _, _]) h) HI.out hr h0
      have c2 := (Sep.cell h 0 rfl 2 (v := .pointer (some ⟨s, 0, none⟩)) rfl).1
      have c4 := (Sep.cell h 0 rfl 4 (v := .pointer (some ⟨t, 0, none⟩)) rfl).1
      have hw := (HI.out.words r hr h0).1
      have d1 : (r.a != r.a) = false := bneF rfl
      obtain ⟨n, hn⟩ : ∃ n, r.w.length = n := ⟨_, rfl⟩
      rw [hn] at hrd2 hft hw
      obtain ⟨ad, hae⟩ : ∃ a, r.a = a := ⟨_, rfl⟩
      rw [hae] at hrd1 hrd2 hta hft cx d1 had
      have d2 : decide ((3998 : Int) < (n : Int)) = false := ltF (by omega)
      have e1 : IntKind.i64.wrap (ad + 1) = ad + 1 := by rw [IntKind.wrap_i64]; omega
      have e2 : IntKind.i64.wrap (n : Int) = (n : Int) := by rw [IntKind.wrap_i64]; omega
      have HB := Lib.hid h
      have hlt' : (j : Int) < (L : Int) := by omega
      clear h hja hjr hr had hrg hn hae h0
      go_wp2_with fail
      refine hrd1.mono ?_
      rintro e w' ⟨rfl, rfl⟩
      clear hrd1
      go_wp2_with fail
      refine hrd2.mono ?_
      rintro e w' ⟨rfl, rfl⟩
      clear hrd2
      go_wp2_with fail
      refine hta.mono ?_
      rintro e w' ⟨rfl, rfl⟩
      clear hta
      go_wp2_with fail
      refine hft.mono ?_
      rintro e w5 ⟨rfl, hm5⟩
      have H5 : Hid (AuRel F w b m la s hp t S T (some ⟨g, 0, none⟩) L cl w5) := Sep.more HB.out hm5
      clear hft hm5 HB c2 c4 cx
      go_wp2
      go_roundw
      case rel => exact ⟨j + 1, by go_num, by omega, H5.out⟩
      case measure => simp [RowKit.intOf]; omega
    · obtain rfl : j = L := by omega
      have htl := Sep.tLive h 3 rfl
      rw [← HL.out.2] at htl
      have c4 := (Sep.cell h 0 rfl 4 (v := .pointer (some ⟨t, 0, none⟩)) rfl).1
      have d : ((j : Int) != (j : Int)) = false := bneF rfl
      clear h hlt
      go_wp2_with fail
      refine htl.mono ?_
      rintro e w6 ⟨sa, ca, rfl, h6⟩
      have H6 : Hid (Sep F w w6 [stAt b m la s hp t, slabR s S, hpAt hp s, tabR t T]) := Sep.left (Ps := [_, _, _, _]) h6
      clear htl h6 c4
      go_wp2
      go_ret
      exact ⟨rfl, H6.out⟩
end

theorem staudit_call {F0 : Nat → Prop} {w0 : World} {Ps : List Res} {b : Nat} {m la : Int} {S : Slb} {T : HTbl} {H : List Ent} {R : List Rc} (h : Sep F0 w0 w Ps) (i : Nat) (hi : Ps[i]? = some (stR b m la S T)) (I : StInv S T H R) :
    Calls Tryz.prog 26 #[.pointer (some ⟨b, 0, none⟩)] w fun e w' => e = .returned (.int .i64 0) ∧ Sep F0 w0 w' (Ps.set i (stR b m la S T)) := by
  refine h.lift i hi fun F h1 => ?_
  obtain ⟨s, hp, t, h2⟩ := st_open h1
  exact (staudit_in h2 I).mono fun e w' ⟨he, h3⟩ => ⟨he, st_shut h3⟩
end Go.Proofs.YtmdnofojecncgaaGreatDoor
