/- Slide of a block, and of a record, that stays where it is: nothing old is changed. Conditions: the records are as said; the table of math/bits holds what its initialiser lays. | Objects whose blocks beyond a bound hold cells. And Slide of a record, in an opened store. Conditions: the records are as said; the table of math/bits holds what its initialiser lays. | Package store, walked: All, which changes nothing old. Conditions: the store's records are as said. | The plain law of package compact: the order in which records are tried; what a step does, and some. No program stands here. No condition. -/
import Derived.Test.YtmdnofojecncgaaGreatDoorStoreWalk
import Derived.RangeFuncFrom
import Derived.Test.YtmdnofojecncgaaGreatDoorStoreWalk2
import Derived.Test.YtmdnofojecncgaaGreatDoorStoreAudit
set_option linter.unusedVariables false
set_option linter.unusedSimpArgs false
set_option maxRecDepth 100000
namespace Go.Proofs.YtmdnofojecncgaaGreatDoor
open Go Go.RowKit

variable {F F0 : Nat → Prop} {w0 w : World} {Ps : List Res}

theorem setCell_self {w : World} {p : Addr} {v : Value} (h : w.cell? p = some v) : Mod No w (w.setCell p v) := by
  refine ⟨rfl, rfl, rfl, by simp [World.setCell], fun k hk _ => ?_⟩
  by_cases e : k = p.block
  · subst e
    unfold World.cell? at h
    simp only [World.setCell, Array.getElem?_modify, if_true]
    cases hx : w.heap[p.block]? with
    | none => rfl
    | some o =>
      rw [hx] at h
      cases o with
      | cells c e f =>
        dsimp only at h
        split at h
        · cases h
        · rename_i hs
          have hc : c.setIfInBounds p.off v = c := by
            apply Array.ext_getElem?
            intro k
            rw [Array.getElem?_setIfInBounds]
            by_cases e : p.off = k
            · subst e
              rw [if_pos rfl, if_pos (Array.getElem?_eq_some_iff.1 h).1, h]
            · rw [if_neg e]
          show some (Obj.cells (if p.spot.isSome = true then c else c.setIfInBounds p.off v) e f) = _
          rw [if_neg hs, hc]
      | _ => rfl
  · exact Below.heap_setCell _ _ _ _ e

namespace Slb
variable {S S' : Slb} {H : List Ent}
/-- A block that goes nowhere. -/
def Stays (S : Slb) (a : Int) : Prop := ∃ p k x, S.find a = some (p, k, x) ∧ ((x.kind = 2 ∧ 0 ≤ x.n ∧ x.n ≤ 1000 ∧ S.low p x.n = (p : Int) ∧ (p : Int) * 64 + 2 = a) ∨ (x.kind = 1 ∧ ∀ q m, S.spot x.n = some (q, m) → a < hplace q x.n m))

theorem Rep.stays (R : Rep S H) {b : Nat × Nat} (hb : b ∈ blks H) (e : (S.hslide (b.1 : Int)).1 = (b.1 : Int)) : S.Stays (b.1 : Int) := by
  have hbig := R.hbig (b.1 : Int)
  obtain ⟨p, k, h, hf, B⟩ := R.find_blk hb
  have g := R.good _ B.ent
  have gw := g.w64
  dsimp only at g gw
  obtain ⟨a, r⟩ := b
  dsimp only at B hf e hbig ⊢
  unfold Slb.hslide at e
  rw [hf] at e
  dsimp only at e
  refine ⟨p, k, h, hf, ?_⟩
  rcases B.what with ⟨h1, _, h3, h4⟩ | ⟨h1, h2, j, rfl, h4, h5, h6⟩
  · rw [if_pos h1] at e
    left
    by_cases hl : least (less S.pg p h.wide) h.wide = p
    · have hlow := R.low_eq B.ent rfl
      have gb := g.big h1
      rw [hl, gb.1] at hlow
      have := hbig p k h hf h1
      exact ⟨h1, by omega, this, hlow, by omega⟩
    · obtain ⟨hlt, S', e', hS, hpg⟩ := R.slideL B.ent h1 rfl hl
      rw [e'] at e
      dsimp only at e
      omega
  · rw [if_neg (by omega)] at e
    right
    obtain ⟨kd, n, ww⟩ := h
    dsimp only at h1 h2 h4 h5 h6 gw e ⊢
    subst h1
    have hs := g.small (by show (1 : Int) ≠ 2; omega)
    dsimp only at hs
    obtain ⟨c, rfl⟩ : ∃ c : Nat, n = c := ⟨n.toNat, by omega⟩
    obtain ⟨N0, rfl⟩ : ∃ N0 : Nat, ww = N0 := ⟨ww.toNat, by omega⟩
    have hc : c < 8 := by omega
    have hr := csz_range hc
    rw [Int.toNat_natCast] at h2 h4 h5 h6
    refine ⟨rfl, fun q mi hsp => ?_⟩
    rw [hsp] at e
    obtain ⟨m, N, to, rfl, O, hleast⟩ := R.spot_some hc hsp
    have hpl := hplace_in (p := q) hc O.lt
    rw [← O.addr] at hpl
    dsimp only at e
    rw [hpl] at e ⊢
    by_cases hlt : (a : Int) < (to : Int)
    · exact hlt
    · rw [if_neg hlt] at e
      obtain ⟨S1, e1, hA, hpg1⟩ := R.take O.ent (by rw [Int.toNat_natCast]; exact O.lt) O.bit
      rw [Int.toNat_natCast, ← O.addr] at e1 hA
      rw [e1] at e
      dsimp only at e
      exfalso
      have hin := slot_in hc O.lt
      have hin2 := slot_in hc h4
      have hpq : p = q := by have := O.addr; omega
      subst hpq
      have := R.uniq B.ent O.ent rfl
      simp only [Prod.mk.injEq, Hd.mk.injEq, true_and] at this
      have hN : N0 = N := by omega
      subst hN
      have hjm : j * csz c = m * csz c := by have := O.addr; omega
      have : j = m := Nat.eq_of_mul_eq_mul_right (by omega) hjm
      subst this
      exact Bool.noConfusion (h5.symm.trans O.bit)
end Slb


set_option maxRecDepth 100000 in
set_option maxHeartbeats 1000000 in
theorem hslideL_stay (h : Sep F0 w0 w Ps) (i j : Nat) {b s : Nat} {S : Slb} (hi : Ps[i]? = some (hpAt b s)) (hj : Ps[j]? = some (slabR s S)) (p : Nat) (hp : p ≤ 33554432) (kd n ww : Int) (n0 : 0 ≤ n) (n1 : n ≤ 100000) (hl : S.low p n = (p : Int)) :
    Calls Tryz.prog 92 #[.pointer (some ⟨b, 0, none⟩), .int .i64 p, .agg #[.int .i64 kd, .int .i64 n, .int .u64 ww]] w fun e w' => e = .returned (.int .i64 ((p : Int) * 64 + 2)) ∧ Mod No w w' := by
  have hB := h.alloc (.cells #[.int .i64 kd, .int .i64 n, .int .u64 ww] 162)
  have hc := hlower_call hB i j hi hj p hp n n0 (by omega)
  rw [hl] at hc
  have HB := Lib.hid ((Mod.refl No w).alloc (.cells #[.int .i64 kd, .int .i64 n, .int .u64 ww] 162))
  have dp : ((p : Int) == (p : Int)) = true := beqT rfl
  have hp0 : (0 : Int) ≤ (p : Int) := by omega
  have hp1 : (p : Int) ≤ 33554432 := by omega
  clear h hi hj hl hB
  go_enter Tryz.func92, Tryz.ntmps92
  go_wp2_with fail
  refine hc.mono ?_
  rintro e w' ⟨rfl, rfl⟩
  clear hc
  go_wp2
  go_ret
  exact ⟨rfl, HB.out⟩

set_option maxRecDepth 100000 in
set_option maxHeartbeats 2000000 in
theorem hstay_call (h : Sep F0 w0 w Ps) (i j : Nat) {b s : Nat} {S : Slb} (hi : Ps[i]? = some (hpAt b s)) (hj : Ps[j]? = some (slabR s S)) (hT : Tab64 w) (a : Int) (a0 : -9223372036854775808 ≤ a) (a1 : a ≤ 9223372036854775807) (hS : S.Stays a) :
    Calls Tryz.prog 55 #[.pointer (some ⟨b, 0, none⟩), .int .i64 a] w fun e w' => e = .returned (.tuple #[.int .i64 a, .int .i64 0]) ∧ Mod No w w' := by
  obtain ⟨p, k, ⟨kd, nn, ww⟩, hr, why⟩ := hS
  have hn := hnone_call h i hi
  have hf := h.hFind i j hi hj a a0 a1
  have hok := h.sOk j hj
  have hps := hok.small _ (Slb.find_mem hr).2.1
  rw [hr] at hf
  unfold findA hdV at hf
  dsimp only at hf why
  have HH := Lib.hid h
  have HT := Lib.hid hT
  rcases why with ⟨rfl, n0, n1, hl, rfl⟩ | ⟨rfl, hs⟩
  · have HL := Lib.hid hl
    clear h hr hT hl
    go_enter Tryz.func55, Tryz.ntmps55
    go_wp2_with fail
    refine hn.mono ?_
    rintro e w' ⟨rfl, rfl⟩
    clear hn
    go_wp2_with fail
    refine hf.mono ?_
    rintro e w1 ⟨rfl, hm⟩
    clear hf
    have hB := HH.out.more (hm.alloc (.cells #[.int .i64 2, .int .i64 nn, .int .u64 ww] 162))
    have hc := hslideL_stay hB i j hi hj p (by omega) 2 nn ww n0 (by omega) HL.out
    have HM := Lib.hid (hm.alloc (.cells #[.int .i64 2, .int .i64 nn, .int .u64 ww] 162))
    clear hm hB
    go_wp2_with fail
    refine hc.mono ?_
    rintro e w2 ⟨rfl, h2⟩
    have H2 := Lib.hid (HM.out.trans' h2)
    clear hc h2
    go_wp2
    go_ret2
    exact ⟨rfl, H2.out⟩
  · rcases hsp : S.spot nn with _ | ⟨q, m⟩
    · have HS := Lib.hid hsp
      clear h hr hT hs hsp
      go_enter Tryz.func55, Tryz.ntmps55
      go_wp2_with fail
      refine hn.mono ?_
      rintro e w' ⟨rfl, rfl⟩
      clear hn
      go_wp2_with fail
      refine hf.mono ?_
      rintro e w1 ⟨rfl, hm⟩
      clear hf
      have hB := HH.out.more (hm.alloc (.cells #[.int .i64 1, .int .i64 nn, .int .u64 ww] 162))
      have hsp := hB.hSpot i j hi hj (HT.out.mod (hm.alloc _)) nn
      rw [HS.out] at hsp
      unfold spotA at hsp
      dsimp only at hsp
      have HM := Lib.hid (hm.alloc (.cells #[.int .i64 1, .int .i64 nn, .int .u64 ww] 162))
      clear hm hB
      go_wp2_with fail
      refine hsp.mono ?_
      rintro e w2 ⟨rfl, hm2⟩
      have H2 := Lib.hid (HM.out.trans' hm2)
      clear hm2 hsp
      go_wp2
      go_ret2
      exact ⟨rfl, H2.out⟩
    · have hlt := hs q m hsp
      have hmem := Slb.spot_mem hsp
      have hqs := hok.small _ hmem.1
      have HS := Lib.hid hsp
      clear h hr hT hs hsp
      go_enter Tryz.func55, Tryz.ntmps55
      go_wp2_with fail
      refine hn.mono ?_
      rintro e w' ⟨rfl, rfl⟩
      clear hn
      go_wp2_with fail
      refine hf.mono ?_
      rintro e w1 ⟨rfl, hm⟩
      clear hf
      have hB := (HH.out.more hm).pushCells #[.int .i64 1, .int .i64 nn, .int .u64 ww] 162
      have hsp := hB.hSpot i j (getApp hi) (getApp hj) (HT.out.mod (hm.alloc _)) nn
      rw [HS.out] at hsp
      unfold spotA at hsp
      dsimp only at hsp
      have H1 := Lib.hid hB
      have HM := Lib.hid (hm.alloc (.cells #[.int .i64 1, .int .i64 nn, .int .u64 ww] 162))
      clear hm hB
      go_wp2_with fail
      refine hsp.mono ?_
      rintro e w2 ⟨rfl, hm2⟩
      have h2 := H1.out.more hm2
      have k1 := (h2.cell _ getLast' 1 (v := .int .i64 nn) rfl).1
      have HM2 := Lib.hid (HM.out.trans' hm2)
      have hpl := hplace_call q nn m (by omega) (by omega) w2
      obtain ⟨z, hz⟩ : ∃ z, hplace q nn m = z := ⟨_, rfl⟩
      rw [hz] at hpl hlt
      clear hm2 H1 hsp h2 hz
      go_wp2_with fail
      refine hpl.mono ?_
      rintro e w3 ⟨rfl, hm3⟩
      have H3 := Lib.hid (HM2.out.trans' hm3)
      clear hm3 hpl k1
      go_wp2
      go_ret2
      exact ⟨rfl, H3.out⟩

/-- Move to where it is. -/
theorem HTbl.move_same {T : HTbl} {n a : Int} (e : T.at' n = (a, 0)) (h0 : 0 ≤ a) : T.move n a = (0, T) ∧ T.okB n = true ∧ ∃ s, T.l[(HTbl.place n).toNat]? = some s ∧ s.addr = a := by
  unfold HTbl.at' at e
  cases hb : T.okB n with
  | false => rw [hb] at e; simp at e
  | true =>
    rw [hb] at e
    cases hs : T.l[(HTbl.place n).toNat]? with
    | none => rw [hs] at e; simp at e
    | some s =>
      rw [hs] at e
      simp only [if_true, Prod.mk.injEq, and_true] at e
      subst e
      refine ⟨?_, rfl, s, rfl, rfl⟩
      unfold HTbl.move HTbl.setAddr
      rw [if_neg (by omega), hb, if_pos rfl, hs]
      dsimp only
      rw [StInv.set_self (x := s) hs]

theorem Tab.move_stay {w : World} {t : Nat} {v : Value} {T : HTbl} (h : Tab w t v T) (n a : Int) (n0 : 0 ≤ n) (n1 : n < 18446744073709551616) (a0 : 0 ≤ a) (a1 : a ≤ 9223372036854775807) (e : T.at' n = (a, 0)) :
    Calls Tryz.prog 56 #[.pointer (some ⟨t, 0, none⟩), .int .u64 n, .int .i64 a] w fun e w' => e = .returned (.int .i64 0) ∧ Mod No w w' := by
  have hN := h.there
  obtain ⟨-, hb, s', hs', hsa⟩ := HTbl.move_same e a0
  obtain ⟨g, cap, s, rfl, hs, hc⟩ := h.of_live n n0 n1 hb
  obtain ⟨g', cap', hv', hkl, _, _, c2, hfz, _⟩ := h.slot hs
  simp only [Value.slice.injEq, Option.some.injEq, Addr.mk.injEq, and_true, true_and] at hv'
  obtain ⟨rfl, rfl⟩ := hv'
  rw [hs] at hs'
  cases hs'
  rw [hsa] at c2
  have f2 := hfz ((HTbl.place n).toNat * 3 + 2)
  have HF := Lib.hid (setCell_self c2)
  clear n0 n1 hb h hs hkl hfz hsa e
  generalize (HTbl.place n).toNat = k at *
  go_enter Tryz.func56, Tryz.ntmps56
  go_wp2_with (first | ((with_reducible refine hN.mono ?_); rintro e w' ⟨rfl, rfl⟩) | ((with_reducible refine hc.mono ?_); rintro e w' ⟨rfl, rfl⟩))
  go_ret
  exact ⟨rfl, HF.out⟩

section
variable {b : Nat} {m la : Int} {S S' : Slb} {T T' : HTbl} {H H' : List Ent} {R R' : List Rc}
/-- A record that goes nowhere. -/
def Rests (S : Slb) (R : List Rc) (hh : Int) : Prop := ∃ j r, Rec R hh j r ∧ (S.hslide r.a).1 = r.a

theorem ststay_call (h : Sep F0 w0 w Ps) (i : Nat) (hi : Ps[i]? = some (stR b m la S T)) (hT : Tab64 w) (I : StInv S T H R) {hh : Int} (h0 : 0 ≤ hh ∧ hh < 18446744073709551616) (hR : Rests S R hh) :
    Calls Tryz.prog 21 #[.pointer (some ⟨b, 0, none⟩), .int .u64 hh] w fun e w' => e = .returned (.tuple #[.bool false, .int .i64 0]) ∧ Mod No w w' := by
  obtain ⟨j, r, L, hst⟩ := hR
  obtain ⟨F, h1⟩ := h.one i hi
  obtain ⟨s, hp, t, h2⟩ := st_open h1
  have hat := stat_ok h2 I L.hj L.h0
  have hae := I.at_eq L.hj
  rw [if_pos L.h0] at hae
  rw [L.he] at hat hae
  have had := I.adr (List.mem_of_getElem? L.hj) L.h0
  have hstay : S.Stays r.a := by
    have := I.rep.stays (I.mem (List.mem_of_getElem? L.hj) L.h0) (by dsimp only [rblk]; rw [had.2.2]; exact hst)
    dsimp only [rblk] at this
    rw [had.2.2] at this
    exact this
  have hsl := hstay_call h2 2 1 rfl rfl hT r.a (by omega) (by omega) hstay
  have c3 := (h2.cell 0 rfl 3 (v := .pointer (some ⟨hp, 0, none⟩)) rfl).1
  obtain ⟨n, hn⟩ : ∃ n, r.w.length = n := ⟨_, rfl⟩
  obtain ⟨a, ha⟩ : ∃ a, r.a = a := ⟨_, rfl⟩
  rw [hn, ha] at hat had
  rw [ha] at hsl hae
  have HA := Lib.hid hae
  have H2 := Lib.hid h2
  have da : (a != a) = false := bneF rfl
  clear h h1 h2 I L hi hae hst hstay hn ha hT
  go_enter Tryz.func21, Tryz.ntmps21
  go_wp2_with fail
  refine hat.mono ?_
  rintro e w' ⟨rfl, rfl⟩
  clear hat
  go_wp2_with fail
  refine hsl.mono ?_
  rintro e w1 ⟨rfl, hm1⟩
  have h3 := H2.out.more hm1
  obtain ⟨F3, ⟨v, hP, _⟩, _⟩ := h3.at_ 3 rfl
  have hmv := hP.move_stay hh a h0.1 h0.2 (by omega) (by omega) HA.out
  have c4 := (h3.cell 0 rfl 4 (v := .pointer (some ⟨t, 0, none⟩)) rfl).1
  have HM := Lib.hid hm1
  clear hsl h3 c3 hm1 hP
  go_wp2_with fail
  refine hmv.mono ?_
  rintro e w2 ⟨rfl, hm2⟩
  have H4 := Lib.hid (HM.out.trans' hm2)
  clear hmv hm2 c4
  go_wp2
  go_ret2
  exact ⟨rfl, H4.out⟩

/-- What Slide of a record does: it rests, or it goes. -/
theorem Slides.rests {hh er : Int} {is : Bool} (L : ∃ j r, Rec R hh j r) (I : StInv S T H R) (D : Slides S T H R hh is er S' T' H' R') : (is = false ∧ Rests S R hh ∧ S' = S ∧ T' = T ∧ H' = H ∧ R' = R) ∨ (is = true ∧ er = 0) := by
  cases D with
  | stale e =>
    obtain ⟨j, r, L⟩ := L
    have := I.at_eq L.hj
    rw [if_pos L.h0, L.he, e] at this
    simp at this
  | ok j r L tq S2 T2 H2 e le em D W I2 =>
    by_cases ht : (tq : Int) = r.a
    · left
      have had := (I.adr (List.mem_of_getElem? L.hj) L.h0).2.2
      have htq : tq = r.a.toNat := by omega
      have hae := I.at_eq L.hj
      rw [if_pos L.h0] at hae
      have hmv := (HTbl.move_same hae L.h0).1
      rw [ht, hmv] at em
      cases em
      refine ⟨by rw [bneF ht], ⟨j, r, L, by rw [e]; exact ht⟩, ?_⟩
      cases W with
      | stay p h ent r' blk eH eS ea why =>
        refine ⟨eS, rfl, eH, ?_⟩
        rw [ht]
        exact StInv.set_self L.hj
      | small c q N m p N1 jj hc o least ent hj hb ad old lt e' pg => omega
      | large p f h ent k hf lt ha hto e' pg => omega
    · right
      exact ⟨by rw [bneT ht], rfl⟩
end
end Go.Proofs.YtmdnofojecncgaaGreatDoor

namespace Go.Proofs.YtmdnofojecncgaaGreatDoor
open Go Go.RowKit

variable {F0 : Nat → Prop} {w0 w : World} {Ps : List Res}

/-- The objects' blocks lie below B or hold cells. -/
def SepN (B : Nat) (F0 : Nat → Prop) (w0 w : World) (Ps : List Res) : Prop := ∃ F : Nat → Prop, (∀ k, F k → (F0 k ∨ w0.heap.size ≤ k) ∧ (k < B ∨ ∃ o, w.heap[k]? = some o ∧ o.isCells = true)) ∧ Mod F0 w0 w ∧ Sep F w w Ps
/-- A resource whose blocks lie below B or hold cells. -/
def Celly (B : Nat) (R : Res) : Prop := ∀ (w : World) F, R.P w F → ∀ k, F k → k < B ∨ ∃ o, w.heap[k]? = some o ∧ o.isCells = true
theorem SepN.of {B : Nat} (h : Sep F0 w0 w Ps) (hc : ∀ R ∈ Ps, Celly B R) : SepN B F0 w0 w Ps := by
  obtain ⟨hm, Fs, h1, h2⟩ := h
  refine ⟨fun k => ∃ i R, Ps[i]? = some R ∧ Fs i k, fun k ⟨i, R, hi, hk⟩ => ⟨(h1 i R hi).2 k hk, hc R (List.mem_of_getElem? hi) w _ (h1 i R hi).1 k hk⟩, hm, Mod.refl _ w, Fs, fun i R hi => ⟨(h1 i R hi).1, fun k hk => .inl ⟨i, R, hi, hk⟩⟩, h2⟩
theorem SepN.sep {B : Nat} (h : SepN B F0 w0 w Ps) : Sep F0 w0 w Ps := by
  obtain ⟨F, hF, hm, _, Fs, h1, h2⟩ := h
  refine ⟨hm, Fs, fun i R hi => ⟨(h1 i R hi).1, fun k hk => ?_⟩, h2⟩
  rcases (h1 i R hi).2 k hk with h | h
  · exact (hF k h).1
  · have := R.lt (h1 i R hi).1 k hk
    omega
theorem SepN.own {β : Type} {B : Nat} (hB : w0.heap.size ≤ B) (f : β → List Res) : OwnFrom B (fun (s : β) W => SepN B F0 w0 W (f s)) := fun s W W' row hs hg hr => by
  obtain ⟨F, hF, hm, _, Fs, h1, h2⟩ := hs
  have hlt : ∀ k, F k → ∀ i R, (f s)[i]? = some R → Fs i k → k < W.heap.size := fun k _ i R hi hk => R.lt (h1 i R hi).1 k hk
  have inF : ∀ i R, (f s)[i]? = some R → ∀ k, Fs i k → F k := fun i R hi k hk => by
    rcases (h1 i R hi).2 k hk with h | h
    · exact h
    · have := R.lt (h1 i R hi).1 k hk
      omega
  have same : ∀ k, F k → k < W.heap.size → W'.heap[k]? = W.heap[k]? := fun k hk hl => hg.block k hl (fun e => by
    obtain ⟨h1, o, ho, hc⟩ := hr k e.symm
    rcases (hF k hk).2 with h | ⟨o', ho', hc'⟩
    · omega
    · rw [ho] at ho'
      cases ho'
      rw [hc] at hc'
      cases hc')
  refine ⟨fun k => F k ∧ k < W.heap.size, fun k ⟨hk, hl⟩ => ⟨(hF k hk).1, (hF k hk).2.imp id fun ⟨o, ho, hc⟩ => ⟨o, by rw [same k hk hl]; exact ho, hc⟩⟩, hm.grown hg (fun k e => .inr (Nat.le_trans hB (hr k e).1)), Mod.refl _ W', Fs, fun i R hi => ⟨R.keep (h1 i R hi).1 fun k hk => same k (inF i R hi k hk) (R.lt (h1 i R hi).1 k hk), fun k hk => .inl ⟨inF i R hi k hk, R.lt (h1 i R hi).1 k hk⟩⟩, h2⟩

theorem celly_cells (B b : Nat) (vs : Array Value) (t : TypeId) : Celly B (cellsAt b vs t) := fun w F ⟨h1, h2⟩ k hk => by
  rw [h2] at hk
  subst hk
  exact .inr ⟨_, h1, rfl⟩
theorem celly_row (B : Nat) (e : TypeId) (size : Nat) (v : Value) (n : Nat) (xs : List Value) : Celly B (rowAt e size v n xs) := fun w F ⟨h1, h2⟩ k hk => by
  rw [h2] at hk
  have hk : v.ownBlock = some k := hk
  rcases h1.2 with ⟨rfl, _⟩ | ⟨g, cap, cur, rfl, _, hg, _⟩
  · simp [Value.ownBlock] at hk
  · simp [Value.ownBlock] at hk
    subst hk
    exact .inr ⟨_, hg, rfl⟩
/-- The arena's blocks but its map's hold cells. -/
theorem SlabM.cells {w : World} {s b : Nat} {quota : Int} {L : List Nat} {p : Nat → Nat} {wd : Nat → Int} (h : SlabM w s b quota L p wd) : ∀ k, SFoot s b L p k → k + 1 = s ∨ ∃ o, w.heap[k]? = some o ∧ o.isCells = true := by
  rintro k (rfl | rfl | ⟨j, hj, rfl⟩)
  · exact .inr ⟨_, h.box, rfl⟩
  · exact .inl h.adj
  · exact .inr ⟨_, h.page j hj, rfl⟩
theorem celly_slab {B s : Nat} (hB : s ≤ B) (S : Slb) : Celly B (slabR s S) := fun w F ⟨b, p, hM, _, hF⟩ k hk => by
  rw [hF] at hk
  rcases hM.cells k hk with h | h
  · exact .inl (by omega)
  · exact .inr h
theorem celly_tab (B t : Nat) (T : HTbl) : Celly B (tabR t T) := fun w F h k hk => by
  obtain ⟨v, hT, hF⟩ := h
  rw [hF] at hk
  rcases hk with rfl | hk
  · exact .inr ⟨_, hT.box, rfl⟩
  · exact celly_row B _ _ v _ _ w _ ⟨hT.row, rfl⟩ k hk

section
variable {F : Nat → Prop} {b s hp t : Nat} {m la : Int} {S S' : Slb} {T T' : HTbl} {H H' : List Ent} {R R' : List Rc}
abbrev stOpen (b : Nat) (m la : Int) (s hp t : Nat) (S : Slb) (T : HTbl) : List Res := [stAt b m la s hp t, slabR s S, hpAt hp s, tabR t T]
theorem celly_st {B : Nat} (hB : s ≤ B) : ∀ R ∈ stOpen b m la s hp t S T, Celly B R := fun R hR => by
  simp only [List.mem_cons, List.not_mem_nil, or_false] at hR
  rcases hR with rfl | rfl | rfl | rfl
  · exact celly_cells _ _ _ _
  · exact celly_slab hB S
  · exact celly_cells _ _ _ _
  · exact celly_tab _ _ _
theorem stslideO_call (h2 : Sep F w w (stOpen b m la s hp t S T)) (hT : Tab64 w) (I : StInv S T H R) {hh : Int} (h0 : 0 ≤ hh ∧ hh < 18446744073709551616) {is : Bool} {er : Int} (D : Slides S T H R hh is er S' T' H' R') :
    Calls Tryz.prog 21 #[.pointer (some ⟨b, 0, none⟩), .int .u64 hh] w fun e w' => e = .returned (.tuple #[.bool is, .int .i64 er]) ∧ Sep F w w' (stOpen b m la s hp t S' T') := by
  cases D with
  | stale e =>
    have hat := stat_no h2 h0 e
    have H3 := Lib.hid h2
    clear h2 I e hT
    go_enter Tryz.func21, Tryz.ntmps21
    go_wp2_with fail
    refine hat.mono ?_
    rintro e w' ⟨rfl, rfl⟩
    clear hat
    go_wp2
    go_ret2
    exact ⟨rfl, H3.out⟩
  | ok j r L tq S2 T2 H2 e le em D W I' =>
    have hat := stat_ok h2 I L.hj L.h0
    rw [L.he] at hat em
    have had := I.adr (List.mem_of_getElem? L.hj) L.h0
    have hsl := h2.hSlideR 2 1 (by omega) rfl rfl hT I.rep r.a (by omega) (by omega) e
    have c3 := (h2.cell 0 rfl 3 (v := .pointer (some ⟨hp, 0, none⟩)) rfl).1
    have HEM := Lib.hid em
    obtain ⟨n, hn⟩ : ∃ n, r.w.length = n := ⟨_, rfl⟩
    obtain ⟨a, ha⟩ : ∃ a, r.a = a := ⟨_, rfl⟩
    rw [hn, ha] at hat
    rw [ha] at hsl le ⊢
    have ht1 : (tq : Int) ≤ 67108864 := by omega
    clear h2 I I' L e em D W had hn ha hT
    go_enter Tryz.func21, Tryz.ntmps21
    go_wp2_with fail
    refine hat.mono ?_
    rintro e w' ⟨rfl, rfl⟩
    clear hat
    go_wp2_with fail
    refine hsl.mono ?_
    rintro e w1 ⟨rfl, h3⟩
    have hmv := h3.tMove 3 rfl hh (tq : Int) h0.1 h0.2 (by omega) HEM.out
    have c4 := (h3.cell 0 rfl 4 (v := .pointer (some ⟨t, 0, none⟩)) rfl).1
    clear hsl h3 c3
    go_wp2_with fail
    refine hmv.mono ?_
    rintro e w2 ⟨rfl, h4⟩
    have H4 : Hid (Sep F w w2 (stOpen b m la s hp t S' T')) := h4
    clear hmv h4 c4
    go_wp2
    go_ret2
    exact ⟨rfl, H4.out⟩
end
end Go.Proofs.YtmdnofojecncgaaGreatDoor

namespace Go.Proofs.YtmdnofojecncgaaGreatDoor
open Go Go.RowKit

theorem Sep.hLiveQ {F0 : Nat → Prop} {w0 w : World} {Ps : List Res} (h : Sep F0 w0 w Ps) (i j : Nat) {b s : Nat} {S : Slb} (hi : Ps[i]? = some (hpAt b s)) (hj : Ps[j]? = some (slabR s S)) :
    Calls Tryz.prog 46 #[.pointer (some ⟨b, 0, none⟩)] w fun e w' => ∃ v, e = .returned v ∧ Sep No w w' [intsAt 3 .i64 v S.live] := by
  refine (live_in h i j hi hj).mono ?_
  rintro e w' ⟨v, rfl, hb, hr⟩
  refine ⟨v, rfl, (Sep.nil w).push _ (fun k => v.ownBlock = some k) (w' := w') ⟨?_, rfl⟩ (Mod.of_below hb _) ?_⟩
  · exact ownsRow_base_a hr (Nat.zero_le _)
  · intro k hk
    rcases hr.2 with ⟨rfl, _⟩ | ⟨g, cap, cur, rfl, hb', _⟩
    · simp [Value.ownBlock] at hk
    · simp only [Value.ownBlock, Option.some.injEq] at hk
      omega

section
variable {F : Nat → Prop} {w : World} {b s hp t : Nat} {m la : Int} {S S' : Slb} {T T' : HTbl}

def AllRelQ (w : World) (S : Slb) (vl : Value) (j : Nat) (v : Value) (wr : World) : Prop :=
  Sep No w wr [intsAt 3 .i64 vl S.live, rowAt 46 1 v j (((stAll S).take j).map (Value.int .u64))]

theorem stallQ_in (h : Sep F w w (stOpen b m la s hp t S T)) :
    Calls Tryz.prog 15 #[.pointer (some ⟨b, 0, none⟩)] w fun e w' => ∃ v, e = .returned v ∧ Sep No w w' [intsAt 46 .u64 v (stAll S)] := by
  have hn := stnone_call h 0 rfl
  have hlv := h.hLiveQ 2 1 rfl rfl
  have c3 := (h.cell 0 rfl 3 (v := .pointer (some ⟨hp, 0, none⟩)) rfl).1
  have hlen := live_len (h.sOk 1 rfl)
  obtain ⟨i0, hi0, hz0, hz1, hz2⟩ := info_parts infoHandle
  have HI := Lib.hid (And.intro hi0 (And.intro hz0 (And.intro hz1 hz2)))
  have HST := Lib.hid h
  clear h hi0 hz0 hz1 hz2
  go_enter Tryz.func15, Tryz.ntmps15
  go_wp2_with fail
  refine hn.mono ?_
  rintro e w' ⟨rfl, rfl⟩
  clear hn
  go_wp2_with fail
  refine hlv.mono ?_
  rintro e w1 ⟨v, rfl, h1⟩
  obtain ⟨sl, cl, rfl⟩ := h1.form 0 rfl
  have HR : Hid (AllRelQ w S (.slice sl S.live.length cl) 0 (.slice none 0 0) w1) := h1.pushNil 46 1
  obtain ⟨L, hL⟩ : ∃ L, S.live.length = L := ⟨_, rfl⟩
  rw [hL] at HR hlen ⊢
  have HL := Lib.hid hL
  clear hlv h1 c3 hL
  go_wp2_with fail
  go_loopw [3, 16] (fun l i wr => ∃ j : Nat, i = .int .i64 j ∧ j ≤ L ∧ AllRelQ w S (.slice sl L cl) j l wr) (fun _ i _ => L - (RowKit.intOf i).toNat)
  case atStart => exact ⟨0, rfl, Nat.zero_le _, HR.out⟩
  case round =>
    obtain ⟨j, rfl, hj, h⟩ := hrel
    clear HR
    obtain ⟨so, co, rfl⟩ := Sep.form h 1 rfl
    by_cases hlt : j < L
    · have hjl : S.live[j]? = some (S.live[j]'(by rw [HL.out]; exact hlt)) := List.getElem?_eq_getElem _
      obtain ⟨a, ha⟩ : ∃ a, S.live[j]'(by rw [HL.out]; exact hlt) = a := ⟨_, rfl⟩
      rw [ha] at hjl
      obtain ⟨x, er, hrd⟩ : ∃ x er, S.read a = (x, er) := ⟨_, _, rfl⟩
      have hx : (stAll S)[j]? = some x := by unfold stAll; rw [List.getElem?_map, hjl]; simp [hrd]
      have hst := HST.out.more h.mod
      have hrow : Sep No w wr [rowAt 3 1 (.slice sl L cl) L (S.live.map (Value.int .i64)), rowAt 46 1 (.slice so j co) j (((stAll S).take j).map (Value.int .u64))] := by
        have h' := h
        unfold AllRelQ intsAt at h'
        rw [HL.out] at h'
        exact h'
      obtain ⟨g, rfl, cx, _⟩ := hrow.item 0 rfl (o := j) (x := .int .i64 a) (by rw [List.getElem?_map, hjl]; rfl)
      have hc := hst.sRead 1 rfl a hrd
      have c2 := (hst.cell 0 rfl 2 (v := .pointer (some ⟨s, 0, none⟩)) rfl).1
      obtain ⟨hi0, hz0, hz1, hz2⟩ := HI.out
      have HX := Lib.hid hx
      have HB := Lib.hid hrow
      clear h ha hjl hrd hx hrow hst
      go_wp2_with fail
      refine hc.mono ?_
      rintro e w' ⟨rfl, rfl⟩
      have hrow := HB.out
      clear hc
      go_wp2_with (at_builtin; refine wpList_append_sep1 hrow 1 rfl (by rfl) _ _ 38 rfl Tryz.underlying38 hi0 hz0 hz1 hz2 rfl (by rfl) _ _ (by rfl) (by simp) (by rfl) _ (by unfold maxLen; omega) (by omega) ?_)
      intro gg capg w4 h4
      have H4 : Hid (AllRelQ w S (.slice (some ⟨g, 0, none⟩) L cl) (j + 1) (.slice (some ⟨gg, 0, none⟩) (j + 1) capg) w4) := by
        have e : (stAll S).take (j + 1) = (stAll S).take j ++ [x] := by
          rw [List.take_add_one, HX.out]; rfl
        unfold AllRelQ intsAt
        rw [e, List.map_append, HL.out, List.map_take]
        exact h4
      clear h4 hrow hi0 hz0 hz1 hz2 cx c2 HB
      go_wp2
      go_roundw
      case rel => exact ⟨j + 1, by go_num, by omega, H4.out⟩
      case measure => simp [RowKit.intOf]; omega
    · obtain rfl : j = L := by omega
      have H4 : Hid (Sep No w wr [intsAt 46 .u64 (.slice so j co) (stAll S)]) := by
        have e : (stAll S).take j = stAll S := List.take_of_length_le (by rw [stAll_len, HL.out]; exact Nat.le_refl _)
        unfold AllRelQ at h
        rw [e] at h
        unfold intsAt
        rw [stAll_len, HL.out]
        exact h.pick (fun i => i + 1) (fun i hi => by match i, hi with | 0, _ => rfl) (fun i j hi hj hij => by omega)
      clear h hlt
      go_wp2
      go_ret
      exact ⟨_, rfl, H4.out⟩
end
end Go.Proofs.YtmdnofojecncgaaGreatDoor

namespace Go.Proofs.YtmdnofojecncgaaGreatDoor
open Go

/-- Only where they lie has changed. -/
def Moved (R R' : List Rc) : Prop := R'.length = R.length ∧ ∀ (j : Nat) (r : Rc), R[j]? = some r → ∃ a, R'[j]? = some { r with a := a } ∧ (0 ≤ a ↔ 0 ≤ r.a)
theorem Moved.refl (R : List Rc) : Moved R R := ⟨rfl, fun _ r h => ⟨r.a, h, Iff.rfl⟩⟩
theorem Moved.trans {R1 R2 R3 : List Rc} (h : Moved R1 R2) (k : Moved R2 R3) : Moved R1 R3 := by
  refine ⟨k.1.trans h.1, fun j r hj => ?_⟩
  obtain ⟨a, h1, h2⟩ := h.2 j r hj
  obtain ⟨c, k1, k2⟩ := k.2 j _ h1
  exact ⟨c, k1, k2.trans h2⟩
theorem Moved.at_ {R R' : List Rc} (h : Moved R R') {j : Nat} {r' : Rc} (hj : R'[j]? = some r') : ∃ r, R[j]? = some r ∧ r'.h = r.h ∧ r'.w = r.w ∧ (0 ≤ r'.a ↔ 0 ≤ r.a) := by
  have hl : j < R.length := by rw [← h.1]; exact (List.getElem?_eq_some_iff.1 hj).1
  obtain ⟨a, h1, h2⟩ := h.2 j _ (List.getElem?_eq_getElem hl)
  rw [hj] at h1
  cases h1
  exact ⟨_, List.getElem?_eq_getElem hl, rfl, rfl, h2⟩
theorem Moved.hs {R R' : List Rc} (h : Moved R R') : R'.map (·.h) = R.map (·.h) := by
  apply List.ext_getElem?
  intro j
  rw [List.getElem?_map, List.getElem?_map]
  cases hj : R'[j]? with
  | none =>
    have : R[j]? = none := by
      have := List.getElem?_eq_none_iff.1 hj
      exact List.getElem?_eq_none (by rw [← h.1]; exact this)
    rw [this]
  | some r' =>
    obtain ⟨r, h1, h2, _⟩ := h.at_ hj
    rw [h1]
    show some r'.h = some r.h
    rw [h2]

section
variable {S S' : Slb} {T T' : HTbl} {H H' : List Ent} {R R' : List Rc}
theorem Slides.moved {hh er : Int} {is : Bool} (D : Slides S T H R hh is er S' T' H' R') : Moved R R' := by
  cases D with
  | stale => exact Moved.refl R
  | ok j r L tq S2 T2 H2 e le em D W I =>
    refine ⟨List.length_set, fun i q hi => ?_⟩
    by_cases e : j = i
    · subst e
      rw [L.hj] at hi
      cases hi
      exact ⟨(tq : Int), by rw [List.getElem?_set, if_pos rfl, if_pos (List.getElem?_eq_some_iff.1 L.hj).1], ⟨fun _ => L.h0, fun _ => Int.natCast_nonneg tq⟩⟩
    · exact ⟨q.a, by rw [List.getElem?_set, if_neg e]; exact hi, Iff.rfl⟩

/-- Is a record small? Told of its block's words. -/
def smallA (S : Slb) (a : Int) : Bool := decide ((S.read (a + 1)).1 ≤ 26)
def hdA (S : Slb) (a : Int) : Int := (S.read a).1
/-- The records in the order in which they are tried. -/
def tried (S : Slb) : List Int := (S.live.reverse.filter (smallA S)).map (hdA S) ++ (S.live.filter fun a => !smallA S a).map (hdA S)
def tried1 (S : Slb) (k : Nat) : List Int := ((S.live.drop k).reverse.filter (smallA S)).map (hdA S)
def tried2 (S : Slb) (k : Nat) : List Int := ((S.live.take k).filter fun a => !smallA S a).map (hdA S)
theorem tried_eq (S : Slb) : tried S = tried1 S 0 ++ tried2 S S.live.length := by
  unfold tried tried1 tried2
  rw [List.drop_zero, List.take_length]
theorem tried1_end (S : Slb) : tried1 S S.live.length = [] := by unfold tried1; rw [List.drop_length]; rfl
theorem tried2_zero (S : Slb) : tried2 S 0 = [] := by unfold tried2; rw [List.take_zero]; rfl
theorem tried1_step {S : Slb} {k : Nat} {a : Int} (h : S.live[k]? = some a) : tried1 S k = tried1 S (k + 1) ++ (if smallA S a then [hdA S a] else []) := by
  obtain ⟨hk, ha⟩ := List.getElem?_eq_some_iff.1 h
  unfold tried1
  rw [List.drop_eq_getElem_cons hk, ha, List.reverse_cons, List.filter_append, List.map_append]
  congr 1
  by_cases hs : smallA S a = true
  · rw [if_pos hs, List.filter_cons_of_pos hs]; rfl
  · rw [if_neg hs, List.filter_cons_of_neg hs]; rfl
theorem tried2_step {S : Slb} {k : Nat} {a : Int} (h : S.live[k]? = some a) : tried2 S (k + 1) = tried2 S k ++ (if smallA S a then [] else [hdA S a]) := by
  unfold tried2
  rw [List.take_add_one, h, List.filter_append, List.map_append]
  congr 1
  cases hs : smallA S a
  · simp [hs]
  · simp [hs]
theorem tried1_pre (S : Slb) : ∀ k, k ≤ S.live.length → ∃ rest, tried1 S 0 = tried1 S k ++ rest
  | 0, _ => ⟨[], by simp⟩
  | k + 1, hk => by
    obtain ⟨rest, hr⟩ := tried1_pre S k (by omega)
    have := tried1_step (List.getElem?_eq_getElem (by omega : k < S.live.length))
    exact ⟨_, by rw [hr, this, List.append_assoc]⟩
theorem tried2_pre (S : Slb) : ∀ d k, k + d = S.live.length → ∃ rest, tried2 S S.live.length = tried2 S k ++ rest
  | 0, k, h => ⟨[], by rw [← h]; simp⟩
  | d + 1, k, h => by
    obtain ⟨rest, hr⟩ := tried2_pre S d (k + 1) (by omega)
    have := tried2_step (List.getElem?_eq_getElem (by omega : k < S.live.length))
    exact ⟨_, by rw [hr, this, List.append_assoc]⟩
/-- What comes next. -/
theorem tried1_next {S : Slb} {k : Nat} {a : Int} (h : S.live[k]? = some a) (hs : smallA S a = true) : ∃ rest, tried1 S (k + 1) ++ hdA S a :: rest = tried S := by
  have hk := (List.getElem?_eq_some_iff.1 h).1
  obtain ⟨rest, hr⟩ := tried1_pre S k (by omega)
  have h1 := tried1_step h
  rw [if_pos hs] at h1
  exact ⟨rest ++ tried2 S S.live.length, by rw [tried_eq, hr, h1]; simp⟩
theorem tried2_next {S : Slb} {k : Nat} {a : Int} (h : S.live[k]? = some a) (hs : smallA S a = false) : ∃ rest, (tried1 S 0 ++ tried2 S k) ++ hdA S a :: rest = tried S := by
  have hk := (List.getElem?_eq_some_iff.1 h).1
  obtain ⟨rest, hr⟩ := tried2_pre S (S.live.length - (k + 1)) (k + 1) (by omega)
  have h1 := tried2_step h
  rw [hs] at h1
  exact ⟨rest, by rw [tried_eq, hr, h1]; simp⟩
theorem live_rec' (I : StInv S T H R) {a : Int} (h : a ∈ S.live) : ∃ (j : Nat) (r : Rc), Rec R (hdA S a) j r ∧ r.a = a ∧ smallA S a = decide (r.w.length ≤ 26) := by
  obtain ⟨k, hk⟩ := List.mem_iff_getElem?.1 h
  obtain ⟨j, r, hj, h0, ha⟩ := I.live_rec hk
  have hr := List.mem_of_getElem? hj
  refine ⟨j, r, ⟨hj, h0, ?_⟩, ha, ?_⟩
  · unfold hdA
    rw [← ha, I.hd_eq hr h0]
  · unfold smallA
    rw [← ha, I.len_eq hr h0]
    exact decide_eq_decide.2 (by dsimp only; omega)
theorem tried_rec (I : StInv S T H R) {x : Int} (h : x ∈ tried S) : (∃ (j : Nat) (r : Rc), Rec R x j r) ∧ 0 ≤ x ∧ x < 18446744073709551616 := by
  have key : ∀ a ∈ S.live, (∃ (j : Nat) (r : Rc), Rec R (hdA S a) j r) ∧ 0 ≤ hdA S a ∧ hdA S a < 18446744073709551616 := fun a ha => by
    obtain ⟨j, r, L, _⟩ := live_rec' I ha
    have := I.rng L.hj
    rw [L.he] at this
    exact ⟨⟨j, r, L⟩, this.1, this.2.1⟩
  unfold tried at h
  rcases List.mem_append.1 h with h | h
  · obtain ⟨a, ha, rfl⟩ := List.mem_map.1 h
    exact key a (by have := (List.mem_filter.1 ha).1; simpa using this)
  · obtain ⟨a, ha, rfl⟩ := List.mem_map.1 h
    exact key a (List.mem_filter.1 ha).1

/-- A step: all rest, or the first that does not goes lower. -/
inductive Stepped (S : Slb) (T : HTbl) (H : List Ent) (R : List Rc) : Bool → Slb → HTbl → List Ent → List Rc → Prop
  | done (all : ∀ x ∈ tried S, Rests S R x) (I : StInv S T H R) : Stepped S T H R false S T H R
  | gone {S' : Slb} {T' : HTbl} {H' : List Ent} {R' : List Rc} (pre post : List Int) (x : Int) (e : tried S = pre ++ x :: post) (rest : ∀ y ∈ pre, Rests S R y) (D : Slides S T H R x true 0 S' T' H' R') : Stepped S T H R true S' T' H' R'
theorem Stepped.inv {is : Bool} (D : Stepped S T H R is S' T' H' R') : StInv S' T' H' R' := by
  cases D with
  | done _ I => exact I
  | gone pre post x e rest D => exact D.inv
theorem Stepped.moved {is : Bool} (D : Stepped S T H R is S' T' H' R') : Moved R R' := by
  cases D with
  | done _ I => exact Moved.refl R
  | gone pre post x e rest D => exact D.moved
theorem Stepped.quo {is : Bool} (D : Stepped S T H R is S' T' H' R') : S'.quota = S.quota := by
  cases D with
  | done _ I => rfl
  | gone pre post x e rest D => exact D.quo

/-- Some steps, one behind the other, each of which let a record go. -/
inductive Steps (S : Slb) (T : HTbl) (H : List Ent) (R : List Rc) : Nat → Slb → HTbl → List Ent → List Rc → Prop
  | zero (I : StInv S T H R) : Steps S T H R 0 S T H R
  | snoc {n : Nat} {S1 S' : Slb} {T1 T' : HTbl} {H1 H' : List Ent} {R1 R' : List Rc} (h : Steps S T H R n S1 T1 H1 R1) (D : Stepped S1 T1 H1 R1 true S' T' H' R') : Steps S T H R (n + 1) S' T' H' R'
theorem Steps.inv {n : Nat} (D : Steps S T H R n S' T' H' R') : StInv S' T' H' R' := by
  cases D with
  | zero I => exact I
  | snoc h D => exact D.inv
theorem Steps.moved {n : Nat} (D : Steps S T H R n S' T' H' R') : Moved R R' := by
  induction D with
  | zero I => exact Moved.refl R
  | snoc h D ih => exact ih.trans D.moved
theorem Steps.quo {n : Nat} (D : Steps S T H R n S' T' H' R') : S'.quota = S.quota := by
  induction D with
  | zero I => rfl
  | snoc h D ih => exact D.quo.trans ih
/-- Run of k steps at most. -/
inductive Ran (S : Slb) (T : HTbl) (H : List Ent) (R : List Rc) (k : Nat) : Nat → Bool → Slb → HTbl → List Ent → List Rc → Prop
  | out {S' : Slb} {T' : HTbl} {H' : List Ent} {R' : List Rc} (h : Steps S T H R k S' T' H' R') : Ran S T H R k k false S' T' H' R'
  | done {n : Nat} {S' : Slb} {T' : HTbl} {H' : List Ent} {R' : List Rc} (hn : n < k) (h : Steps S T H R n S' T' H' R') (D : Stepped S' T' H' R' false S' T' H' R') : Ran S T H R k n true S' T' H' R'
theorem Ran.steps {k n : Nat} {d : Bool} (h : Ran S T H R k n d S' T' H' R') : Steps S T H R n S' T' H' R' := by
  cases h with
  | out h => exact h
  | done hn h D => exact h
end
end Go.Proofs.YtmdnofojecncgaaGreatDoor
