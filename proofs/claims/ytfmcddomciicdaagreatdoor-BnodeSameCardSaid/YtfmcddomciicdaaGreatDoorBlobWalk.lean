/- Package blob, walked: Put, Get, Cost. Conditions: the store's records are as said; the table of math/bits holds what its initialiser lays. -/
import Derived.Test.YtfmcddomciicdaaGreatDoorBlobIter
import Derived.Test.YtfmcddomciicdaaGreatDoorTextOf
set_option linter.unusedVariables false
set_option linter.unusedSimpArgs false
set_option maxRecDepth 100000
namespace Go.Proofs.YtfmcddomciicdaaGreatDoor
open Go Go.RowKit

variable {F0 : Nat → Prop} {w0 w : World} {Ps : List Res}

theorem HTbl.at_zero (T : HTbl) : T.at' 0 = (0, 7) := by
  have : T.okB 0 = false := by simp [HTbl.okB, HTbl.place]
  unfold HTbl.at'
  rw [this]
  rfl

theorem cost_call (n : Int) (w : World) : Calls Tryz.prog 60 #[.int .i64 n] w fun e w' => e = .returned (.int .i64 (if 0 < many n then many n + 2 else 0)) ∧ w = w' := by
  have hm := many_call n w
  have hr : 0 ≤ many n ∧ many n ≤ 126 := by unfold many; split <;> omega
  obtain ⟨k, hk⟩ : ∃ x, many n = x := ⟨_, rfl⟩
  rw [hk] at hm hr ⊢
  clear hk
  by_cases h : 0 < k
  · rw [if_pos h]
    have d : decide (0 < k) = true := ltT h
    go_enter Tryz.func60, Tryz.ntmps60
    go_wp2_with fail
    refine hm.mono ?_
    rintro e w' ⟨rfl, rfl⟩
    clear hm
    go_wp2
    go_ret
    exact ⟨by go_num, rfl⟩
  · rw [if_neg h]
    have d : decide (0 < k) = false := ltF (by omega)
    go_enter Tryz.func60, Tryz.ntmps60
    go_wp2_with fail
    refine hm.mono ?_
    rintro e w' ⟨rfl, rfl⟩
    clear hm
    go_wp2
    go_ret
    exact ⟨rfl, rfl⟩

section
variable {b : Nat} {m la : Int} {S S' : Slb} {T T' : HTbl} {H H' : List Ent} {R R' : List Rc}

theorem bput_long (h : Sep F0 w0 w Ps) (i : Nat) (hi : Ps[i]? = some (stR b m la S T)) (I : StInv S T H R) (s : ByteArray) (hs : 1000 < s.size) :
    Calls Tryz.prog 58 #[.pointer (some ⟨b, 0, none⟩), .string s] w fun e w' => e = .returned (.tuple #[.int .u64 0, .int .i64 4]) ∧ w = w' := by
  have hl := stlen_call h i hi I (hh := 0) (by omega) (.stale T.at_zero)
  have hw := words_long s hs w
  clear h I hi hs
  go_enter Tryz.func58, Tryz.ntmps58
  go_wp2_with fail
  refine hl.mono ?_
  rintro e w' ⟨rfl, rfl⟩
  clear hl
  go_wp2_with fail
  refine hw.mono ?_
  rintro e w' ⟨rfl, rfl⟩
  clear hw
  go_wp2
  go_ret2
  exact ⟨rfl, rfl⟩

set_option maxHeartbeats 1000000 in
theorem bput_no (h : Sep F0 w0 w Ps) (i : Nat) (hi : Ps[i]? = some (stR b m la S T)) (I : StInv S T H R) (hT : Tab64 w) {s : ByteArray} (hs : s.size ≤ 1000) {L : Nat} (hL : L = 1 + (s.size + 7) / 8) {hd er : Int} (M : Made S T H R (L : Int) hd er S' T' H' R') (he : er ≠ 0) :
    Calls Tryz.prog 58 #[.pointer (some ⟨b, 0, none⟩), .string s] w fun e w' => e = .returned (.tuple #[.int .u64 0, .int .i64 er]) ∧ Sep F0 w0 w' (Ps.set i (stR b m la S' T')) := by
  refine h.lift i hi fun F h1 => ?_
  have hl := stlen_call h1 0 rfl I (hh := 0) (by omega) (.stale T.at_zero)
  have hw := words_call s hs hL w
  obtain ⟨rfl, _, _, _⟩ := M.err he
  have d : (er != 0) = true := bneT he
  have HM := Lib.hid (And.intro h1 (And.intro hT M))
  clear h h1 hi I M he hT hL hs
  go_enter Tryz.func58, Tryz.ntmps58
  go_wp2_with fail
  refine hl.mono ?_
  rintro e w' ⟨rfl, rfl⟩
  clear hl
  go_wp2_with fail
  refine hw.mono ?_
  rintro e w2 ⟨g, rfl, h2⟩
  have h3 := HM.out.1.join h2
  have hc := stmake_call h3 0 rfl (HM.out.2.1.mod h2.mod) HM.out.2.2
  clear hw h2 h3
  go_wp2_with fail
  refine hc.mono ?_
  rintro e w3 ⟨rfl, h4⟩
  have H4 : Hid (Sep F w w3 [stR b m la S' T']) := Sep.left (Ps := [_]) h4
  clear hc h4
  go_wp2
  go_ret2
  exact ⟨rfl, H4.out⟩

set_option maxHeartbeats 1000000 in
theorem bput_ok (h : Sep F0 w0 w Ps) (i : Nat) (hi : Ps[i]? = some (stR b m la S T)) (I : StInv S T H R) (hT : Tab64 w) {s : ByteArray} (hs : s.size ≤ 1000) {L : Nat} (hL : L = 1 + (s.size + 7) / 8) {hd : Int} (M : Made S T H R (L : Int) hd 0 S' T' H' R') :
    Calls Tryz.prog 58 #[.pointer (some ⟨b, 0, none⟩), .string s] w fun e w' => ∃ (p : Slb × Nat), (e = .returned (.tuple #[.int .u64 hd, .int .i64 0]) ∧ StInv p.1 T' H' (R ++ [⟨hd, (p.2 : Int), Txt.tw s⟩]) ∧ p.1.pg = S'.pg ∧ p.1.quota = S'.quota) ∧ Sep F0 w0 w' (Ps.set i (stR b m la p.1 T')) := by
  refine h.liftE i hi (R' := fun (p : Slb × Nat) => stR b m la p.1 T') (C := fun p e => e = .returned (.tuple #[.int .u64 hd, .int .i64 0]) ∧ StInv p.1 T' H' (R ++ [⟨hd, (p.2 : Int), Txt.tw s⟩]) ∧ p.1.pg = S'.pg ∧ p.1.quota = S'.quota) fun F h1 => ?_
  have hl := stlen_call h1 0 rfl I (hh := 0) (by omega) (.stale T.at_zero)
  have hw := words_call s hs hL w
  obtain ⟨_, _, _, a, hR'⟩ := M.good rfl
  rw [Int.toNat_natCast] at hR'
  have HK : Hid (StInv S' T' H' (R ++ [⟨hd, (a : Int), List.replicate L 0⟩])) := by have := M.inv; rw [hR'] at this; exact this
  have hrg := M.range
  have hj : (R ++ [(⟨hd, (a : Int), List.replicate L 0⟩ : Rc)])[R.length]? = some ⟨hd, (a : Int), List.replicate L 0⟩ := by rw [List.getElem?_append_right (Nat.le_refl _), Nat.sub_self]; rfl
  have HJ := Lib.hid hj
  have HM := Lib.hid (And.intro h1 (And.intro hT M))
  have HO := Lib.hid (NodeOut.start HK.out hj (Txt.tw s))
  have HL := Lib.hid (show (Txt.tw s).length = L by rw [Txt.tw_len, hL])
  have hL1 : L ≤ 126 := by omega
  have h0 : 0 ≤ hd ∧ hd < 18446744073709551616 := ⟨hrg.1, hrg.2.1⟩
  have H0 := Lib.hid h0
  clear h h1 hi I M hT hR' hj HK hrg hL h0
  go_enter Tryz.func58, Tryz.ntmps58
  go_wp2_with fail
  refine hl.mono ?_
  rintro e w' ⟨rfl, rfl⟩
  clear hl
  go_wp2_with fail
  refine hw.mono ?_
  rintro e w2 ⟨g, rfl, h2⟩
  have h3 := HM.out.1.join h2
  have hc := stmake_call h3 0 rfl (HM.out.2.1.mod h2.mod) HM.out.2.2
  clear hw h2 h3
  go_wp2_with fail
  refine hc.mono ?_
  rintro e w3 ⟨rfl, h4⟩
  have HR : Hid (∃ S1, NodeOut S' T' H' (R ++ [⟨hd, (a : Int), List.replicate L 0⟩]) R.length ⟨hd, (a : Int), List.replicate L 0⟩ (Txt.tw s) 0 S1 ∧ Sep F w w3 [stR b m la S1 T', u64Row (.slice (some ⟨g, 0, none⟩) L L) L (Txt.tw s)]) := ⟨S', HO.out, h4⟩
  clear hc h4 HM HO
  go_wp2_with fail
  go_loopw [40] (fun kv wr => ∃ k : Nat, kv = .int .i64 k ∧ k ≤ L ∧ ∃ S1, NodeOut S' T' H' (R ++ [⟨hd, (a : Int), List.replicate L 0⟩]) R.length ⟨hd, (a : Int), List.replicate L 0⟩ (Txt.tw s) k S1 ∧ Sep F w wr [stR b m la S1 T', u64Row (.slice (some ⟨g, 0, none⟩) L L) L (Txt.tw s)]) (fun kv _ => L - (RowKit.intOf kv).toNat)
  case atStart => exact ⟨0, rfl, Nat.zero_le _, HR.out⟩
  case round =>
    obtain ⟨k, rfl, hk, S1, hO, h⟩ := hrel
    clear HR
    by_cases hlt : k < L
    · obtain ⟨x, hxk⟩ : ∃ x, (Txt.tw s)[k]? = some x := ⟨_, List.getElem?_eq_getElem (by rw [HL.out]; exact hlt)⟩
      have hxr := Txt.tw_range s (by omega) x (List.mem_of_getElem? hxk)
      obtain ⟨S2, P⟩ := hO.1.putNext HJ.out (Int.natCast_nonneg a) (by rw [HL.out]; simp) hxk hxr.1 hxr.2
      have hc := stput_call h 0 rfl hO.1 (hh := hd) H0.out hxr.1 hxr.2 P
      obtain ⟨g1, eg, c1, _⟩ := h.item 1 rfl (o := k) (x := .int .u64 x) (by rw [List.getElem?_map, hxk]; rfl)
      cases eg
      have hq := P.quo
      have HO2 : Hid (NodeOut S' T' H' (R ++ [⟨hd, (a : Int), List.replicate L 0⟩]) R.length ⟨hd, (a : Int), List.replicate L 0⟩ (Txt.tw s) (k + 1) S2) := ⟨P.inv, hq.2.trans hO.2.1, hq.1.trans hO.2.2⟩
      have hlt' : (k : Int) < (L : Int) := by omega
      clear h hO P hq hxr hxk
      go_wp2_with fail
      refine hc.mono ?_
      rintro e w3 ⟨rfl, h3⟩
      have H3 : Hid (Sep F w w3 [stR b m la S2 T', u64Row (.slice (some ⟨g, 0, none⟩) L L) L (Txt.tw s)]) := h3
      clear hc h3
      go_wp2
      go_roundw
      case rel => exact ⟨k + 1, by go_num, by omega, S2, HO2.out, H3.out⟩
      case measure => simp [RowKit.intOf]; omega
    · obtain rfl : k = L := by omega
      have H3 : Hid (Sep F w wr [stR b m la S1 T']) := Sep.left (Ps := [_]) h
      have HO2 := Lib.hid hO
      clear h hO hlt
      go_wp2
      go_ret2
      refine ⟨(S1, a), ⟨rfl, ?_, HO2.out.2⟩, H3.out⟩
      have hI := HO2.out.1
      rw [← HL.out, putW_all _ (by rw [HL.out]; simp)] at hI
      have e : (R ++ [(⟨hd, (a : Int), List.replicate (Txt.tw s).length 0⟩ : Rc)]).set R.length { (⟨hd, (a : Int), List.replicate (Txt.tw s).length 0⟩ : Rc) with w := Txt.tw s } = R ++ [⟨hd, (a : Int), Txt.tw s⟩] := by
        rw [List.set_append_right _ _ (Nat.le_refl _), Nat.sub_self]
        rfl
      rw [e] at hI
      exact hI

theorem bget_no (h : Sep F0 w0 w Ps) (i : Nat) (hi : Ps[i]? = some (stR b m la S T)) (I : StInv S T H R) {hh : Int} (h0 : 0 ≤ hh ∧ hh < 18446744073709551616) (e : T.at' hh = (0, 7)) :
    Calls Tryz.prog 59 #[.pointer (some ⟨b, 0, none⟩), .int .u64 hh] w fun e w' => e = .returned (.tuple #[.string ⟨#[]⟩, .int .i64 7]) ∧ w = w' := by
  have hl := stlen_call h i hi I h0 (.stale e)
  clear h I hi e h0
  go_enter Tryz.func59, Tryz.ntmps59
  go_wp2_with fail
  refine hl.mono ?_
  rintro e w' ⟨rfl, rfl⟩
  clear hl
  go_wp2
  go_ret2
  exact ⟨rfl, rfl⟩

theorem bget_ok (h : Sep F0 w0 w Ps) (i : Nat) (hi : Ps[i]? = some (stR b m la S T)) (I : StInv S T H R) {hh : Int} (h0 : 0 ≤ hh ∧ hh < 18446744073709551616) {j : Nat} {r : Rc} (L : Rec R hh j r) {s : ByteArray} (hs : s.size ≤ 1000) (hw : r.w = Txt.tw s) :
    Calls Tryz.prog 59 #[.pointer (some ⟨b, 0, none⟩), .int .u64 hh] w fun e w' => e = .returned (.tuple #[.string s, .int .i64 0]) ∧ Mod No w w' := by
  have hl := stlen_call h i hi I h0 (.ok j r L)
  have hln : r.w.length = 1 + (s.size + 7) / 8 := by rw [hw, Txt.tw_len]
  have hb := bwords_call b hh w
  obtain ⟨B1, e1⟩ : ∃ x, w.heap.size = x := ⟨_, rfl⟩
  obtain ⟨B2, e2⟩ : ∃ x, w.heap.size + 1 = x := ⟨_, rfl⟩
  obtain ⟨W, hW⟩ : ∃ W, (w.alloc (.cells #[.pointer (some ⟨b, 0, none⟩)] 25)).alloc (.cells #[.int .u64 hh] 45) = W := ⟨_, rfl⟩
  have hc := bcollect_call h i hi I h0 L (by omega) e1 e2 hW
  have HMW : Hid (Mod No w W) := by show Mod No w W; rw [← hW]; exact ((Mod.refl No w).alloc _).alloc _
  rw [e2, e1, hW] at hb
  have HW := Lib.hid (And.intro hw (And.intro hln hs))
  obtain ⟨M, hM⟩ : ∃ x, r.w.length = x := ⟨_, rfl⟩
  rw [hM] at hl hc HW
  clear h I hi L h0 hw hln hW e1 e2 hM
  go_enter Tryz.func59, Tryz.ntmps59
  go_wp2_with fail
  refine hl.mono ?_
  rintro e w' ⟨rfl, rfl⟩
  clear hl
  go_wp2_with fail
  refine hb.mono ?_
  rintro e w' ⟨rfl, rfl⟩
  clear hb
  go_wp2_with fail
  refine hc.mono ?_
  rintro e w2 ⟨v, rfl, h2⟩
  rw [HW.out.1] at h2
  obtain ⟨sa, cap, rfl⟩ := Sep.form h2 0 rfl
  obtain ⟨g, rfl, -, -⟩ := Sep.item h2 0 rfl (o := 0) (x := .int .u64 (s.size : Int)) rfl
  have hq := h2.lift 0 rfl (R' := u64Row (.slice (some ⟨g, 0, none⟩) M cap) M (Txt.tw s)) fun F h1 => textof_in h1 HW.out.2.2 HW.out.2.1
  have hm2 := Lib.hid h2.mod
  clear hc h2
  go_wp2_with fail
  refine hq.mono ?_
  rintro e w3 ⟨rfl, h3⟩
  have hm3 := Lib.hid (HMW.out.trans' h3.mod)
  clear hq h3 hm2
  go_wp2
  go_ret2
  exact ⟨rfl, hm3.out⟩
end
end Go.Proofs.YtfmcddomciicdaaGreatDoor
