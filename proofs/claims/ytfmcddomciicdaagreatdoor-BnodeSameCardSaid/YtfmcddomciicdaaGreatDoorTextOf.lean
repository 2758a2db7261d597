/- Package text, walked: Of a text's own words; slices.Equal of equal words. Conditions: as each says. -/
import Derived.Test.YtfmcddomciicdaaGreatDoorTextWalk
set_option linter.unusedVariables false
set_option linter.unusedSimpArgs false
set_option maxRecDepth 100000
namespace Go.Proofs.YtfmcddomciicdaaGreatDoor
open Go Go.RowKit

variable {F0 : Nat → Prop} {w0 w : World} {Ps : List Res}

theorem infoByte : (Tryz.prog.info? 5).map (fun i => (i.zero, i.size, i.bytes)) = some (some (.int .u8 0), 1, 1) := by kernel_rfl

theorem equal_call (h : Sep F0 w0 w Ps) (p q : Nat) {sa sb : Option Addr} {n ca cb : Nat} {xs : List Int} (hn : xs.length = n) (hp : Ps[p]? = some (u64Row (.slice sa n ca) n xs)) (hq : Ps[q]? = some (u64Row (.slice sb n cb) n xs)) (hl : n ≤ 1000000) :
    Calls Tryz.prog 143 #[.slice sa n ca, .slice sb n cb] w fun e w' => e = .returned (.bool true) ∧ Mod No w w' := by
  have HH := Lib.hid (And.intro h (And.intro hp (And.intro hq hn)))
  have dn : ((n : Int) != (n : Int)) = false := bneF rfl
  clear h hp hq hn
  have HM := Lib.hid (Mod.refl No w)
  go_enter Tryz.func143, Tryz.ntmps143
  go_wp2_with fail
  go_loopw [13] (fun iv wr => ∃ k : Nat, iv = .int .i64 k ∧ k ≤ n ∧ Mod No w wr) (fun iv _ => n - (RowKit.intOf iv).toNat)
  case atStart => exact ⟨0, rfl, Nat.zero_le _, HM.out⟩
  case round =>
    obtain ⟨k, rfl, hk, hm⟩ := hrel
    clear HM
    by_cases hlt : k < n
    · obtain ⟨x, hx⟩ : ∃ x, xs[k]? = some x := ⟨_, List.getElem?_eq_getElem (by rw [HH.out.2.2.2]; exact hlt)⟩
      have hd := HH.out.1.more hm
      obtain ⟨g1, rfl, c1, _⟩ := hd.item p HH.out.2.1 (o := k) (x := .int .u64 x) (by rw [List.getElem?_map, hx]; rfl)
      obtain ⟨g2, rfl, c2, _⟩ := hd.item q HH.out.2.2.1 (o := k) (x := .int .u64 x) (by rw [List.getElem?_map, hx]; rfl)
      have dx : (x != x) = false := bneF rfl
      have HM := Lib.hid hm
      have hlt' : (k : Int) < (n : Int) := by omega
      clear hx hd hm
      go_wp2_with fail
      refine wp_region_quiet_lit (by kernel_rfl) (by kernel_rfl) ?_
      repeat (go_big_quiet_step (fail))
      refine wpQuiet_nil ?_
      intro wq hwq
      obtain ⟨nq, hwq⟩ := hwq
      have hq := Mod.of_drewN hwq
      clear hwq nq
      have HM2 := Lib.hid (HM.out.trans' hq)
      clear hq
      go_wp2
      go_roundw
      case rel => exact ⟨k + 1, by go_num, by omega, HM2.out⟩
      case measure => simp [RowKit.intOf]; omega
    · obtain rfl : k = n := by omega
      have HM := Lib.hid hm
      clear hm hlt
      go_wp2
      go_ret
      exact ⟨rfl, HM.out⟩

/-- A text's first bytes. -/
def bl (s : ByteArray) (i : Nat) : List Int := (List.range i).map fun t => (Txt.byteAt s t : Int)
theorem bl_succ (s : ByteArray) (i : Nat) : bl s (i + 1) = bl s i ++ [(Txt.byteAt s i : Int)] := by unfold bl; rw [List.range_succ, List.map_append]; rfl
theorem bl_len (s : ByteArray) (i : Nat) : (bl s i).length = i := by simp [bl]
theorem bl_str (s : ByteArray) : strOfNums (bl s s.size) = s := by
  have : (bl s s.size).map (fun n => UInt8.ofNat n.toNat) = s.data.toList := by
    apply List.ext_getElem?
    intro i
    unfold bl
    rw [List.map_map, List.getElem?_map]
    by_cases h : i < s.size
    · have h' : i < s.data.size := h
      rw [List.getElem?_range h, Array.getElem?_toList, Array.getElem?_eq_getElem h']
      simp only [Option.map_some, Function.comp, Int.toNat_natCast, Option.some.injEq]
      unfold Txt.byteAt
      rw [Array.getElem?_eq_getElem h']
      simp
    · have h' : s.data.size ≤ i := by have : s.data.size = s.size := rfl; omega
      rw [List.getElem?_eq_none (by simp; omega), Array.getElem?_toList, Array.getElem?_eq_none h']
      rfl
  unfold strOfNums
  rw [this]

def OfRel (F : Nat → Prop) (w : World) (v : Value) (L : Nat) (s : ByteArray) (i : Nat) (u : Value) (wr : World) : Prop :=
  Sep F w wr [u64Row v L (Txt.tw s), rowAt 5 1 u i ((bl s i).map (Value.int .u8))]

set_option maxHeartbeats 2000000 in
theorem textof_in {F : Nat → Prop} {g L cap : Nat} {s : ByteArray} (h : Sep F w w [u64Row (.slice (some ⟨g, 0, none⟩) L cap) L (Txt.tw s)]) (hs : s.size ≤ 1000) (hL : L = 1 + (s.size + 7) / 8) :
    Calls Tryz.prog 105 #[.slice (some ⟨g, 0, none⟩) L cap] w fun e w' => e = .returned (.tuple #[.string s, .int .i64 0]) ∧ Sep F w w' [u64Row (.slice (some ⟨g, 0, none⟩) L cap) L (Txt.tw s)] := by
  obtain ⟨g', eg, c0, _⟩ := h.item 0 rfl (o := 0) (x := .int .u64 (s.size : Int)) rfl
  cases eg
  have hmc := fun W => many_call (s.size : Int) W
  have hme : many (s.size : Int) = (L : Int) := by unfold many; rw [if_neg (by omega)]; omega
  rw [hme] at hmc
  have HMC := Lib.hid hmc
  have d0 : ((L : Int) == 0) = false := beqF (by omega)
  have d1 : decide ((1000 : Int) < (s.size : Int)) = false := ltF (by omega)
  have d2 : ((L : Int) != (L : Int)) = false := bneF rfl
  have ew : IntKind.i64.wrap (s.size : Int) = (s.size : Int) := by rw [IntKind.wrap_i64]; omega
  have HL := Lib.hid hL
  have H := Lib.hid h
  have hL1 : 0 < L := by omega
  have hL2 : L ≤ 126 := by omega
  have hn := HMC.out w
  clear h hL hmc hme
  go_enter Tryz.func105, Tryz.ntmps105
  go_wp2_with fail
  refine hn.mono ?_
  rintro e w' ⟨rfl, rfl⟩
  clear hn
  have hst : Hid (OfRel F w (.slice (some ⟨g, 0, none⟩) L cap) L s 0 (.slice none 0 0) w) := H.out.pushNil _ _
  go_wp2_with fail
  obtain ⟨i0, hi0, hz0, hz1, hz2⟩ := info_parts infoByte
  have HI := Lib.hid (And.intro hi0 (And.intro hz0 (And.intro hz1 hz2)))
  clear hi0 hz0 hz1 hz2 c0
  go_loopw [4, 32] (fun u iv wr => ∃ i : Nat, iv = .int .i64 i ∧ i ≤ s.size ∧ OfRel F w (.slice (some ⟨g, 0, none⟩) L cap) L s i u wr) (fun _ iv _ => s.size - (RowKit.intOf iv).toNat)
  case atStart => exact ⟨0, rfl, Nat.zero_le _, hst.out⟩
  case round =>
    obtain ⟨i, rfl, hi, h⟩ := hrel
    clear hst
    obtain ⟨sb, cb, rfl⟩ := Sep.form h 1 rfl
    by_cases hlt : i < s.size
    · have hj : i / 8 < (s.size + 7) / 8 := by omega
      obtain ⟨jn, hjn⟩ : ∃ x, i / 8 = x := ⟨_, rfl⟩
      obtain ⟨t, ht⟩ : ∃ x, i % 8 = x := ⟨_, rfl⟩
      obtain ⟨u, hu⟩ : ∃ x, 7 - t = x := ⟨_, rfl⟩
      obtain ⟨j1, hj1⟩ : ∃ x, 1 + jn = x := ⟨_, rfl⟩
      obtain ⟨k8, hk8⟩ : ∃ x, 8 * u = x := ⟨_, rfl⟩
      obtain ⟨gx, eg, cx, _⟩ := Sep.item h 0 rfl (o := 1 + i / 8) (x := .int .u64 (Txt.wordAt s (i / 8) : Nat)) (by rw [List.getElem?_map, Txt.tw_get hj]; rfl)
      cases eg
      have hwl := Txt.wordAt_lt s (i / 8)
      have hbb := Txt.byte_back s i
      rw [hjn] at cx hj hwl hbb
      rw [hj1] at cx
      obtain ⟨wd, hwd⟩ : ∃ x, Txt.wordAt s jn = x := ⟨_, rfl⟩
      obtain ⟨c, hc⟩ : ∃ x, Txt.byteAt s i = x := ⟨_, rfl⟩
      have hpw : (256 : Nat) ^ (7 - i % 8) = 2 ^ k8 := by
        rw [ht, hu, ← hk8, show (256 : Nat) = 2 ^ 8 from rfl, ← Nat.pow_mul]
      rw [hwd] at cx hwl hbb
      rw [hpw, hc] at hbb
      obtain ⟨q, hq⟩ : ∃ x, wd / 2 ^ k8 = x := ⟨_, rfl⟩
      rw [hq] at hbb
      have e1 : (i : Int) / 8 = (jn : Int) := by omega
      have e2 : IntKind.i64.wrap (jn : Int) = (jn : Int) := by rw [IntKind.wrap_i64]; omega
      have e3 : IntKind.i64.wrap (1 + (jn : Int)) = (j1 : Int) := by rw [IntKind.wrap_i64]; omega
      have e3' : 1 + (jn : Int) = (j1 : Int) := by omega
      have e4 : (i : Int).tmod 8 = (t : Int) := by rw [Int.tmod_eq_emod_of_nonneg (by omega)]; omega
      have e5 : IntKind.i64.wrap (7 - (t : Int)) = (u : Int) := by rw [IntKind.wrap_i64]; omega
      have e5' : 7 - (t : Int) = (u : Int) := by omega
      have e6 : IntKind.i64.wrap (8 * (u : Int)) = (k8 : Int) := by rw [IntKind.wrap_i64]; omega
      have e6' : 8 * (u : Int) = (k8 : Int) := by omega
      have hk64 : k8 ≤ 56 := by omega
      have hkn : ¬ (k8 : Int) < 0 := by omega
      have hmin : min k8 64 = k8 := by omega
      have efd : (wd : Int) / 2 ^ k8 = (q : Int) := by
        rw [show ((2 : Int) ^ k8) = ((2 ^ k8 : Nat) : Int) by push_cast; rfl, ← Int.natCast_ediv, hq]
      have eb : (q : Int) % 256 = (c : Int) := by omega
      have hjL : j1 < L := by have := HL.out; omega
      have hjL' : (j1 : Int) < (L : Int) := by omega
      obtain ⟨hi0, hz0, hz1, hz2⟩ := HI.out
      have HB := Lib.hid (And.intro hc h)
      have hlt' : (i : Int) < (s.size : Int) := by omega
      clear h hbb hpw hq hwd hc hj hjn ht hu hj1 hk8
      have hrow : Sep F w wr [u64Row (.slice (some ⟨g, 0, none⟩) L cap) L (Txt.tw s), rowAt 5 1 (.slice sb i cb) i ((bl s i).map (Value.int .u8))] := HB.out.2
      go_wp2_with (at_builtin; refine wpList_append_sep1 hrow 1 rfl (by rfl) _ _ 229 rfl Tryz.underlying229 hi0 hz0 hz1 hz2 rfl (by rfl) _ _ (by rfl) (by simp) (by rfl) _ (by unfold maxLen; omega) (by omega) ?_)
      intro gg capg w4 h4
      have H4 : Hid (OfRel F w (.slice (some ⟨g, 0, none⟩) L cap) L s (i + 1) (.slice (some ⟨gg, 0, none⟩) (i + 1) capg) w4) := by
        unfold OfRel
        rw [bl_succ, List.map_append, HB.out.1]
        exact h4
      clear h4 hrow hi0 hz0 hz1 hz2 cx HB
      go_wp2
      go_roundw
      case rel => exact ⟨i + 1, by go_num, by omega, H4.out⟩
      case measure => simp [RowKit.intOf]; omega
    · obtain rfl : i = s.size := by omega
      have hcv : (convert 229 9 (.slice sb s.size cb)).run Tryz.prog wr = .ok (.string s) wr := by
        by_cases h0 : s.size = 0
        · have hr := Sep.row h 1 rfl
          rcases hr.2 with ⟨hv, _⟩ | ⟨gx, cx, cur, hv, _⟩
          · simp only [Value.slice.injEq] at hv
            obtain ⟨rfl, _, _⟩ := hv
            have := run_convert_bytes_nil (P := Tryz.prog) wr 229 5 Tryz.underlying229 Tryz.underlying5 s.size cb 9 Tryz.underlying9
            rw [this]
            have hse := bl_str s
            rw [h0] at hse
            have : strOfNums (bl s 0) = ByteArray.empty := rfl
            rw [this] at hse
            rw [hse]
          · simp only [Value.slice.injEq] at hv
            obtain ⟨rfl, _, rfl⟩ := hv
            have := run_convert_bytes_arg (P := Tryz.prog) wr 229 5 Tryz.underlying229 Tryz.underlying5 gx 0 s.size cb (bl s s.size) (bl_len s _) (fun i hi => by omega) 9 Tryz.underlying9
            rw [this, bl_str]
        · obtain ⟨gx, rfl, _, _⟩ := Sep.item h 1 rfl (o := 0) (x := .int .u8 (Txt.byteAt s 0 : Nat)) (by unfold bl; rw [List.map_map, List.getElem?_map, List.getElem?_range (by omega)]; rfl)
          have := run_convert_bytes_arg (P := Tryz.prog) wr 229 5 Tryz.underlying229 Tryz.underlying5 gx 0 s.size cb (bl s s.size) (bl_len s _) (fun i hi => by
            obtain ⟨gy, eg, cy, _⟩ := Sep.item h 1 rfl (o := i) (x := .int .u8 (Txt.byteAt s i : Nat)) (by unfold bl; rw [List.map_map, List.getElem?_map, List.getElem?_range hi]; rfl)
            cases eg
            rw [Nat.zero_add, cy]
            unfold bl
            rw [List.getD_eq_getElem?_getD, List.getElem?_map, List.getElem?_range hi]
            rfl) 9 Tryz.underlying9
          rw [this, bl_str]
      have hwc := words_call s hs HL.out wr
      have HB : Hid (Sep F w wr [u64Row (.slice (some ⟨g, 0, none⟩) L cap) L (Txt.tw s)]) := Sep.left (Ps := [_]) h
      clear h hlt
      go_wp2_with fail
      refine hwc.mono ?_
      rintro e w2 ⟨g2, rfl, h2⟩
      have h3 := HB.out.join h2
      have heq := equal_call h3 1 0 (xs := Txt.tw s) (by rw [Txt.tw_len, HL.out]) rfl rfl (by omega)
      have H3 := Lib.hid h3
      clear hwc h2 h3 hcv
      go_wp2_with fail
      refine heq.mono ?_
      rintro e w3 ⟨rfl, hm⟩
      have H4 : Hid (Sep F w w3 [u64Row (.slice (some ⟨g, 0, none⟩) L cap) L (Txt.tw s)]) := Sep.left (Ps := [_]) (H3.out.more hm)
      clear heq hm H3
      go_wp2
      go_ret2
      exact ⟨rfl, H4.out⟩
end Go.Proofs.YtfmcddomciicdaaGreatDoor
