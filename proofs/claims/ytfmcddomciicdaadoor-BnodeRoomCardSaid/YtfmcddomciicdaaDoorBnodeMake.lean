/- Package bnode, walked: Make. Conditions: the store's records are as said; a node's slices hold what is said; the table of math/bits holds what its initialiser lays. -/
import Derived.Test.YtfmcddomciicdaaDoorBnodePut
set_option linter.unusedVariables false
set_option linter.unusedSimpArgs false
set_option maxRecDepth 100000
namespace Go.Proofs.YtfmcddomciicdaaDoor
open Go Go.RowKit

variable {F0 : Nat → Prop} {w0 w : World} {Ps : List Res}

theorem list_set_same {α : Type} {l : List α} {i : Nat} {a : α} (h : l[i]? = some a) : l.set i a = l := by
  apply List.ext_getElem?
  intro k
  rw [List.getElem?_set]
  have := (List.getElem?_eq_some_iff.1 h).1
  by_cases e : i = k
  · subst e; rw [if_pos rfl, if_pos this, h]
  · rw [if_neg e]

section
variable {b : Nat} {m la : Int} {S S' : Slb} {T T' : HTbl} {H H' : List Ent} {R R' : List Rc}

/-- A node that does not fit. -/
theorem bnmake_arg (h : Sep F0 w0 w Ps) (i : Nat) (hi : Ps[i]? = some (stR b m la S T)) (I : StInv S T H R) {sk sv sc : Option Addr} {ck cv cc : Nat} {x : Nd} (hx : HasR w sc x.kids) (lk : x.keys.length ≤ maxLen) (lc : x.kids.length ≤ maxLen) {t : Int} (hf : Nd.fitB t x = false) :
    Calls Tryd.prog 36 #[.pointer (some ⟨b, 0, none⟩), .int .i64 t, ndV sk ck sv cv sc cc x] w fun e w' => e = .returned (.tuple #[.int .u64 0, .int .i64 2]) ∧ Mod No w w' := by
  have hm : Mod No w (w.alloc (.cells #[.slice sk x.keys.length ck, .slice sv x.vals.length cv, .slice sc x.kids.length cc, .int .u64 x.size] 73)) := (Mod.refl No w).alloc _
  have hl := stlen_call (h.more hm) i hi I (hh := 0) (by omega) (.stale T.at_zero)
  have hc := fits_call (sk := sk) (sv := sv) (ck := ck) (cv := cv) (cc := cc) (hx.mod hm) lk lc t
  rw [hf] at hc
  have HM := Lib.hid hm
  clear h hi I hx lk lc hf hm
  go_enter Tryd.func36, Tryd.ntmps36
  go_wp2_with fail
  refine hl.mono ?_
  rintro e w' ⟨rfl, rfl⟩
  clear hl
  go_wp2_with fail
  refine hc.mono ?_
  rintro e w2 ⟨rfl, hm2⟩
  have HM2 := Lib.hid (HM.out.trans' hm2)
  clear hc hm2
  go_wp2
  go_ret2
  exact ⟨rfl, HM2.out⟩

theorem bnmake_no (h : Sep F0 w0 w Ps) (i : Nat) (hi : Ps[i]? = some (stR b m la S T)) (I : StInv S T H R) (hT : Tab64 w) {sk sv sc : Option Addr} {ck cv cc : Nat} {x : Nd} (hx : HasR w sc x.kids) (lk : x.keys.length ≤ maxLen) (lc : x.kids.length ≤ maxLen)
    {t n6 : Nat} (hf : Nd.fitB (t : Int) x = true) (hn6 : 6 * t = n6) {hd er : Int} (M : Made S T H R (n6 : Int) hd er S' T' H' R') (he : er ≠ 0) :
    Calls Tryd.prog 36 #[.pointer (some ⟨b, 0, none⟩), .int .i64 (t : Nat), ndV sk ck sv cv sc cc x] w fun e w' => e = .returned (.tuple #[.int .u64 0, .int .i64 er]) ∧ Sep F0 w0 w' (Ps.set i (stR b m la S' T')) := by
  have hm : Mod No w (w.alloc (.cells #[.slice sk x.keys.length ck, .slice sv x.vals.length cv, .slice sc x.kids.length cc, .int .u64 x.size] 73)) := (Mod.refl No w).alloc _
  have hl := stlen_call (h.more hm) i hi I (hh := 0) (by omega) (.stale T.at_zero)
  have hc := fits_call (sk := sk) (sv := sv) (ck := ck) (cv := cv) (cc := cc) (hx.mod hm) lk lc (t : Int)
  rw [hf] at hc
  obtain ⟨rfl, _, _, _⟩ := M.err he
  have d : (er != 0) = true := bneT he
  have F := Nd.Fits.of hf
  have ht96 : t ≤ 16 ∧ n6 ≤ 96 := by have := F.t16; omega
  have e6 : IntKind.i64.wrap (6 * (t : Int)) = (n6 : Int) := by rw [IntKind.wrap_i64]; omega
  have HM := Lib.hid (And.intro (h.more hm) (And.intro hi (And.intro (hT.mod hm) M)))
  clear h hi I hx lk lc hf hm hT M F hn6 he
  go_enter Tryd.func36, Tryd.ntmps36
  go_wp2_with fail
  refine hl.mono ?_
  rintro e w' ⟨rfl, rfl⟩
  clear hl
  go_wp2_with fail
  refine hc.mono ?_
  rintro e w2 ⟨rfl, hm2⟩
  have hk := stmake_call (HM.out.1.more hm2) i HM.out.2.1 (HM.out.2.2.1.mod hm2) HM.out.2.2.2
  clear hc hm2
  go_wp2_with fail
  refine hk.mono ?_
  rintro e w3 ⟨rfl, h3⟩
  have H3 := Lib.hid h3
  clear hk h3
  go_wp2
  go_ret2
  exact ⟨rfl, H3.out⟩

set_option maxHeartbeats 1000000 in
theorem bnmake_ok (h : Sep F0 w0 w Ps) (i : Nat) (hi : Ps[i]? = some (stR b m la S T)) (I : StInv S T H R) (hT : Tab64 w) {sk sv sc : Option Addr} {ck cv cc : Nat} {x : Nd} (hx : ∀ (wr : World) (S1 : Slb) (T1 : HTbl), Sep F0 w0 wr (Ps.set i (stR b m la S1 T1)) → NdAt wr sk sv sc x) (hxo : x.Ok) (lk : x.keys.length ≤ maxLen) (lc : x.kids.length ≤ maxLen)
    {t n6 : Nat} (hf : Nd.fitB (t : Int) x = true) (hn6 : 6 * t = n6) {hd : Int} (M : Made S T H R (n6 : Int) hd 0 S' T' H' R') :
    Calls Tryd.prog 36 #[.pointer (some ⟨b, 0, none⟩), .int .i64 (t : Nat), ndV sk ck sv cv sc cc x] w fun e w' => ∃ (p : Slb × Nat), (e = .returned (.tuple #[.int .u64 hd, .int .i64 0]) ∧ StInv p.1 T' H' (R ++ [⟨hd, (p.2 : Int), Nd.ws t x⟩]) ∧ p.1.pg = S'.pg ∧ p.1.quota = S'.quota) ∧ Sep F0 w0 w' (Ps.set i (stR b m la p.1 T')) := by
  have il := (List.getElem?_eq_some_iff.1 hi).1
  have hm : Mod No w (w.alloc (.cells #[.slice sk x.keys.length ck, .slice sv x.vals.length cv, .slice sc x.kids.length cc, .int .u64 x.size] 73)) := (Mod.refl No w).alloc _
  have hl := stlen_call (h.more hm) i hi I (hh := 0) (by omega) (.stale T.at_zero)
  have hx1 : NdAt w sk sv sc x := hx w S T (by rw [list_set_same hi]; exact h)
  have hc := fits_call (sk := sk) (sv := sv) (ck := ck) (cv := cv) (cc := cc) (hx1.kids.mod hm) lk lc (t : Int)
  rw [hf] at hc
  have h2 := h.pushCells #[.slice sk x.keys.length ck, .slice sv x.vals.length cv, .slice sc x.kids.length cc, .int .u64 x.size] 73
  have F := Nd.Fits.of hf
  have ht96 : t ≤ 16 ∧ n6 ≤ 96 := by have := F.t16; omega
  have e6 : IntKind.i64.wrap (6 * (t : Int)) = (n6 : Int) := by rw [IntKind.wrap_i64]; omega
  obtain ⟨_, _, _, a, hR'⟩ := M.good rfl
  rw [Int.toNat_natCast] at hR'
  have HK : Hid (StInv S' T' H' (R ++ [⟨hd, (a : Int), List.replicate n6 0⟩])) := by have := M.inv; rw [hR'] at this; exact this
  have hrg := M.range
  have hj : (R ++ [(⟨hd, (a : Int), List.replicate n6 0⟩ : Rc)])[R.length]? = some ⟨hd, (a : Int), List.replicate n6 0⟩ := by rw [List.getElem?_append_right (Nat.le_refl _), Nat.sub_self]; rfl
  have HJ := Lib.hid (And.intro hj (show 0 ≤ hd ∧ hd < 18446744073709551616 from ⟨hrg.1, hrg.2.1⟩))
  have HM := Lib.hid (And.intro h2 (And.intro hi (And.intro (hT.mod hm) (And.intro M il))))
  have HX := Lib.hid (And.intro hx (And.intro hxo (And.intro lk (And.intro lc (And.intro hf hn6)))))
  obtain ⟨bx, hbx⟩ : ∃ x, w.heap.size = x := ⟨_, rfl⟩
  rw [hbx] at HM
  clear h hi I hx hx1 lk lc hf hm hT M F hn6 h2 hj hR' hrg il hxo
  go_enter Tryd.func36, Tryd.ntmps36
  go_wp2_with fail
  refine hl.mono ?_
  rintro e w' ⟨rfl, rfl⟩
  clear hl
  go_wp2_with fail
  refine hc.mono ?_
  rintro e w2 ⟨rfl, hm2⟩
  have hk := stmake_call (HM.out.1.more hm2) i (by rw [List.getElem?_append_left HM.out.2.2.2.2]; exact HM.out.2.1) (HM.out.2.2.1.mod hm2) HM.out.2.2.2.1
  clear hc hm2
  go_wp2_with fail
  refine hk.mono ?_
  rintro e w3 ⟨rfl, h3⟩
  rw [List.set_append_left _ _ HM.out.2.2.2.2] at h3
  have hlen : (Ps.set i (stR b m la S' T')).length = Ps.length := List.length_set
  have hb : (Ps.set i (stR b m la S' T') ++ [cellsAt bx #[.slice sk x.keys.length ck, .slice sv x.vals.length cv, .slice sc x.kids.length cc, .int .u64 x.size] 73])[Ps.length]? = some (cellsAt bx #[.slice sk x.keys.length ck, .slice sv x.vals.length cv, .slice sc x.kids.length cc, .int .u64 x.size] 73) := by
    rw [List.getElem?_append_right (by rw [hlen]; exact Nat.le_refl _), hlen, Nat.sub_self]; rfl
  have k0 := (h3.cell _ hb 0 (v := .slice sk x.keys.length ck) rfl).1
  have k1 := (h3.cell _ hb 1 (v := .slice sv x.vals.length cv) rfl).1
  have k2 := (h3.cell _ hb 2 (v := .slice sc x.kids.length cc) rfl).1
  have k3 := (h3.cell _ hb 3 (v := .int .u64 x.size) rfl).1
  have h4 := Sep.left h3
  have hp := bnput_in (ck := ck) (cv := cv) (cc := cc) h4 i (by rw [List.getElem?_set, if_pos rfl, if_pos HM.out.2.2.2.2]) HK.out (hh := hd) HJ.out.2 ⟨HJ.out.1, Int.natCast_nonneg a, rfl⟩ (HX.out.1 w3 S' T' h4) HX.out.2.1 HX.out.2.2.1 HX.out.2.2.2.1 HX.out.2.2.2.2.1 (by rw [List.length_replicate, HX.out.2.2.2.2.2])
  clear hk h3 h4 hb hlen
  go_wp2_with fail
  refine hp.mono ?_
  rintro e w4 ⟨S2, ⟨rfl, hO⟩, h5⟩
  rw [List.set_set] at h5
  have H5 := Lib.hid h5
  have HO := Lib.hid hO
  clear hp h5 hO
  go_wp2
  go_ret2
  refine ⟨(S2, a), ⟨rfl, ?_, HO.out.2⟩, H5.out⟩
  have hI := HO.out.1
  have hwl : (Nd.ws t x).length = 6 * t := Nd.ws_len t x
  rw [← hwl, putW_all _ (by rw [hwl, List.length_replicate, HX.out.2.2.2.2.2])] at hI
  have e : (R ++ [(⟨hd, (a : Int), List.replicate n6 0⟩ : Rc)]).set R.length { (⟨hd, (a : Int), List.replicate n6 0⟩ : Rc) with w := Nd.ws t x } = R ++ [⟨hd, (a : Int), Nd.ws t x⟩] := by
    rw [List.set_append_right _ _ (Nat.le_refl _), Nat.sub_self]
    rfl
  rw [e] at hI
  exact hI
end
end Go.Proofs.YtfmcddomciicdaaDoor
