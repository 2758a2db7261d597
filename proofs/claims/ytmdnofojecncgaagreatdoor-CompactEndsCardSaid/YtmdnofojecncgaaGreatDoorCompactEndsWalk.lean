/- CompactEnds, walked. Condition: the table of math/bits holds what its initialiser lays. -/
import Derived.Test.YtmdnofojecncgaaGreatDoorEndsSpec
import Derived.Test.YtmdnofojecncgaaGreatDoorAmidWalk
import Derived.Test.YtmdnofojecncgaaGreatDoorSpareSpec
set_option linter.unusedVariables false
set_option linter.unusedSimpArgs false
set_option maxRecDepth 100000
namespace Go.Proofs.YtmdnofojecncgaaGreatDoor
open Go Go.RowKit

theorem StInv.pagesE {S : Slb} {T : HTbl} {H : List Ent} {R : List Rc} (I : StInv S T H R) : S.pg.length ≤ 4096 := by
  have := I.rep.ok.fit
  have := I.rep.ok.q1
  omega
def fst0 (q m : Int) : FSt := ⟨Slb.empty q, ⟨m, 4294967295, []⟩, [], [], 0⟩
theorem fst0_inv {q m : Int} (q0 : 0 ≤ q) (q1 : q ≤ 262144) (m1 : 1 ≤ m) (m2 : m ≤ 65536) : (fst0 q m).Inv := ⟨StInv.start q0 q1 m1 m2 (by omega) (by omega), Nat.le_refl _⟩
theorem FSt.Inv.told {s : FSt} (I : s.Inv) {i : Nat} (hi : i < s.hs.length) : ∃ (hh : Int) (l : List Int), s.hs[i]? = some hh ∧ (0 ≤ hh ∧ hh < 18446744073709551616) ∧ l.length ≤ 4000 ∧ Told s.T s.R hh l := by
  obtain ⟨hh, hg⟩ : ∃ hh, s.hs[i]? = some hh := ⟨_, List.getElem?_eq_getElem hi⟩
  have hg2 := hg
  unfold FSt.hs at hg2
  rw [List.getElem?_drop, List.getElem?_map] at hg2
  obtain ⟨r, hr, rfl⟩ := Option.map_eq_some_iff.1 hg2
  have hrg := I.1.rng hr
  obtain ⟨l, hl⟩ := told_ex I.1 (StInv.named s.T hr)
  refine ⟨_, l, hg, ⟨hrg.1, hrg.2.1⟩, ?_, hl⟩
  cases hl with
  | stale => simp
  | ok j r L => have := (I.1.words r (List.mem_of_getElem? L.hj) L.h0).1; simp; omega
/-- The rows of words that were told. -/
abbrev rowsOf (vs : List Value) (ls : List (List Int)) : List Res := List.zipWith (fun (v : Value) (l : List Int) => wRow v l.length l) vs ls
abbrev EnPs (b cb C1 : Nat) (q m : Int) (S : Slb) (T : HTbl) (hv : Value) (n : Nat) (hs : List Int) (wv : Value) (k : Nat) (vs : List Value) (ls : List (List Int)) : List Res :=
  stR b m 4294967295 S T :: cpR cb b :: cellsAt C1 (rsV q m 4294967295) 35 :: hdRow hv n hs :: rowAt 76 1 wv k vs :: rowsOf vs ls
theorem infoW7 : (Tryz.prog.info? 76).map (fun i => (i.zero, i.size, i.bytes)) = some (some (.slice none 0 0), 1, 24) := by kernel_rfl

structure EnRows (T : HTbl) (R : List Rc) (hs : List Int) (k : Nat) (vs : List Value) (ls : List (List Int)) : Prop where
  vl : vs.length = k
  ll : ls.length = k
  told : ∀ (i : Nat) l, ls[i]? = some l → ∃ hh, hs[i]? = some hh ∧ Told T R hh l
  form : ∀ (i : Nat) v l, vs[i]? = some v → ls[i]? = some l → ∃ sl cl, v = .slice sl l.length cl
theorem EnRows.nil (T : HTbl) (R : List Rc) (hs : List Int) : EnRows T R hs 0 [] [] := ⟨rfl, rfl, fun i l h => by simp at h, fun i v l h => by simp at h⟩
theorem EnRows.snoc {T : HTbl} {R : List Rc} {hs : List Int} {k : Nat} {vs : List Value} {ls : List (List Int)} (E : EnRows T R hs k vs ls) {hh : Int} {l : List Int} (hk : hs[k]? = some hh) (L : Told T R hh l) (sl : Option Addr) (cl : Nat) :
    EnRows T R hs (k + 1) (vs ++ [.slice sl l.length cl]) (ls ++ [l]) := by
  refine ⟨by rw [List.length_append, E.vl]; rfl, by rw [List.length_append, E.ll]; rfl, fun i l' hi => ?_, fun i v l' hv hl => ?_⟩
  · by_cases h : i < k
    · rw [List.getElem?_append_left (by rw [E.ll]; exact h)] at hi
      exact E.told i l' hi
    · rw [List.getElem?_append_right (by rw [E.ll]; omega), E.ll] at hi
      have h0 : i - k = 0 := by have := (List.getElem?_eq_some_iff.1 hi).1; simp at this; omega
      rw [h0] at hi
      cases hi
      obtain rfl : i = k := by omega
      exact ⟨hh, hk, L⟩
  · by_cases h : i < k
    · rw [List.getElem?_append_left (by rw [E.ll]; exact h)] at hl
      rw [List.getElem?_append_left (by rw [E.vl]; exact h)] at hv
      exact E.form i v l' hv hl
    · rw [List.getElem?_append_right (by rw [E.ll]; omega), E.ll] at hl
      rw [List.getElem?_append_right (by rw [E.vl]; omega), E.vl] at hv
      have h0 : i - k = 0 := by have := (List.getElem?_eq_some_iff.1 hl).1; simp at this; omega
      rw [h0] at hl hv
      cases hl
      cases hv
      exact ⟨sl, cl, rfl⟩
theorem rowsOf_snoc {vs : List Value} {ls : List (List Int)} (h : vs.length = ls.length) (v : Value) (l : List Int) : rowsOf (vs ++ [v]) (ls ++ [l]) = rowsOf vs ls ++ [wRow v l.length l] := by
  unfold rowsOf
  rw [List.zipWith_append h]
  rfl
theorem EnRows.get {T : HTbl} {R : List Rc} {hs : List Int} {k : Nat} {vs : List Value} {ls : List (List Int)} (E : EnRows T R hs k vs ls) {i : Nat} (hi : i < k) (b cb C1 : Nat) (q m : Int) (S : Slb) (T' : HTbl) (hv : Value) (n : Nat) (wv : Value) :
    ∃ (hh : Int) (l : List Int) (sl : Option Addr) (cl : Nat), hs[i]? = some hh ∧ Told T R hh l ∧ vs[i]? = some (.slice sl l.length cl) ∧ (EnPs b cb C1 q m S T' hv n hs wv k vs ls)[i + 5]? = some (wRow (.slice sl l.length cl) l.length l) := by
  have hl := List.getElem?_eq_getElem (show i < ls.length by rw [E.ll]; exact hi)
  have hv := List.getElem?_eq_getElem (show i < vs.length by rw [E.vl]; exact hi)
  obtain ⟨hh, h1, h2⟩ := E.told _ _ hl
  obtain ⟨sl, cl, h3⟩ := E.form _ _ _ hv hl
  refine ⟨hh, _, sl, cl, h1, h2, by rw [hv, h3], ?_⟩
  show (rowsOf vs ls)[i]? = _
  unfold rowsOf
  rw [List.getElem?_zipWith, hv, hl, h3]

/-- What stands ahead of a round of the first loop. -/
def EnRel (w : World) (b cb C1 : Nat) (q m : Int) (s : FSt) (hv : Value) (k : Nat) (wv : Value) (wr : World) : Prop :=
  ∃ vs ls, EnRows s.T s.R s.hs k vs ls ∧ (∃ sl cl, wv = .slice sl k cl) ∧ Sep No w wr (EnPs b cb C1 q m s.S s.T hv s.hs.length s.hs wv k vs ls)
theorem EnRel.snoc {w wr : World} {b cb C1 : Nat} {q m : Int} {s : FSt} {hv : Value} {k : Nat} {vs : List Value} {ls : List (List Int)} (E : EnRows s.T s.R s.hs k vs ls) {hh : Int} {l : List Int} (hk : s.hs[k]? = some hh) (L : Told s.T s.R hh l) (sl : Option Addr) (cl : Nat) {wv : Value} (e : ∃ sl cl, wv = .slice sl (k + 1) cl)
    (h : Sep No w wr (stR b m 4294967295 s.S s.T :: cpR cb b :: cellsAt C1 (rsV q m 4294967295) 35 :: hdRow hv s.hs.length s.hs :: rowAt 76 1 wv (k + 1) (vs ++ [.slice sl l.length cl]) :: (rowsOf vs ls ++ [wRow (.slice sl l.length cl) l.length l]))) :
    EnRel w b cb C1 q m s hv (k + 1) wv wr :=
  ⟨_, _, E.snoc hk L sl cl, e, by rw [EnPs, rowsOf_snoc (by rw [E.vl, E.ll])]; exact h⟩
def EnEnd (w : World) (b cb C1 : Nat) (q m : Int) (S : Slb) (T : HTbl) (hv : Value) (hs : List Int) (wv : Value) (n : Nat) (vs : List Value) (ls : List (List Int)) (wr : World) : Prop := Sep No w wr (EnPs b cb C1 q m S T hv n hs wv n vs ls)

set_option maxRecDepth 100000 in
set_option maxHeartbeats 8000000 in
theorem ends_in (q m : Int) {sa : Option Addr} {len cap : Nat} {z : List (List Int)} (w : World) (hq : 0 ≤ q ∧ q ≤ 4000) (hm : 1 ≤ m ∧ m ≤ 1000) (R0 : Recs w sa len [some .i64, some .i64, some .i64, some .u64] z) (hlen : len ≤ 60) (hT : Tab64 w) :
    Calls Tryz.prog 9 #[.int .i64 q, .int .i64 m, .slice sa len cap] w fun e w' => e = .returned (.bool true) ∧ Below w.heap.size w w' := by
  have d1 : decide (q < 0) = false := ltF (by omega)
  have d2 : decide (4000 < q) = false := ltF (by omega)
  have d3 : decide (m < 1) = false := ltF (by omega)
  have d4 : decide (1000 < m) = false := ltF (by omega)
  have d5 : decide ((60 : Int) < (len : Int)) = false := ltF (by omega)
  have HR := Lib.hid (And.intro R0 hlen)
  have HT := Lib.hid hT
  have hI0 := fst0_inv (q := q) (m := m) (by omega) (by omega) (by omega) (by omega)
  have hIf := frun_inv hI0 R0.fwords len (by rw [R0.count]; exact Nat.le_refl _)
  have hln := frun_rlen hI0 R0.fwords len (by rw [R0.count]; exact Nat.le_refl _)
  have hlh := frun_len hI0 R0.fwords rfl len (by rw [R0.count]; exact Nat.le_refl _)
  have HI := Lib.hid hI0
  have hc1 := made07_call q m (by omega) (by omega) (by omega) (by omega) w
  obtain ⟨i0, hi0, hz0, hz1, hz2⟩ := info_parts infoW7
  have HW7 := Lib.hid (And.intro hi0 (And.intro hz0 (And.intro hz1 hz2)))
  clear R0 hT hI0 hi0 hz0 hz1 hz2
  obtain ⟨sf, hsf⟩ : ∃ s, frun (fst0 q m) z len = s := ⟨_, rfl⟩
  rw [hsf] at hIf hln hlh
  have HIf := Lib.hid hIf
  have HLn := Lib.hid (And.intro hln hlh)
  have HSf := Lib.hid hsf
  clear hIf hln hlh hsf
  go_enter Tryz.func9, Tryz.ntmps9
  go_wp2_with fail
  refine hc1.mono ?_
  rintro e w1 ⟨b, cb, rfl, h1'⟩
  have h2 := h1'.pushCells (rsV q m 4294967295) 35
  obtain ⟨C1, hC1⟩ : ∃ C, w1.heap.size = C := ⟨_, rfl⟩
  obtain ⟨V1, hV1⟩ : ∃ W, w1.alloc (.cells (rsV q m 4294967295) 35) = W := ⟨_, rfl⟩
  rw [hC1, hV1] at h2
  have h2 : Sep No w V1 [stR b m 4294967295 (Slb.empty q) ⟨m, 4294967295, []⟩, cpR cb b, cellsAt C1 (rsV q m 4294967295) 35] := h2
  obtain ⟨j4, g4⟩ := h2.cell 2 rfl 4 (v := .slice none 0 0) rfl
  obtain ⟨j5, g5⟩ := h2.cell 2 rfl 5 (v := .slice none 0 0) rfl
  have h3 := (h2.set 2 rfl 4 (.slice none 0 0)).set 2 rfl 5 (.slice none 0 0)
  generalize hW3 : ((V1.setCell ⟨C1, 4, none⟩ (.slice none 0 0)).setCell ⟨C1, 5, none⟩ (.slice none 0 0)) = W3 at h3
  have h3 : Sep No w W3 [stR b m 4294967295 (fst0 q m).S (fst0 q m).T, cpR cb b, cellsAt C1 (rsV q m 4294967295) 35] := h3
  have hf1 := fill_call (cap := cap) h3 0 rfl HI.out rfl HT.out HR.out.1 HR.out.2
  rw [HSf.out] at hf1
  clear h1' h2 h3 hc1
  go_wp2_with fail
  try rw [hW3]
  refine hf1.mono ?_
  rintro e w8 ⟨sl, cl, rfl, h8⟩
  unfold FRel at h8
  have H8 : Hid (EnRel w b cb C1 q m sf (.slice sl sf.hs.length cl) 0 (.slice none 0 0) w8) := Lib.hid ⟨[], [], EnRows.nil _ _ _, ⟨none, 0, rfl⟩, Sep.pushNil h8 76 1⟩
  clear hf1 h8 j4 g4 j5 g5 hC1 hV1 hW3
  obtain ⟨n, hn⟩ : ∃ n, sf.hs.length = n := ⟨_, rfl⟩
  have hn60 : n ≤ 60 := by have := HLn.out.2; have := HR.out.2; omega
  rw [hn] at H8 ⊢
  have HNn := Lib.hid hn
  have HNA := Lib.hid (fun (i : Nat) (hi : i < n) => HIf.out.told (i := i) (by omega))
  clear hn
  go_wp2_with fail
  go_loopw [12, 13] (fun wv iv wr => ∃ i : Nat, iv = .int .i64 i ∧ i ≤ n ∧ EnRel w b cb C1 q m sf (.slice sl n cl) i wv wr) (fun _ iv _ => n - (RowKit.intOf iv).toNat)
  case atStart => exact ⟨0, rfl, Nat.zero_le _, H8.out⟩
  case round =>
    obtain ⟨i, rfl, hi, vs, ls, E, ⟨sw, cw, rfl⟩, h⟩ := hrel
    clear H8
    by_cases hin : i < n
    · obtain ⟨hh, l, hhi, hhr, hll, htx⟩ := HNA.out i hin
      rw [HNn.out] at h
      obtain ⟨gl, rfl, cl0, _⟩ := h.item 3 rfl (o := i) (x := .int .u64 hh) (by rw [List.getElem?_map, hhi]; rfl)
      have hc2 := words07_call h 0 rfl HIf.out.1 hhr htx
      have HTD := Lib.hid (And.intro E (And.intro hhi htx))
      have hini : (i : Int) < (n : Int) := by omega
      have HK1 : Hid (i + 1 ≤ n ∧ n - (i + 1) < n - i) := by exact Lib.hid ⟨by omega, by omega⟩
      obtain ⟨hi0, hz0, hz1, hz2⟩ := HW7.out
      clear h hhi htx hin E
      go_wp2_with fail
      refine hc2.mono ?_
      rintro e w3 ⟨sx, cx, rfl, h3⟩
      clear hc2
      go_wp2_with (at_builtin; refine wpList_append_sep1 h3 4 rfl (by rfl) _ _ 104 rfl Tryz.underlying104 hi0 hz0 hz1 hz2 rfl (by rfl) _ _ (by rfl) (by simp) (by rfl) _ (by unfold maxLen; omega) (by omega) ?_)
      intro g1 cl1 w6 h6
      have H6 : Hid (EnRel w b cb C1 q m sf (.slice (some ⟨gl, 0, none⟩) n cl) (i + 1) (.slice (some ⟨g1, 0, none⟩) (i + 1) cl1) w6) := by
        refine Lib.hid (EnRel.snoc HTD.out.1 HTD.out.2.1 HTD.out.2.2 sx cx ⟨_, _, rfl⟩ ?_)
        rw [HNn.out]
        exact h6
      clear h3 h6 hi0 hz0 hz1 hz2 cl0
      go_wp2_with fail
      go_roundw
      case rel => exact ⟨i + 1, by go_num, HK1.out.1, H6.out⟩
      case measure => have := HK1.out.2; simp [RowKit.intOf]; omega
    · obtain rfl : i = n := by omega
      rw [HNn.out] at h
      have ha1 := stall_call h 0 rfl
      have hal := HIf.out.1.all_len
      have hal60 : (stAll sf.S).length ≤ 60 := by have := HLn.out.1; have := HR.out.2; have h9 : (liveR sf.R).length ≤ sf.R.length := List.length_filter_le _ _; have h0 : (fst0 q m).R.length = 0 := rfl; omega
      obtain ⟨al, hale⟩ : ∃ a, (stAll sf.S).length = a := ⟨_, rfl⟩
      have HAL := Lib.hid hale
      rw [hale] at hal hal60
      have HAL2 := Lib.hid hal
      have HE := Lib.hid E
      have dI : decide ((i : Int) < (i : Int)) = false := ltF (by omega)
      clear h hin hi E hale hal
      go_wp2_with fail
      refine ha1.mono ?_
      rintro e w4 ⟨xa, ca, rfl, h4⟩
      have h4 : Sep No w w4 (EnPs b cb C1 q m sf.S sf.T (.slice sl i cl) i sf.hs (.slice sw i cw) i vs ls) := Sep.left h4
      rw [HAL.out]
      have hw1 := stwords_call h4 0 rfl
      obtain ⟨p, hp⟩ : ∃ p, sf.S.pg.length = p := ⟨_, rfl⟩
      have hp4 : p ≤ 4096 := by rw [← hp]; exact HIf.out.1.pagesE
      rw [hp] at hw1
      have HP := Lib.hid hp
      clear ha1 h4 hp
      go_wp2_with fail
      refine hw1.mono ?_
      rintro e w5 ⟨rfl, h5⟩
      have h5 : Sep No w w5 (EnPs b cb C1 q m sf.S sf.T (.slice sl i cl) i sf.hs (.slice sw i cw) i vs ls) := h5
      have ea : IntKind.i64.wrap ((al : Int) + 1) = ((al + 1 : Nat) : Int) := by rw [IntKind.wrap_i64]; omega
      have hr1 := crun_call h5 0 1 (by omega) rfl rfl HIf.out.1 HT.out (al + 1) (by omega)
      clear hw1 h5
      go_wp2_with fail
      refine hr1.mono ?_
      rintro e w6 ⟨na, da, S1, T1, H1, R1, ⟨rfl, A⟩, h6⟩
      have h6 : Sep No w w6 (EnPs b cb C1 q m S1 T1 (.slice sl i cl) i sf.hs (.slice sw i cw) i vs ls) := h6
      obtain ⟨rfl, hna, hpl, hmv, I1, D1⟩ := A.ends HIf.out.1 (by have := HAL2.out; omega)
      have hna : na ≤ al := by have := HAL2.out; omega
      have dna : decide ((al : Int) < (na : Int)) = false := ltF (by omega)
      have dna2 : decide (al < na) = false := decide_eq_false (by omega)
      have hw2 := stwords_call h6 0 rfl
      obtain ⟨p1, hp1⟩ : ∃ p, S1.pg.length = p := ⟨_, rfl⟩
      rw [hp1] at hw2
      have hp1l : p1 ≤ p := by rw [← hp1, ← HP.out]; exact hpl
      have dpp : decide (64 * (p : Int) < 64 * (p1 : Int)) = false := ltF (by omega)
      have dpp2 : decide (p < p1) = false := decide_eq_false (by omega)
      have HM := Lib.hid (And.intro hmv (And.intro I1 D1))
      have hal2 : (stAll S1).length = al := by rw [I1.all_len, hmv.live_len]; exact HAL2.out.symm
      have HA2 := Lib.hid hal2
      have dal : ((al : Int) != (al : Int)) = false := bneF rfl
      clear hr1 h6 A hmv I1 D1 hpl hal2 hp1
      go_wp2_with fail
      refine hw2.mono ?_
      rintro e w7 ⟨rfl, h7⟩
      have h7 : Sep No w w7 (EnPs b cb C1 q m S1 T1 (.slice sl i cl) i sf.hs (.slice sw i cw) i vs ls) := h7
      have ha2 := stall_call h7 0 rfl
      clear hw2 h7
      go_wp2_with fail
      refine ha2.mono ?_
      rintro e w9 ⟨xb, cb', rfl, h9⟩
      rw [HA2.out]
      have h9 : Sep No w w9 (EnPs b cb C1 q m S1 T1 (.slice sl i cl) i sf.hs (.slice sw i cw) i vs ls) := Sep.left h9
      have hst := cstep_call h9 0 1 rfl rfl HM.out.2.1 (HT.out.mod h9.mod)
      clear ha2 h9
      go_wp2_with fail
      refine hst.mono ?_
      rintro e w10 ⟨is, S2, T2, H2, R2, ⟨rfl, D2⟩, h10⟩
      obtain ⟨rfl, rfl, rfl, rfl⟩ : is = false ∧ S1 = S2 ∧ T1 = T2 ∧ R1 = R2 := by
        obtain ⟨h1, h2, h3, h4⟩ := Stepped.det HM.out.2.1 HM.out.2.2 D2 HM.out.2.1
        exact ⟨h1.symm, h2, h3, h4⟩
      have H10 : Hid (EnEnd w b cb C1 q m S1 T1 (.slice sl i cl) sf.hs (.slice sw i cw) i vs ls w10) := Lib.hid h10
      clear hst h10 D2
      go_wp2_with fail
      go_loopw [21] (fun iv wr => ∃ c : Nat, iv = .int .i64 c ∧ c ≤ 8 ∧ EnEnd w b cb C1 q m S1 T1 (.slice sl i cl) sf.hs (.slice sw i cw) i vs ls wr) (fun iv _ => 8 - (RowKit.intOf iv).toNat)
      case atStart => exact ⟨0, rfl, Nat.zero_le _, H10.out⟩
      case round =>
        obtain ⟨c, rfl, hc, h⟩ := hrel
        clear H10
        have hcl := classes_call wr
        have H11 := Lib.hid h
        by_cases hc8 : c < 8
        · have dc : decide ((c : Int) < 8) = true := ltT (by omega)
          clear h
          go_wp2_with fail
          refine hcl.mono ?_
          rintro e w11 ⟨rfl, hm11⟩
          have H12 := Lib.hid (Sep.more H11.out hm11)
          have hsl := slots_call (c : Int) w11
          rw [cslots_in (by omega) (by omega), Int.toNat_natCast] at hsl
          obtain ⟨z1, hz1⟩ : ∃ z, 62 / csz c = z := ⟨_, rfl⟩
          have hz1r : z1 ≤ 31 := by rw [← hz1]; exact (csz_range hc8).2.2.2.1
          rw [hz1] at hsl
          have HZ := Lib.hid hz1
          clear hcl hm11 H11 hz1
          go_wp2_with fail
          refine hsl.mono ?_
          rintro e w12 ⟨rfl, hm12⟩
          have h13 := Sep.more H12.out hm12
          have hsp := stspare_call h13 0 rfl (c : Int)
          obtain ⟨y, hy⟩ : ∃ y, S1.spare (c : Int) = y := ⟨_, rfl⟩
          have hyl : y < (z1 : Int) := by rw [← hy, ← HZ.out]; exact HM.out.2.2.spare HM.out.2.1 hc8
          rw [hy] at hsp
          have dy : decide ((z1 : Int) ≤ y) = false := leF (by omega)
          have H13 := Lib.hid h13
          clear hsl hm12 H12 h13 hy
          go_wp2_with fail
          refine hsp.mono ?_
          rintro e w13 ⟨rfl, hm13⟩
          have H14 : Hid (EnEnd w b cb C1 q m S1 T1 (.slice sl i cl) sf.hs (.slice sw i cw) i vs ls w13) := Lib.hid (Sep.more H13.out hm13)
          clear hsp hm13 H13
          go_wp2_with fail
          go_roundw
          case rel => exact ⟨c + 1, by go_num, by omega, H14.out⟩
          case measure => simp [RowKit.intOf]; omega
        · obtain rfl : c = 8 := by omega
          clear h hc8 hc
          go_wp2_with fail
          refine hcl.mono ?_
          rintro e w11 ⟨rfl, hm11⟩
          have H12 : Hid (EnEnd w b cb C1 q m S1 T1 (.slice sl i cl) sf.hs (.slice sw i cw) i vs ls w11) := Lib.hid (Sep.more H11.out hm11)
          clear hcl hm11 H11
          go_wp2_with fail
          go_loopw [24] (fun iv wr => ∃ k : Nat, iv = .int .i64 k ∧ k ≤ i ∧ EnEnd w b cb C1 q m S1 T1 (.slice sl i cl) sf.hs (.slice sw i cw) i vs ls wr) (fun iv _ => i - (RowKit.intOf iv).toNat)
          case atStart => exact ⟨0, rfl, Nat.zero_le _, H12.out⟩
          case round =>
            obtain ⟨k, rfl, hk, h⟩ := hrel
            clear H12
            by_cases hki : k < i
            · obtain ⟨hh, l, sv, cv, hhi, htd, hvk, hat⟩ := HE.out.get hki b cb C1 q m S1 T1 (.slice sl i cl) i (.slice sw i cw)
              obtain ⟨hh2, l2, hhi2, hhr, hll2, htd2⟩ := HNA.out k hki
              rw [hhi] at hhi2
              cases hhi2
              have hll : l.length ≤ 4000 := by rw [Told.same HIf.out.1 HIf.out.1 (Moved.refl _) htd htd2]; exact hll2
              obtain ⟨l', hl'⟩ : ∃ l', Told T1 R1 hh l' := by
                obtain ⟨j, hj⟩ : ∃ j : Nat, (sf.R.map (·.h))[j]? = some hh := ⟨_, by unfold FSt.hs at hhi; rw [List.getElem?_drop] at hhi; exact hhi⟩
                rw [← HM.out.1.hs, List.getElem?_map] at hj
                obtain ⟨r, hr, rfl⟩ := Option.map_eq_some_iff.1 hj
                exact told_ex HM.out.2.1 (StInv.named T1 hr)
              obtain rfl := Told.same HIf.out.1 HM.out.2.1 HM.out.1 htd hl'
              unfold EnEnd at h
              obtain ⟨gl, rfl, cl0, _⟩ := h.item 3 rfl (o := k) (x := .int .u64 hh) (by rw [List.getElem?_map, hhi]; rfl)
              obtain ⟨gw, rfl, cw0, _⟩ := h.item 4 rfl (o := k) (x := .slice sv l.length cv) hvk
              have hc2 := words07_call h 0 rfl HM.out.2.1 hhr hl'
              have HAT := Lib.hid (And.intro hat hvk)
              have hkii : (k : Int) < (i : Int) := by omega
              have HK1 : Hid (k + 1 ≤ i ∧ i - (k + 1) < i - k) := by exact Lib.hid ⟨by omega, by omega⟩
              clear h hhi htd htd2 hl' hat hvk hki cw0
              go_wp2_with fail
              refine hc2.mono ?_
              rintro e w14 ⟨sx, cx, rfl, h14⟩
              have hr1 := h14.rowIs (k + 5) (getP _ HAT.out.1)
              have hr2 := h14.rowIs _ (endP _)
              obtain ⟨_, e9, cw0, _⟩ := h14.item 4 rfl (o := k) (x := .slice sv l.length cv) HAT.out.2
              cases e9
              have HE2 : Hid (EnEnd w b cb C1 q m S1 T1 (.slice (some ⟨gl, 0, none⟩) i cl) sf.hs (.slice (some ⟨gw, 0, none⟩) i cw) i vs ls w14 ∧ RowIs w14 (.slice sv l.length cv) l ∧ RowIs w14 (.slice sx l.length cx) l ∧ w14.cell? ⟨gw, k, none⟩ = some (.slice sv l.length cv)) := Lib.hid ⟨Sep.left h14, hr1, hr2, cw0⟩
              clear hc2 h14 hr1 hr2 cl0 cw0 HAT
              go_wp2_with fail
              go_loopw [26] (fun iv wr => ∃ o : Nat, iv = .int .i64 o ∧ o ≤ l.length ∧ Mod No w14 wr) (fun iv _ => l.length - (RowKit.intOf iv).toNat)
              case atStart => exact ⟨0, rfl, Nat.zero_le _, Mod.refl _ _⟩
              case round =>
                obtain ⟨o, rfl, ho, hm⟩ := hrel
                by_cases hol : o < l.length
                · obtain ⟨v, hv⟩ : ∃ v, l[o]? = some v := ⟨_, List.getElem?_eq_getElem hol⟩
                  obtain ⟨_, _, ex, cxs⟩ := (HE2.out.2.1.mod hm)
                  obtain ⟨_, _, ey, cys⟩ := (HE2.out.2.2.1.mod hm)
                  obtain ⟨gx, hgx, cx1⟩ := cxs o v hv
                  obtain ⟨gy, hgy, cy1⟩ := cys o v hv
                  simp only [Value.slice.injEq, true_and] at ex ey
                  obtain ⟨rfl, -⟩ := ex
                  obtain ⟨rfl, -⟩ := ey
                  subst hgx hgy
                  have cwk := hm.cell HE2.out.2.2.2 (fun x => x)
                  obtain ⟨L, hL⟩ : ∃ L, l.length = L := ⟨_, rfl⟩
                  rw [hL] at hol hll ho cwk ⊢
                  have dL : ((L : Int) != (L : Int)) = false := bneF rfl
                  have dV : (v != v) = false := bneF rfl
                  have hoi : (o : Int) < (L : Int) := by omega
                  have HM2 := Lib.hid hm
                  have HK2 : Hid (o + 1 ≤ L ∧ L - (o + 1) < L - o) := by exact Lib.hid ⟨by omega, by omega⟩
                  clear hv cxs cys hm hL hol
                  go_wp2_with fail
                  refine wp_region_quiet_lit (by kernel_rfl) (by kernel_rfl) ?_
                  repeat (go_big_quiet_step (fail))
                  refine wpQuiet_nil ?_
                  intro wq hwq
                  obtain ⟨nq, hwq⟩ := hwq
                  have hq := Mod.of_drewN hwq
                  clear hwq nq
                  have HM3 := Lib.hid (HM2.out.trans' hq)
                  clear hq
                  go_wp2_with fail
                  go_roundw
                  case rel => exact ⟨o + 1, by go_num, HK2.out.1, HM3.out⟩
                  case measure => have := HK2.out.2; simp [RowKit.intOf]; omega
                · obtain ⟨L, hL⟩ : ∃ L, l.length = L := ⟨_, rfl⟩
                  rw [hL] at hol ho hll ⊢
                  have dI : decide ((o : Int) < (L : Int)) = false := ltF (by omega)
                  have dI2 : decide (o < L) = false := decide_eq_false hol
                  have HE3 : Hid (EnEnd w b cb C1 q m S1 T1 (.slice (some ⟨gl, 0, none⟩) i cl) sf.hs (.slice (some ⟨gw, 0, none⟩) i cw) i vs ls wr) := Lib.hid (Sep.more HE2.out.1 hm)
                  clear hm hol hL ho HE2
                  go_wp2_with fail
                  go_roundw
                  case rel => exact ⟨k + 1, by go_num, HK1.out.1, HE3.out⟩
                  case measure => have := HK1.out.2; simp [RowKit.intOf]; omega
            · obtain rfl : k = i := by omega
              have dI9 : decide ((k : Int) < (k : Int)) = false := ltF (by omega)
              have hau := staudit_call h 0 rfl HM.out.2.1
              clear h hki hk
              go_wp2_with fail
              refine hau.mono ?_
              rintro e w17 ⟨rfl, h17⟩
              clear HM
              have HM := Lib.hid h17.mod
              clear hau h17
              go_wp2_with fail
              have ha := awake07_call w17 (HT.out.mod HM.out)
              go_wp2_with fail
              refine ha.mono ?_
              rintro e w9 ⟨rfl, hm9⟩
              have H9 := Lib.hid (HM.out.trans' hm9)
              clear ha hm9
              go_wp2
              go_ret
              exact ⟨rfl, H9.out.below _ (Nat.le_refl _) (fun _ _ x => x)⟩

theorem compactEnds_walk (q m : Int) (sa : Option Addr) (len cap : Nat) (z : List (List Int)) (w : World) (w0 : (Lit.int .i64 q).wf = true) (w1 : (Lit.int .i64 m).wf = true) (R : Recs w sa len [some .i64, some .i64, some .i64, some .u64] z) (hT : Tab64 w) :
    Calls Tryz.prog 9 #[.int .i64 q, .int .i64 m, .slice sa len cap] w fun e w' => e = .returned (.bool true) ∧ Below w.heap.size w w' := by
  by_cases hall : (0 ≤ q ∧ q ≤ 4000) ∧ (1 ≤ m ∧ m ≤ 1000) ∧ len ≤ 60
  · exact ends_in q m w hall.1 hall.2.1 R hall.2.2 hT
  · have HM := Lib.hid (Mod.refl No w)
    have HT := Lib.hid hT
    clear hT R
    by_cases h1 : q < 0
    · have d1 := ltT h1
      clear hall h1
      go_enter Tryz.func9, Tryz.ntmps9
      have ha := awake07_call w (HT.out.mod HM.out)
      go_wp2_with fail
      refine ha.mono ?_
      rintro e w9 ⟨rfl, hm9⟩
      have H9 := Lib.hid (HM.out.trans' hm9)
      clear ha hm9
      go_wp2
      go_ret
      exact ⟨rfl, H9.out.below _ (Nat.le_refl _) (fun _ _ x => x)⟩
    have d1 : decide (q < 0) = false := ltF (by omega)
    by_cases h2 : 4000 < q
    · have d2 := ltT h2
      clear hall h1 h2
      go_enter Tryz.func9, Tryz.ntmps9
      have ha := awake07_call w (HT.out.mod HM.out)
      go_wp2_with fail
      refine ha.mono ?_
      rintro e w9 ⟨rfl, hm9⟩
      have H9 := Lib.hid (HM.out.trans' hm9)
      clear ha hm9
      go_wp2
      go_ret
      exact ⟨rfl, H9.out.below _ (Nat.le_refl _) (fun _ _ x => x)⟩
    have d2 : decide (4000 < q) = false := ltF (by omega)
    by_cases h3 : m < 1
    · have d3 := ltT h3
      clear hall h1 h2 h3
      go_enter Tryz.func9, Tryz.ntmps9
      have ha := awake07_call w (HT.out.mod HM.out)
      go_wp2_with fail
      refine ha.mono ?_
      rintro e w9 ⟨rfl, hm9⟩
      have H9 := Lib.hid (HM.out.trans' hm9)
      clear ha hm9
      go_wp2
      go_ret
      exact ⟨rfl, H9.out.below _ (Nat.le_refl _) (fun _ _ x => x)⟩
    have d3 : decide (m < 1) = false := ltF (by omega)
    by_cases h4 : 1000 < m
    · have d4 := ltT h4
      clear hall h1 h2 h3 h4
      go_enter Tryz.func9, Tryz.ntmps9
      have ha := awake07_call w (HT.out.mod HM.out)
      go_wp2_with fail
      refine ha.mono ?_
      rintro e w9 ⟨rfl, hm9⟩
      have H9 := Lib.hid (HM.out.trans' hm9)
      clear ha hm9
      go_wp2
      go_ret
      exact ⟨rfl, H9.out.below _ (Nat.le_refl _) (fun _ _ x => x)⟩
    have d4 : decide (1000 < m) = false := ltF (by omega)
    have d5 : decide ((60 : Int) < (len : Int)) = true := ltT (by omega)
    clear hall h1 h2 h3 h4
    go_enter Tryz.func9, Tryz.ntmps9
    have ha := awake07_call w (HT.out.mod HM.out)
    go_wp2_with fail
    refine ha.mono ?_
    rintro e w9 ⟨rfl, hm9⟩
    have H9 := Lib.hid (HM.out.trans' hm9)
    clear ha hm9
    go_wp2
    go_ret
    exact ⟨rfl, H9.out.below _ (Nat.le_refl _) (fun _ _ x => x)⟩
end Go.Proofs.YtmdnofojecncgaaGreatDoor
