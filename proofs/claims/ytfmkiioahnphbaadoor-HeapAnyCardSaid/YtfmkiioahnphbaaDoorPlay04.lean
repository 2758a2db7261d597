/- play of loftlaw04, walked: the heap and the reference answer alike. Condition: the table of math/bits holds what its initialiser lays. -/
import Derived.Test.YtfmkiioahnphbaaDoorLike07
import Derived.Test.YtfmkiioahnphbaaDoorNth04
import Derived.Test.YtfmkiioahnphbaaDoorHeapLawSpec
import Derived.Deep.RegionHeld3
set_option linter.unusedVariables false
set_option linter.unusedSimpArgs false
set_option maxRecDepth 100000
namespace Go.Proofs.YtfmkiioahnphbaaDoor
open Go Go.RowKit
variable {F0 : Nat → Prop} {Ps : List Res} {w0 w : World} {b hb s : Nat} {S : Slb} {H : List Ent} {L : List RPg}

theorem liftE4 {F0 : Nat → Prop} {w0 w : World} {Ps : List Res} (h : Sep F0 w0 w Ps) (i : Nat) {ι : Type} {R : Res} {R' : ι → Res} {C : ι → Ending → Prop} (hi : Ps[i]? = some R) {P : Program} {f : FuncId} {args : Array Value}
    (hc : ∀ F, Sep F w w [R] → Calls P f args w fun e w' => ∃ x, C x e ∧ Sep F w w' [R' x]) : Calls P f args w fun e w' => ∃ x, C x e ∧ Sep F0 w0 w' (Ps.set i (R' x)) := by
  obtain ⟨F, h1, back⟩ := h.frame [i] [R] (by simp) (by simp [hi])
  refine (hc F h1).mono fun e w' ⟨x, he, hs⟩ => ⟨x, he, ?_⟩
  have := back w' [R' x] (Nat.le_refl _) hs
  simpa [setAt] using this
theorem Like.hex (R : Slb.Rep S H) (K : Like H L) : ∀ m : Nat, 1 ≤ m → m ≤ 64 → ∃ f1, f1 < 1048576 ∧ FreeR L f1 m (-1) := fun m h1 h2 =>
  ⟨Slb.least S.pg m, by have := R.least_le h1 h2; omega, (K.free R h1).2 (Slb.least_spec S.pg m h1).2.1⟩
theorem ref_alloc (h : Sep F0 w0 w Ps) (i : Nat) (hi : Ps[i]? = some (rheapR b S.quota L)) (R : Slb.Rep S H) (K : Like H L) (n : Int) :
    Calls Tryd.prog 31 #[.pointer (some ⟨b, 0, none⟩), .int .i64 n] w fun e w' => ∃ S1 H1 L1, e = .returned (.tuple #[.int .i64 (S.halloc n).1, .int .i64 (S.halloc n).2.1]) ∧ S1 = (S.halloc n).2.2 ∧ Slb.Rep S1 H1 ∧ Like H1 L1 ∧ S1.quota = S.quota ∧ Sep F0 w0 w' (Ps.set i (rheapR b S.quota L1)) := by
  have hq := R.ok.q1
  have hq0 := R.ok.q0
  have := liftE4 (ι := List RPg × Int × Int) (C := fun x e => RAlloc L S.quota n x.1 x.2.1 x.2.2 ∧ e = .returned (.tuple #[.int .i64 x.2.1, .int .i64 x.2.2])) (R' := fun x => rheapR b S.quota x.1) h i hi fun F hs =>
    (ralloc4_call hs (K.fit R) K.ok (by rw [K.gr R]; have := R.ok.fit; omega) hq0 (by omega) (K.hex R) n).mono fun e w' ⟨L1, x, er, h1, h2, h3⟩ => ⟨(L1, x, er), ⟨h1, h2⟩, h3⟩
  refine this.mono fun e w' ⟨⟨L1, x, er⟩, ⟨h1, h2⟩, h3⟩ => ?_
  obtain ⟨S1, H1, e1, R1, K1, q1⟩ := K.alloc R h1
  exact ⟨S1, H1, L1, by rw [e1]; exact h2, by rw [e1], R1, K1, q1, h3⟩
theorem ref_free (h : Sep F0 w0 w Ps) (i : Nat) (hi : Ps[i]? = some (rheapR b S.quota L)) (R : Slb.Rep S H) (K : Like H L) (a : Int) :
    Calls Tryd.prog 32 #[.pointer (some ⟨b, 0, none⟩), .int .i64 a] w fun e w' => ∃ S1 H1 L1, e = .returned (.int .i64 (S.hfree a).1) ∧ S1 = (S.hfree a).2 ∧ Slb.Rep S1 H1 ∧ Like H1 L1 ∧ S1.quota = S.quota ∧ Sep F0 w0 w' (Ps.set i (rheapR b S.quota L1)) := by
  have := liftE4 (ι := List RPg) (C := fun x e => (∃ (t k : Nat) (P : RPg), FindY L a t k ∧ L[t]? = some P ∧ e = .returned (.int .i64 0) ∧ x = leaveL L t P k) ∨ (FindN L a ∧ e = .returned (.int .i64 5) ∧ x = L)) (R' := fun x => rheapR b S.quota x) h i hi fun F hs =>
    (rfree4_call hs (K.fit R) K.ok a).mono fun e w' hc => by
      rcases hc with ⟨t, k, P, h1, h2, h3, h4⟩ | ⟨h1, h2, h3⟩
      · exact ⟨_, .inl ⟨t, k, P, h1, h2, h3, rfl⟩, h4⟩
      · exact ⟨_, .inr ⟨h1, h2, rfl⟩, h3⟩
  refine this.mono fun e w' ⟨L1, hc, h3⟩ => ?_
  rcases hc with ⟨t, k, P, h1, h2, he, rfl⟩ | ⟨h1, he, rfl⟩
  · obtain ⟨S1, H1, e1, R1, K1, q1⟩ := K.freeA R h1 h2
    exact ⟨S1, H1, _, by rw [e1]; exact he, by rw [e1], R1, K1, q1, h3⟩
  · have e1 := K.freeN R h1
    exact ⟨S, H, _, by rw [e1]; exact he, by rw [e1], R, K, rfl, h3⟩
theorem ref_slide (h : Sep F0 w0 w Ps) (i : Nat) (hi : Ps[i]? = some (rheapR b S.quota L)) (R : Slb.Rep S H) (K : Like H L) (a : Int) :
    Calls Tryd.prog 33 #[.pointer (some ⟨b, 0, none⟩), .int .i64 a] w fun e w' => ∃ S1 H1 L1, e = .returned (.tuple #[.int .i64 (S.hslide a).1, .int .i64 (S.hslide a).2.1]) ∧ S1 = (S.hslide a).2.2 ∧ Slb.Rep S1 H1 ∧ Like H1 L1 ∧ S1.quota = S.quota ∧ Sep F0 w0 w' (Ps.set i (rheapR b S.quota L1)) := by
  have := liftE4 (ι := List RPg × Int × Int) (C := fun x e => RSlide L a x.1 x.2.1 x.2.2 ∧ e = .returned (.tuple #[.int .i64 x.2.1, .int .i64 x.2.2])) (R' := fun x => rheapR b S.quota x.1) h i hi fun F hs =>
    (rslide4_call hs (K.fit R) K.ok a).mono fun e w' ⟨L1, x, er, h1, h2, h3⟩ => ⟨(L1, x, er), ⟨h1, h2⟩, h3⟩
  refine this.mono fun e w' ⟨⟨L1, x, er⟩, ⟨h1, h2⟩, h3⟩ => ?_
  obtain ⟨S1, H1, e1, R1, K1, q1⟩ := K.slide R h1
  exact ⟨S1, H1, L1, by rw [e1]; exact h2, by rw [e1], R1, K1, q1, h3⟩

set_option maxRecDepth 100000 in
set_option maxHeartbeats 2000000 in
theorem play1_call (h : Sep No w0 w [hpAt hb s, slabR s S, rheapR b S.quota L]) (hT : Tab64 w0) (R : Slb.Rep S H) (K : Like H L) (n : Int) :
    Calls Tryd.prog 13 #[.pointer (some ⟨hb, 0, none⟩), .pointer (some ⟨b, 0, none⟩), .agg #[.int .i64 1, .int .i64 n]] w fun e w' =>
      e = .returned (.bool true) ∧ ∃ S' H' L', Sep No w0 w' [hpAt hb s, slabR s S', rheapR b S'.quota L'] ∧ Slb.Rep S' H' ∧ Like H' L' ∧ S'.quota = S.quota := by
  have hs0 := h.pushCells #[.int .i64 1, .int .i64 n] 50
  obtain ⟨m, hm⟩ : ∃ m, w.heap.size = m := ⟨_, rfl⟩
  obtain ⟨W, hW⟩ : ∃ W, w.alloc (.cells #[.int .i64 1, .int .i64 n] 50) = W := ⟨_, rfl⟩
  rw [hm, hW] at hs0
  have hs1 : Sep No w0 W [hpAt hb s, slabR s S, rheapR b S.quota L, cellsAt m #[.int .i64 1, .int .i64 n] 50] := hs0
  have HT1 : Hid (Tab64 W) := hT.mod hs1.mod
  have b0 := (hs1.cell 3 rfl 0 (v := .int .i64 1) rfl).1
  have b1 := (hs1.cell 3 rfl 1 (v := .int .i64 n) rfl).1
  have HS := Lib.hid hs1
  have HK := Lib.hid (And.intro R K)
  clear hs0 hs1 h R K hT
  obtain ⟨x, er, S1, hr⟩ : ∃ x er S1, S.halloc n = (x, er, S1) := ⟨_, _, _, rfl⟩
  have hc := HS.out.hAlloc 0 1 (by decide) rfl rfl HT1.out n hr
  have HR0 := Lib.hid hr
  clear hr
  go_enter Tryd.func13, Tryd.ntmps13
  go_wp2_with fail
  refine hc.mono ?_
  rintro e w2 ⟨rfl, h2⟩
  have h2 : Sep No w0 w2 [hpAt hb s, slabR s S1, rheapR b S.quota L, cellsAt m #[.int .i64 1, .int .i64 n] 50] := h2
  have b0 := (h2.cell 3 rfl 0 (v := .int .i64 1) rfl).1
  have b1 := (h2.cell 3 rfl 1 (v := .int .i64 n) rfl).1
  have hc2 := ref_alloc h2 2 rfl HK.out.1 HK.out.2 n
  rw [HR0.out] at hc2
  clear hc h2
  go_wp2_with fail
  refine hc2.mono ?_
  rintro e w3 ⟨S1', H1, L1, rfl, rfl, hR1, hK1, hq1, h3⟩
  have H3 : Hid (Sep No w0 w3 [hpAt hb s, slabR s S1', rheapR b S.quota L1, cellsAt m #[.int .i64 1, .int .i64 n] 50]) := h3
  have HR := Lib.hid (And.intro hR1 (And.intro hK1 hq1))
  clear hc2 h3 hR1 hK1 hq1 b0 b1
  go_wp2
  go_ret
  refine ⟨rfl, _, _, _, ?_, HR.out.1, HR.out.2.1, HR.out.2.2⟩
  rw [HR.out.2.2]
  exact H3.out.left (Ps := [hpAt hb s, slabR s _, rheapR b _ _]) (Qs := [_])

set_option maxRecDepth 100000 in
set_option maxHeartbeats 2000000 in
theorem play4_call (h : Sep No w0 w [hpAt hb s, slabR s S, rheapR b S.quota L]) (hT : Tab64 w0) (R : Slb.Rep S H) (K : Like H L) (n : Int) (n0 : -9223372036854775808 ≤ n) (n1 : n ≤ 9223372036854775807) :
    Calls Tryd.prog 13 #[.pointer (some ⟨hb, 0, none⟩), .pointer (some ⟨b, 0, none⟩), .agg #[.int .i64 4, .int .i64 n]] w fun e w' =>
      e = .returned (.bool true) ∧ ∃ S' H' L', Sep No w0 w' [hpAt hb s, slabR s S', rheapR b S'.quota L'] ∧ Slb.Rep S' H' ∧ Like H' L' ∧ S'.quota = S.quota := by
  have hs0 := h.pushCells #[.int .i64 4, .int .i64 n] 50
  obtain ⟨m, hm⟩ : ∃ m, w.heap.size = m := ⟨_, rfl⟩
  obtain ⟨W, hW⟩ : ∃ W, w.alloc (.cells #[.int .i64 4, .int .i64 n] 50) = W := ⟨_, rfl⟩
  rw [hm, hW] at hs0
  have hs1 : Sep No w0 W [hpAt hb s, slabR s S, rheapR b S.quota L, cellsAt m #[.int .i64 4, .int .i64 n] 50] := hs0
  have HT1 : Hid (Tab64 W) := hT.mod hs1.mod
  have b0 := (hs1.cell 3 rfl 0 (v := .int .i64 4) rfl).1
  have b1 := (hs1.cell 3 rfl 1 (v := .int .i64 n) rfl).1
  have HS := Lib.hid hs1
  have HK := Lib.hid (And.intro R K)
  clear hs0 hs1 h R K hT
  obtain ⟨er, S1, hr⟩ : ∃ er S1, S.hfree n = (er, S1) := ⟨_, _, rfl⟩
  have hc := hfree_call HS.out 0 1 (by decide) rfl rfl n n0 n1 hr
  have HR0 := Lib.hid hr
  clear hr n0 n1
  go_enter Tryd.func13, Tryd.ntmps13
  go_wp2_with fail
  refine hc.mono ?_
  rintro e w2 ⟨rfl, h2⟩
  have h2 : Sep No w0 w2 [hpAt hb s, slabR s S1, rheapR b S.quota L, cellsAt m #[.int .i64 4, .int .i64 n] 50] := h2
  have hc2 := ref_free h2 2 rfl HK.out.1 HK.out.2 n
  rw [HR0.out] at hc2
  clear hc h2
  go_wp2_with fail
  refine hc2.mono ?_
  rintro e w3 ⟨S1', H1, L1, rfl, rfl, hR1, hK1, hq1, h3⟩
  have H3 : Hid (Sep No w0 w3 [hpAt hb s, slabR s S1', rheapR b S.quota L1, cellsAt m #[.int .i64 4, .int .i64 n] 50]) := h3
  have HR := Lib.hid (And.intro hR1 (And.intro hK1 hq1))
  clear hc2 h3 hR1 hK1 hq1 b0 b1
  go_wp2
  go_ret
  refine ⟨rfl, _, _, _, ?_, HR.out.1, HR.out.2.1, HR.out.2.2⟩
  rw [HR.out.2.2]
  exact H3.out.left (Ps := [hpAt hb s, slabR s _, rheapR b _ _]) (Qs := [_])
set_option maxRecDepth 100000 in
set_option maxHeartbeats 2000000 in
theorem play5_call (h : Sep No w0 w [hpAt hb s, slabR s S, rheapR b S.quota L]) (hT : Tab64 w0) (R : Slb.Rep S H) (K : Like H L) (n : Int) (n0 : -9223372036854775808 ≤ n) (n1 : n ≤ 9223372036854775807) :
    Calls Tryd.prog 13 #[.pointer (some ⟨hb, 0, none⟩), .pointer (some ⟨b, 0, none⟩), .agg #[.int .i64 5, .int .i64 n]] w fun e w' =>
      e = .returned (.bool true) ∧ ∃ S' H' L', Sep No w0 w' [hpAt hb s, slabR s S', rheapR b S'.quota L'] ∧ Slb.Rep S' H' ∧ Like H' L' ∧ S'.quota = S.quota := by
  have hs0 := h.pushCells #[.int .i64 5, .int .i64 n] 50
  obtain ⟨m, hm⟩ : ∃ m, w.heap.size = m := ⟨_, rfl⟩
  obtain ⟨W, hW⟩ : ∃ W, w.alloc (.cells #[.int .i64 5, .int .i64 n] 50) = W := ⟨_, rfl⟩
  rw [hm, hW] at hs0
  have hs1 : Sep No w0 W [hpAt hb s, slabR s S, rheapR b S.quota L, cellsAt m #[.int .i64 5, .int .i64 n] 50] := hs0
  have HT1 : Hid (Tab64 W) := hT.mod hs1.mod
  have b0 := (hs1.cell 3 rfl 0 (v := .int .i64 5) rfl).1
  have b1 := (hs1.cell 3 rfl 1 (v := .int .i64 n) rfl).1
  have HS := Lib.hid hs1
  have HK := Lib.hid (And.intro R K)
  clear hs0 hs1 h R K hT
  obtain ⟨x, er, S1, hr⟩ : ∃ x er S1, S.hslide n = (x, er, S1) := ⟨_, _, _, rfl⟩
  have hc := HS.out.hSlideR 0 1 (by decide) rfl rfl HT1.out HK.out.1 n n0 n1 hr
  have HR0 := Lib.hid hr
  clear hr n0 n1
  go_enter Tryd.func13, Tryd.ntmps13
  go_wp2_with fail
  refine hc.mono ?_
  rintro e w2 ⟨rfl, h2⟩
  have h2 : Sep No w0 w2 [hpAt hb s, slabR s S1, rheapR b S.quota L, cellsAt m #[.int .i64 5, .int .i64 n] 50] := h2
  have hc2 := ref_slide h2 2 rfl HK.out.1 HK.out.2 n
  rw [HR0.out] at hc2
  clear hc h2
  go_wp2_with fail
  refine hc2.mono ?_
  rintro e w3 ⟨S1', H1, L1, rfl, rfl, hR1, hK1, hq1, h3⟩
  have H3 : Hid (Sep No w0 w3 [hpAt hb s, slabR s S1', rheapR b S.quota L1, cellsAt m #[.int .i64 5, .int .i64 n] 50]) := h3
  have HR := Lib.hid (And.intro hR1 (And.intro hK1 hq1))
  clear hc2 h3 hR1 hK1 hq1 b0 b1
  go_wp2
  go_ret
  refine ⟨rfl, _, _, _, ?_, HR.out.1, HR.out.2.1, HR.out.2.2⟩
  rw [HR.out.2.2]
  exact H3.out.left (Ps := [hpAt hb s, slabR s _, rheapR b _ _]) (Qs := [_])
theorem ref_room (h : Sep F0 w0 w Ps) (r : Nat) {v : Value} (hr : Ps[r]? = some (pgRow v L)) (q : Int) (R : Slb.Rep S H) (K : Like H L) (a : Int) :
    Calls Tryd.prog 34 #[.agg #[.int .i64 q, v], .int .i64 a] w fun e w' => e = .returned (.tuple #[.int .i64 (S.room a).1, .int .i64 (S.room a).2]) ∧ Mod No w w' := by
  refine (rroom_call h r q hr (K.fit R) K.ok a).mono fun e w' ⟨hc, hm⟩ => ⟨?_, hm⟩
  rcases hc with ⟨i, k, P, h1, h2, he⟩ | ⟨he, h1⟩
  · rw [K.roomY R h2 h1]; exact he
  · rw [K.roomN R h1]; exact he
set_option maxRecDepth 100000 in
set_option maxHeartbeats 2000000 in
theorem play0_call (h : Sep No w0 w [hpAt hb s, slabR s S, rheapR b S.quota L]) (hT : Tab64 w0) (R : Slb.Rep S H) (K : Like H L) (d n : Int) (hd : ¬ d = 1 ∧ ¬ d = 2 ∧ ¬ d = 3 ∧ ¬ d = 4 ∧ ¬ d = 5) (n0 : -9223372036854775808 ≤ n) (n1 : n ≤ 9223372036854775807) :
    Calls Tryd.prog 13 #[.pointer (some ⟨hb, 0, none⟩), .pointer (some ⟨b, 0, none⟩), .agg #[.int .i64 d, .int .i64 n]] w fun e w' =>
      e = .returned (.bool true) ∧ ∃ S' H' L', Sep No w0 w' [hpAt hb s, slabR s S', rheapR b S'.quota L'] ∧ Slb.Rep S' H' ∧ Like H' L' ∧ S'.quota = S.quota := by
  have hs0 := h.pushCells #[.int .i64 d, .int .i64 n] 50
  obtain ⟨m, hm⟩ : ∃ m, w.heap.size = m := ⟨_, rfl⟩
  obtain ⟨W, hW⟩ : ∃ W, w.alloc (.cells #[.int .i64 d, .int .i64 n] 50) = W := ⟨_, rfl⟩
  rw [hm, hW] at hs0
  have hs1 : Sep No w0 W [hpAt hb s, slabR s S, rheapR b S.quota L, cellsAt m #[.int .i64 d, .int .i64 n] 50] := hs0
  have HT1 : Hid (Tab64 W) := hT.mod hs1.mod
  have b0 := (hs1.cell 3 rfl 0 (v := .int .i64 d) rfl).1
  have b1 := (hs1.cell 3 rfl 1 (v := .int .i64 n) rfl).1
  have HS := Lib.hid hs1
  have HK := Lib.hid (And.intro R K)
  clear hs0 hs1 h R K hT
  have hc := hroom_call HS.out 0 1 rfl rfl n n0 n1
  obtain ⟨y, hy⟩ : ∃ y, S.room n = y := ⟨_, rfl⟩
  have HY := Lib.hid hy
  rw [hy] at hc
  obtain ⟨v, h4⟩ := HS.out.openEx 2 rfl
  have h4 : Sep No w0 W [hpAt hb s, slabR s S, cellsAt b #[.int .i64 S.quota, v] 46, cellsAt m #[.int .i64 d, .int .i64 n] 50, pgRow v L] := h4.openStar 2 rfl
  have H4 := Lib.hid h4
  obtain ⟨d1, d2, d3, d4, d5⟩ := hd
  have q1 : (d == 1) = false := beq_eq_false_iff_ne.2 d1
  have q2 : (d == 2) = false := beq_eq_false_iff_ne.2 d2
  have q3 : (d == 3) = false := beq_eq_false_iff_ne.2 d3
  have q4 : (d == 4) = false := beq_eq_false_iff_ne.2 d4
  have q5 : (d == 5) = false := beq_eq_false_iff_ne.2 d5
  clear h4 hy n0 n1
  go_enter Tryd.func13, Tryd.ntmps13
  go_wp2_with fail
  refine hc.mono ?_
  rintro e w2 ⟨rfl, hm2⟩
  have h5 := H4.out.more hm2
  have hldH := Lib.hid (hld4 h5 2 rfl)
  have b0 := hm2.cell b0 (fun x => x)
  have b1 := hm2.cell b1 (fun x => x)
  have hc2 := ref_room h5 4 rfl S.quota HK.out.1 HK.out.2 n
  rw [HY.out] at hc2
  have HM2 := Lib.hid hm2
  clear hc hm2 h5
  go_wp2_with (first | (refine wpList_load_mid_g (by rfl) 46 _ (by rfl) b 0 (by rfl) [.int .i64 S.quota, v] _ hldH.out Tryd.underlying46 rfl h4_size ?_))
  refine hc2.mono ?_
  rintro e w3 ⟨rfl, hm3⟩
  have H3 := Lib.hid ((HS.out.more HM2.out).more hm3)
  clear hc2 hm3 hldH b0 b1
  go_wp2
  go_ret
  exact ⟨rfl, S, H, L, H3.out.left (Ps := [hpAt hb s, slabR s _, rheapR b _ _]) (Qs := [_]), HK.out.1, HK.out.2, rfl⟩

theorem Like.len (R : Slb.Rep S H) (K : Like H L) : L.length ≤ 4096 := by
  have h1 := K.gr R
  have h2 : S.pg.length ≤ 4096 := by have := R.ok.fit; have := R.ok.q1; omega
  have h3 : L.length ≤ Go.Proofs.YtfmkiioahnphbaaDoor.gr L := by
    have h := K.ok
    have hg := fun P hP => R.good _ (K.mem (P := P) hP)
    clear h1 R K
    induction L with
    | nil => exact Nat.zero_le _
    | cons P L ih =>
      have e := ih (fun Q hQ => h Q (by simp [hQ])) (fun Q hQ => hg Q (by simp [hQ]))
      have a1 := (hg P (by simp)).wide1
      rw [(h P (by simp)).wide] at a1
      show L.length + 1 ≤ P.many + Go.Proofs.YtfmkiioahnphbaaDoor.gr L
      omega
  omega
theorem Like.live_len (R : Slb.Rep S H) (K : Like H L) : (liveR L).length ≤ 1000000 := by
  have h1 := liveR_len K.ok
  have h2 := K.len R
  omega
theorem Like.nth (R : Slb.Rep S H) (K : Like H L) (n : Int) : -1 ≤ nthA (liveR L) n ∧ nthA (liveR L) n ≤ 67108864 + 64 := by
  rcases nthA_mem (liveR L) n with h0 | hm
  · omega
  · generalize nthA (liveR L) n = y at *
    unfold liveR at hm
    obtain ⟨P, hP, hx⟩ := List.mem_flatMap.1 hm
    unfold RPg.liveP at hx
    obtain ⟨k, hk, e⟩ := List.mem_map.1 hx
    have hk := List.mem_range.1 (List.mem_filter.1 hk).1
    have a1 := (K.ok P hP).place_page hk
    have a2 := ((K.fit R).pg P hP).1
    omega

set_option maxRecDepth 100000 in
set_option maxHeartbeats 2000000 in
theorem play2_call (h : Sep No w0 w [hpAt hb s, slabR s S, rheapR b S.quota L]) (hT : Tab64 w0) (R : Slb.Rep S H) (K : Like H L) (n : Int) (n0 : -9223372036854775808 ≤ n) (n1 : n ≤ 9223372036854775807) :
    Calls Tryd.prog 13 #[.pointer (some ⟨hb, 0, none⟩), .pointer (some ⟨b, 0, none⟩), .agg #[.int .i64 2, .int .i64 n]] w fun e w' =>
      e = .returned (.bool true) ∧ ∃ S' H' L', Sep No w0 w' [hpAt hb s, slabR s S', rheapR b S'.quota L'] ∧ Slb.Rep S' H' ∧ Like H' L' ∧ S'.quota = S.quota := by
  have HT0 := Lib.hid hT
  have hs0 := h.pushCells #[.int .i64 2, .int .i64 n] 50
  obtain ⟨m, hm⟩ : ∃ m, w.heap.size = m := ⟨_, rfl⟩
  obtain ⟨W, hW⟩ : ∃ W, w.alloc (.cells #[.int .i64 2, .int .i64 n] 50) = W := ⟨_, rfl⟩
  rw [hm, hW] at hs0
  have hs1 : Sep No w0 W [hpAt hb s, slabR s S, rheapR b S.quota L, cellsAt m #[.int .i64 2, .int .i64 n] 50] := hs0
  have HT1 : Hid (Tab64 W) := hT.mod hs1.mod
  have b0 := (hs1.cell 3 rfl 0 (v := .int .i64 2) rfl).1
  have b1 := (hs1.cell 3 rfl 1 (v := .int .i64 n) rfl).1
  have HS := Lib.hid hs1
  have HK := Lib.hid (And.intro R K)
  clear hs0 hs1 h R K hT
  obtain ⟨v, h4⟩ := HS.out.openEx 2 rfl
  have h4 : Sep No w0 W [hpAt hb s, slabR s S, cellsAt b #[.int .i64 S.quota, v] 46, cellsAt m #[.int .i64 2, .int .i64 n] 50, pgRow v L] := h4.openStar 2 rfl
  have H4 := Lib.hid h4
  have HF := Lib.hid (And.intro (HK.out.2.fit HK.out.1) HK.out.2.ok)
  have HLL := Lib.hid (HK.out.2.live_len HK.out.1)
  have HN := Lib.hid (HK.out.2.nth HK.out.1 n)
  have HNB := Lib.hid (And.intro n0 n1)
  clear h4 n0 n1
  go_enter Tryd.func13, Tryd.ntmps13
  go_wp2_with fail
  refine wp_region_held_drew (S := fun w' => Sep No w0 w' [hpAt hb s, slabR s S, cellsAt b #[.int .i64 S.quota, v] 46, cellsAt m #[.int .i64 2, .int .i64 n] 50, pgRow v L] ∧ w'.cell? ⟨m, 1, none⟩ = some (.int .i64 n)) (by kernel_rfl) ⟨H4.out.drew, b1⟩ (fun hHeld => ?_)
  refine wpAnyH_takeD (i := 0) (v := ?_) (some 30) rfl (by rfl) (by kernel_rfl) (by kernel_rfl) (by kernel_rfl) (fun _ _ _ h => h) (Or.inl ⟨by rfl, ?_⟩) (by assumption) ?_
  rotate_left
  · intro w hSw
    try dsimp only at hSw
    go_simp
    try with_reducible rfl
  simp only [Act.put, List.setIfInBounds_toArray, List.set_cons_zero, List.set_cons_succ]
  refine wpAnyH_takeD (i := 1) (v := ?_) (some 31) rfl (by rfl) (by kernel_rfl) (by kernel_rfl) (by kernel_rfl) (fun _ _ _ h => h) (Or.inl ⟨by rfl, ?_⟩) (by assumption) ?_
  rotate_left
  · intro w hSw
    try dsimp only at hSw
    go_simp
    try with_reducible rfl
  simp only [Act.put, List.setIfInBounds_toArray, List.set_cons_zero, List.set_cons_succ]
  refine wpAnyH_takeD (i := 2) (v := .agg [Value.int .i64 S.quota, v].toArray) (some 32) rfl (by rfl) (by kernel_rfl) (by kernel_rfl) (by kernel_rfl) (fun _ _ _ h => h) (Or.inl ⟨by rfl, fun wl hwl => exec_load_mid 46 _ rfl b 0 (by rfl) [Value.int .i64 S.quota, v] _ (hld4 hwl.1 2 rfl) Tryd.underlying46 rfl h4_size⟩) (by assumption) ?_
  simp only [Act.put, List.setIfInBounds_toArray, List.set_cons_zero, List.set_cons_succ]
  refine wpAnyH_takeD (i := 4) (v := ?_) (some 34) rfl (by rfl) (by kernel_rfl) (by kernel_rfl) (by kernel_rfl) (fun _ _ _ h => h) (Or.inl ⟨by rfl, ?_⟩) (by assumption) ?_
  rotate_left
  · intro w hSw
    try dsimp only at hSw
    go_simp
    try with_reducible rfl
  simp only [Act.put, List.setIfInBounds_toArray, List.set_cons_zero, List.set_cons_succ]
  refine wpAnyH_takeD (i := 5) (v := ?_) (some 35) rfl (by rfl) (by kernel_rfl) (by kernel_rfl) (by kernel_rfl) (fun _ _ _ h => h) (Or.inl ⟨by rfl, ?_⟩) (by assumption) ?_
  rotate_left
  · intro w hSw
    try dsimp only at hSw
    go_simp
    try with_reducible rfl
  simp only [Act.put, List.setIfInBounds_toArray, List.set_cons_zero, List.set_cons_succ]
  refine wpAnyH_ready (rs := [3]) (by kernel_rfl) (by simp) ?_
  refine AllReadyH.cons rfl (fun K hK => ?_) AllReadyH.nil
  go_simp
  refine (rlive_call hHeld.1 4 S.quota rfl HF.out.1 HF.out.2).mono ?_
  rintro e w5 ⟨v5, m5, rfl, h5⟩
  obtain ⟨sa5, cap5, rfl⟩ := h5.form 6 rfl
  have h5x : Sep No w0 w5 [hpAt hb s, slabR s S, cellsAt b #[.int .i64 S.quota, v] 46, cellsAt m #[.int .i64 2, .int .i64 n] 50, pgRow v L] := h5.left (Ps := [_, _, _, _, _]) (Qs := [_, _])
  have hO := And.intro h5x (h5x.cell 3 rfl 1 (v := .int .i64 n) rfl).1
  refine hK.out _ _ hO (fun _ => ?_)
  clear hK K hHeld
  have hHeld := hO
  try simp only [Act.put, List.setIfInBounds_toArray, List.set_cons_zero, List.set_cons_succ]
  obtain ⟨av, hav⟩ : ∃ av, nthA (liveR L) n = av := ⟨_, rfl⟩
  have hnc := nth04_call h5 6 rfl rfl HLL.out n HNB.out
  rw [hav] at hnc
  obtain ⟨ll, hll⟩ : ∃ ll, (liveR L).length = ll := ⟨_, rfl⟩
  rw [hll] at hnc ⊢
  refine wpAnyH_ready (rs := [6]) (by kernel_rfl) (by simp) ?_
  refine AllReadyH.cons rfl (fun K hK => ?_) AllReadyH.nil
  go_simp
  refine (hnc).mono ?_
  rintro e w6 ⟨rfl, rfl⟩
  refine hK.out _ _ hO (fun _ => ?_)
  clear hK K hHeld
  have hHeld := hO
  try simp only [Act.put, List.setIfInBounds_toArray, List.set_cons_zero, List.set_cons_succ]
  refine wpAnyH_takeD (i := 7) (v := ?_) (some 7) rfl (by rfl) (by kernel_rfl) (by kernel_rfl) (by kernel_rfl) (fun _ _ _ h => h) (Or.inl ⟨by rfl, ?_⟩) (by assumption) ?_
  rotate_left
  · intro w hSw
    try dsimp only at hSw
    go_simp
    try with_reducible rfl
  simp only [Act.put, List.setIfInBounds_toArray, List.set_cons_zero, List.set_cons_succ]
  refine wpAnyH_done (by kernel_rfl) ?_ _
  have b0 := (h5x.cell 3 rfl 0 (v := .int .i64 2) rfl).1
  have b1 := hO.2
  have hav1 := HN.out
  rw [hav] at hav1
  have HAV := Lib.hid hav1
  have h6 : Sep No w0 w5 [hpAt hb s, slabR s S, rheapR b S.quota L, cellsAt m #[.int .i64 2, .int .i64 n] 50] :=
    (h5x.shutStar 2 4 (by decide) rfl rfl rfl).shutEx 2 (fun v => starR (cellsAt b #[.int .i64 S.quota, v] 46) (pgRow v L)) v rfl
  have HT5 : Hid (Tab64 w5) := HT0.out.mod h6.mod
  have HS6 := Lib.hid h6
  clear h5 h5x hO hHeld h6 hav1 hav hll hnc HNB HN
  obtain ⟨er, S1, hr⟩ : ∃ er S1, S.hfree av = (er, S1) := ⟨_, _, rfl⟩
  have hc := hfree_call HS6.out 0 1 (by decide) rfl rfl av (by have := HAV.out.1; omega) (by have := HAV.out.2; omega) hr
  have HR0 := Lib.hid hr
  clear hr
  go_wp2_with fail
  refine hc.mono ?_
  rintro e w2 ⟨rfl, h2⟩
  have h2 : Sep No w0 w2 [hpAt hb s, slabR s S1, rheapR b S.quota L, cellsAt m #[.int .i64 2, .int .i64 n] 50] := h2
  have hc2 := ref_free h2 2 rfl HK.out.1 HK.out.2 av
  rw [HR0.out] at hc2
  clear hc h2
  go_wp2_with fail
  refine hc2.mono ?_
  rintro e w3 ⟨S1', H1, L1, rfl, rfl, hR1, hK1, hq1, h3⟩
  have H3 : Hid (Sep No w0 w3 [hpAt hb s, slabR s S1', rheapR b S.quota L1, cellsAt m #[.int .i64 2, .int .i64 n] 50]) := h3
  have HR := Lib.hid (And.intro hR1 (And.intro hK1 hq1))
  clear hc2 h3 hR1 hK1 hq1 b0 b1
  go_wp2
  go_ret
  refine ⟨rfl, _, _, _, ?_, HR.out.1, HR.out.2.1, HR.out.2.2⟩
  rw [HR.out.2.2]
  exact H3.out.left (Ps := [hpAt hb s, slabR s _, rheapR b _ _]) (Qs := [_])
set_option maxRecDepth 100000 in
set_option maxHeartbeats 2000000 in
theorem play3_call (h : Sep No w0 w [hpAt hb s, slabR s S, rheapR b S.quota L]) (hT : Tab64 w0) (R : Slb.Rep S H) (K : Like H L) (n : Int) (n0 : -9223372036854775808 ≤ n) (n1 : n ≤ 9223372036854775807) :
    Calls Tryd.prog 13 #[.pointer (some ⟨hb, 0, none⟩), .pointer (some ⟨b, 0, none⟩), .agg #[.int .i64 3, .int .i64 n]] w fun e w' =>
      e = .returned (.bool true) ∧ ∃ S' H' L', Sep No w0 w' [hpAt hb s, slabR s S', rheapR b S'.quota L'] ∧ Slb.Rep S' H' ∧ Like H' L' ∧ S'.quota = S.quota := by
  have HT0 := Lib.hid hT
  have hs0 := h.pushCells #[.int .i64 3, .int .i64 n] 50
  obtain ⟨m, hm⟩ : ∃ m, w.heap.size = m := ⟨_, rfl⟩
  obtain ⟨W, hW⟩ : ∃ W, w.alloc (.cells #[.int .i64 3, .int .i64 n] 50) = W := ⟨_, rfl⟩
  rw [hm, hW] at hs0
  have hs1 : Sep No w0 W [hpAt hb s, slabR s S, rheapR b S.quota L, cellsAt m #[.int .i64 3, .int .i64 n] 50] := hs0
  have HT1 : Hid (Tab64 W) := hT.mod hs1.mod
  have b0 := (hs1.cell 3 rfl 0 (v := .int .i64 3) rfl).1
  have b1 := (hs1.cell 3 rfl 1 (v := .int .i64 n) rfl).1
  have HS := Lib.hid hs1
  have HK := Lib.hid (And.intro R K)
  clear hs0 hs1 h R K hT
  obtain ⟨v, h4⟩ := HS.out.openEx 2 rfl
  have h4 : Sep No w0 W [hpAt hb s, slabR s S, cellsAt b #[.int .i64 S.quota, v] 46, cellsAt m #[.int .i64 3, .int .i64 n] 50, pgRow v L] := h4.openStar 2 rfl
  have H4 := Lib.hid h4
  have HF := Lib.hid (And.intro (HK.out.2.fit HK.out.1) HK.out.2.ok)
  have HLL := Lib.hid (HK.out.2.live_len HK.out.1)
  have HN := Lib.hid (HK.out.2.nth HK.out.1 n)
  have HNB := Lib.hid (And.intro n0 n1)
  clear h4 n0 n1
  go_enter Tryd.func13, Tryd.ntmps13
  go_wp2_with fail
  refine wp_region_held_drew (S := fun w' => Sep No w0 w' [hpAt hb s, slabR s S, cellsAt b #[.int .i64 S.quota, v] 46, cellsAt m #[.int .i64 3, .int .i64 n] 50, pgRow v L] ∧ w'.cell? ⟨m, 1, none⟩ = some (.int .i64 n)) (by kernel_rfl) ⟨H4.out.drew, b1⟩ (fun hHeld => ?_)
  refine wpAnyH_takeD (i := 0) (v := ?_) (some 30) rfl (by rfl) (by kernel_rfl) (by kernel_rfl) (by kernel_rfl) (fun _ _ _ h => h) (Or.inl ⟨by rfl, ?_⟩) (by assumption) ?_
  rotate_left
  · intro w hSw
    try dsimp only at hSw
    go_simp
    try with_reducible rfl
  simp only [Act.put, List.setIfInBounds_toArray, List.set_cons_zero, List.set_cons_succ]
  refine wpAnyH_takeD (i := 1) (v := ?_) (some 31) rfl (by rfl) (by kernel_rfl) (by kernel_rfl) (by kernel_rfl) (fun _ _ _ h => h) (Or.inl ⟨by rfl, ?_⟩) (by assumption) ?_
  rotate_left
  · intro w hSw
    try dsimp only at hSw
    go_simp
    try with_reducible rfl
  simp only [Act.put, List.setIfInBounds_toArray, List.set_cons_zero, List.set_cons_succ]
  refine wpAnyH_takeD (i := 2) (v := .agg [Value.int .i64 S.quota, v].toArray) (some 32) rfl (by rfl) (by kernel_rfl) (by kernel_rfl) (by kernel_rfl) (fun _ _ _ h => h) (Or.inl ⟨by rfl, fun wl hwl => exec_load_mid 46 _ rfl b 0 (by rfl) [Value.int .i64 S.quota, v] _ (hld4 hwl.1 2 rfl) Tryd.underlying46 rfl h4_size⟩) (by assumption) ?_
  simp only [Act.put, List.setIfInBounds_toArray, List.set_cons_zero, List.set_cons_succ]
  refine wpAnyH_takeD (i := 4) (v := ?_) (some 34) rfl (by rfl) (by kernel_rfl) (by kernel_rfl) (by kernel_rfl) (fun _ _ _ h => h) (Or.inl ⟨by rfl, ?_⟩) (by assumption) ?_
  rotate_left
  · intro w hSw
    try dsimp only at hSw
    go_simp
    try with_reducible rfl
  simp only [Act.put, List.setIfInBounds_toArray, List.set_cons_zero, List.set_cons_succ]
  refine wpAnyH_takeD (i := 5) (v := ?_) (some 35) rfl (by rfl) (by kernel_rfl) (by kernel_rfl) (by kernel_rfl) (fun _ _ _ h => h) (Or.inl ⟨by rfl, ?_⟩) (by assumption) ?_
  rotate_left
  · intro w hSw
    try dsimp only at hSw
    go_simp
    try with_reducible rfl
  simp only [Act.put, List.setIfInBounds_toArray, List.set_cons_zero, List.set_cons_succ]
  refine wpAnyH_ready (rs := [3]) (by kernel_rfl) (by simp) ?_
  refine AllReadyH.cons rfl (fun K hK => ?_) AllReadyH.nil
  go_simp
  refine (rlive_call hHeld.1 4 S.quota rfl HF.out.1 HF.out.2).mono ?_
  rintro e w5 ⟨v5, m5, rfl, h5⟩
  obtain ⟨sa5, cap5, rfl⟩ := h5.form 6 rfl
  have h5x : Sep No w0 w5 [hpAt hb s, slabR s S, cellsAt b #[.int .i64 S.quota, v] 46, cellsAt m #[.int .i64 3, .int .i64 n] 50, pgRow v L] := h5.left (Ps := [_, _, _, _, _]) (Qs := [_, _])
  have hO := And.intro h5x (h5x.cell 3 rfl 1 (v := .int .i64 n) rfl).1
  refine hK.out _ _ hO (fun _ => ?_)
  clear hK K hHeld
  have hHeld := hO
  try simp only [Act.put, List.setIfInBounds_toArray, List.set_cons_zero, List.set_cons_succ]
  obtain ⟨av, hav⟩ : ∃ av, nthA (liveR L) n = av := ⟨_, rfl⟩
  have hnc := nth04_call h5 6 rfl rfl HLL.out n HNB.out
  rw [hav] at hnc
  obtain ⟨ll, hll⟩ : ∃ ll, (liveR L).length = ll := ⟨_, rfl⟩
  rw [hll] at hnc ⊢
  refine wpAnyH_ready (rs := [6]) (by kernel_rfl) (by simp) ?_
  refine AllReadyH.cons rfl (fun K hK => ?_) AllReadyH.nil
  go_simp
  refine (hnc).mono ?_
  rintro e w6 ⟨rfl, rfl⟩
  refine hK.out _ _ hO (fun _ => ?_)
  clear hK K hHeld
  have hHeld := hO
  try simp only [Act.put, List.setIfInBounds_toArray, List.set_cons_zero, List.set_cons_succ]
  refine wpAnyH_takeD (i := 7) (v := ?_) (some 7) rfl (by rfl) (by kernel_rfl) (by kernel_rfl) (by kernel_rfl) (fun _ _ _ h => h) (Or.inl ⟨by rfl, ?_⟩) (by assumption) ?_
  rotate_left
  · intro w hSw
    try dsimp only at hSw
    go_simp
    try with_reducible rfl
  simp only [Act.put, List.setIfInBounds_toArray, List.set_cons_zero, List.set_cons_succ]
  refine wpAnyH_done (by kernel_rfl) ?_ _
  have b0 := (h5x.cell 3 rfl 0 (v := .int .i64 3) rfl).1
  have b1 := hO.2
  have hav1 := HN.out
  rw [hav] at hav1
  have HAV := Lib.hid hav1
  have h6 : Sep No w0 w5 [hpAt hb s, slabR s S, rheapR b S.quota L, cellsAt m #[.int .i64 3, .int .i64 n] 50] :=
    (h5x.shutStar 2 4 (by decide) rfl rfl rfl).shutEx 2 (fun v => starR (cellsAt b #[.int .i64 S.quota, v] 46) (pgRow v L)) v rfl
  have HT5 : Hid (Tab64 w5) := HT0.out.mod h6.mod
  have HS6 := Lib.hid h6
  clear h5 h5x hO hHeld h6 hav1 hav hll hnc HNB HN
  obtain ⟨x, er, S1, hr⟩ : ∃ x er S1, S.hslide av = (x, er, S1) := ⟨_, _, _, rfl⟩
  have hc := HS6.out.hSlideR 0 1 (by decide) rfl rfl HT5.out HK.out.1 av (by have := HAV.out.1; omega) (by have := HAV.out.2; omega) hr
  have HR0 := Lib.hid hr
  clear hr
  go_wp2_with fail
  refine hc.mono ?_
  rintro e w2 ⟨rfl, h2⟩
  have h2 : Sep No w0 w2 [hpAt hb s, slabR s S1, rheapR b S.quota L, cellsAt m #[.int .i64 3, .int .i64 n] 50] := h2
  have hc2 := ref_slide h2 2 rfl HK.out.1 HK.out.2 av
  rw [HR0.out] at hc2
  clear hc h2
  go_wp2_with fail
  refine hc2.mono ?_
  rintro e w3 ⟨S1', H1, L1, rfl, rfl, hR1, hK1, hq1, h3⟩
  have H3 : Hid (Sep No w0 w3 [hpAt hb s, slabR s S1', rheapR b S.quota L1, cellsAt m #[.int .i64 3, .int .i64 n] 50]) := h3
  have HR := Lib.hid (And.intro hR1 (And.intro hK1 hq1))
  clear hc2 h3 hR1 hK1 hq1 b0 b1
  go_wp2
  go_ret
  refine ⟨rfl, _, _, _, ?_, HR.out.1, HR.out.2.1, HR.out.2.2⟩
  rw [HR.out.2.2]
  exact H3.out.left (Ps := [hpAt hb s, slabR s _, rheapR b _ _]) (Qs := [_])
/-- One step of a script. -/
theorem play_call (h : Sep No w0 w [hpAt hb s, slabR s S, rheapR b S.quota L]) (hT : Tab64 w0) (R : Slb.Rep S H) (K : Like H L) (d n : Int) (n0 : -9223372036854775808 ≤ n) (n1 : n ≤ 9223372036854775807) :
    Calls Tryd.prog 13 #[.pointer (some ⟨hb, 0, none⟩), .pointer (some ⟨b, 0, none⟩), .agg #[.int .i64 d, .int .i64 n]] w fun e w' =>
      e = .returned (.bool true) ∧ ∃ S' H' L', Sep No w0 w' [hpAt hb s, slabR s S', rheapR b S'.quota L'] ∧ Slb.Rep S' H' ∧ Like H' L' ∧ S'.quota = S.quota := by
  by_cases d1 : d = 1
  · subst d1; exact play1_call h hT R K n
  by_cases d2 : d = 2
  · subst d2; exact play2_call h hT R K n n0 n1
  by_cases d3 : d = 3
  · subst d3; exact play3_call h hT R K n n0 n1
  by_cases d4 : d = 4
  · subst d4; exact play4_call h hT R K n n0 n1
  by_cases d5 : d = 5
  · subst d5; exact play5_call h hT R K n n0 n1
  exact play0_call h hT R K d n ⟨d1, d2, d3, d4, d5⟩ n0 n1
end Go.Proofs.YtfmkiioahnphbaaDoor
