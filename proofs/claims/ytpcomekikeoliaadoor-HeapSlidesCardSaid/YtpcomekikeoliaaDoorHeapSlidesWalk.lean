/- HeapSlides, walked. Condition: the table of math/bits holds what its initialiser lays. -/
import Derived.Test.YtpcomekikeoliaaDoorSlideBud
import Derived.Test.YtpcomekikeoliaaDoorHeapLawSpec
import Derived.Test.YtpcomekikeoliaaDoorNth04
import Derived.Test.YtpcomekikeoliaaDoorArgs
import Derived.Deep.RegionHeld3
import Derived.Deep.DeepCutAuto
import Derived.Deep.CutBlock
set_option linter.unusedVariables false
set_option linter.unusedSimpArgs false
set_option maxRecDepth 100000
namespace Go.Proofs.YtpcomekikeoliaaDoor
open Go Go.RowKit

/-- An arena and its heap. -/
def SlRel (w : World) (s b : Nat) (q : Int) (wr : World) : Prop := ∃ (S : Slb) (H : List Ent), Slb.Rep S H ∧ S.quota = q ∧ Sep No w wr [slabR s S, hpAt b s]

/-- Slide of a block, in a row of tries from above. -/
theorem Slb.Rep.try_ {S : Slb} {H : List Ent} (R : Slb.Rep S H) {k : Nat} {x : Int} (hk : S.live[k]? = some x) (hab : ∀ i : Nat, k < i → ∀ y, S.live[i]? = some y → (S.hslide y).1 = y) :
    ∃ (d : Int) (S' : Slb), S.hslide x = (d, 0, S') ∧ ((d = x ∧ S' = S) ∨ (d ≠ x ∧ ∃ H', Slb.Rep S' H' ∧ S'.quota = S.quota ∧ (blks H').length = (blks H).length ∧ Slb.Steps1 S S' H H')) := by
  have hm := List.mem_of_getElem? hk
  rw [R.live] at hm
  obtain ⟨b, hb, rfl⟩ := List.mem_map.1 hm
  obtain ⟨d, S', H', e, D, W⟩ := R.hslide hb
  refine ⟨_, S', e, ?_⟩
  by_cases hto : d = b.1
  · refine .inl ⟨by rw [hto], ?_⟩
    cases W with
    | stay p h ent r blk e es ea => exact es
    | small c q N m p N1 j hc o least ent hj hbit ad old lt e pg => omega
    | large p f h ent k hf lt ha ht e pg => omega
  · refine .inr ⟨by omega, H', D.rep, D.quota, ?_, R.steps1 hb D W hto fun c hc hlt => ?_⟩
    · obtain ⟨L, p1, p2⟩ := D.perm
      rw [p1.length_eq, p2.length_eq]; rfl
    · have hcm : (c.1 : Int) ∈ S.live := by rw [R.live]; exact List.mem_map.2 ⟨c, hc, rfl⟩
      obtain ⟨i, hi, hix⟩ := List.getElem_of_mem hcm
      have hki := (List.getElem?_eq_some_iff.1 hk)
      obtain ⟨hk1, hk2⟩ := hki
      refine hab i (Nat.lt_of_not_le fun hle => ?_) _ (by rw [List.getElem?_eq_getElem hi, hix])
      rcases Nat.lt_or_eq_of_le hle with h | h
      · have := List.pairwise_iff_getElem.1 R.live_srt i k hi hk1 h
        omega
      · subst h
        omega

/-- Where none slides, few are spare. -/
theorem Slb.Rep.spare_rest {S : Slb} {H : List Ent} (R : Slb.Rep S H) (hall : ∀ i : Nat, ∀ y, S.live[i]? = some y → (S.hslide y).1 = y) {c : Nat} (hc : c < 8) : S.spare c < ((62 / csz c : Nat) : Int) :=
  R.spare_low hc fun b hb he hop => by
    have hm : (b.1 : Int) ∈ S.live := by rw [R.live]; exact List.mem_map.2 ⟨b, hb, rfl⟩
    obtain ⟨i, hi, hix⟩ := List.getElem_of_mem hm
    exact (R.moves_small hb hc he).2 hop (hall i _ (by rw [List.getElem?_eq_getElem hi, hix]))

/-- The tries: from above; at most one goes. -/
def InRel (w : World) (s b : Nat) (S : Slb) (H : List Ent) (v : Value) (k : Int) (mv : Bool) (wr : World) : Prop :=
  (mv = false ∧ (∀ i : Nat, k < (i : Int) → ∀ y, S.live[i]? = some y → (S.hslide y).1 = y) ∧ Sep No w wr [slabR s S, hpAt b s, rowAt 3 1 v S.live.length (S.live.map (Value.int .i64))]) ∨
  (mv = true ∧ ∃ (S' : Slb) (H' : List Ent), Slb.Rep S' H' ∧ S'.quota = S.quota ∧ (blks H').length = (blks H).length ∧ Slb.Steps1 S S' H H' ∧ Sep No w wr [slabR s S', hpAt b s, rowAt 3 1 v S.live.length (S.live.map (Value.int .i64))])

/-- The outer loop. -/
def OutRel (w : World) (s b : Nat) (many st : Nat) (mv : Bool) (wr : World) : Prop :=
  ∃ (S : Slb) (H : List Ent) (n : Nat), Slb.Rep S H ∧ (blks H).length = many ∧ Slb.SlLeft S H n ∧ st + n ≤ 40 * many + 40 ∧ (mv = false → ∀ i : Nat, ∀ y, S.live[i]? = some y → (S.hslide y).1 = y) ∧ Sep No w wr [slabR s S, hpAt b s]

def isT : Value → Nat
  | .bool true => 1
  | _ => 0

set_option maxRecDepth 100000 in
set_option maxHeartbeats 4000000 in
theorem slides_in (q : Int) (s1 : Option Addr) (len1 cap1 : Nat) (z1 : List (List Int)) (w : World) (hq : 0 ≤ q ∧ q ≤ 4000) (R : Recs w s1 len1 [some .i64, some .i64] z1) (hlen : len1 ≤ 60) (hT : Tab64 w) :
    Calls Tryd.prog 4 #[.int .i64 q, .slice s1 len1 cap1] w fun e w' => e = .returned (.bool true) ∧ Below w.heap.size w w' := by
  have d1 : decide (q < 0) = false := ltF (by omega)
  have d2 : decide (4000 < q) = false := ltF (by omega)
  have d3 : decide ((60 : Int) < (len1 : Int)) = false := ltF (by omega)
  have HR := Lib.hid R
  have HT := Lib.hid hT
  clear R hT
  go_enter Tryd.func4, Tryd.ntmps4
  go_wp2_with fail
  refine (made_call (Sep.nil w) q (by omega) (by omega)).mono ?_
  rintro e w1 ⟨s, b, rfl, g1⟩
  have hst := Lib.hid (show SlRel w s b q w1 from ⟨_, [], Slb.Rep.empty (by omega) (by omega), rfl, g1⟩)
  clear g1 d1 d2 d3
  go_wp2_with fail
  go_loopw [8] (fun i wr => ∃ j : Nat, i = .int .i64 j ∧ j ≤ len1 ∧ SlRel w s b q wr) (fun i _ => len1 - (RowKit.intOf i).toNat)
  case atStart => exact ⟨0, rfl, Nat.zero_le _, hst.out⟩
  case round =>
    obtain ⟨j, rfl, hj, S, H, hR, hSq, h⟩ := hrel
    clear hst
    by_cases hlt : j < len1
    · obtain ⟨bb, off, rfl, hb, hc⟩ := HR.out.cells (by omega)
      have hzj : z1[j]? = some (z1[j]'(by rw [HR.out.count]; exact hlt)) := List.getElem?_eq_getElem _
      obtain ⟨hrl, hro⟩ := HR.out.ok _ (List.mem_of_getElem? hzj)
      generalize z1[j]'(by rw [HR.out.count]; exact hlt) = r at *
      match r, hrl with
      | [d, n], _ =>
      have o0 := hc j _ hzj 0 _ d rfl rfl
      have o1 := hc j _ hzj 1 _ n rfl rfl
      have c0 := h.old o0
      have c1 := h.old o1
      have hd := bounds_i64 (hro 0 _ d rfl rfl)
      have hn := bounds_i64 (hro 1 _ n rfl rfl)
      simp only [List.length_cons, List.length_nil, Nat.add_zero, Nat.zero_add, Nat.reduceAdd, fv] at c0 c1 o0 o1
      have HO := Lib.hid (And.intro o0 o1)
      have hbw : bb < wr.heap.size := by have := h.size; omega
      have hlv := Sep.hLive h.drew 1 0 rfl rfl
      have hlen2 := hR.live_len
      have hnr := hR.nth_rng n
      have HS := Lib.hid (And.intro hR hSq)
      have hll : S.live.length ≤ 126976 := hlen2.2
      obtain ⟨at_, hat⟩ : ∃ x, nthA S.live n = x := ⟨_, rfl⟩
      rw [hat] at hnr
      clear hc hzj hro hb hlen2 hR hSq o0 o1 h
      go_wp2_with fail
      go_region_held3 (fun w' => w'.cell? ⟨bb, off + j * 2, none⟩ = some (.int .i64 d) ∧ w'.cell? ⟨bb, off + j * 2 + 1, none⟩ = some (.int .i64 n))
        (first | exact ⟨c0, c1⟩ | exact hold1 | exact hold2)
        (first
          | (go_at_call 10; refine hlv.mono ?_; rintro e w2 ⟨v, rfl, h2⟩; have hold1 := And.intro (h2.old HO.out.1) (h2.old HO.out.2); obtain ⟨sa, ca, rfl⟩ := h2.form 2 rfl; have hnth := nth04_call h2 2 rfl rfl (by omega) n (by omega); rw [hat] at hnth; clear hlv)
          | (go_at_call 16; refine hnth.mono ?_; rintro e w3 ⟨rfl, rfl⟩; have hold2 := hold1; clear hnth))
      have k0 := h2.old HO.out.1
      have k1 := h2.old HO.out.2
      have h2 : Sep No w w2 [slabR s S, hpAt b s] := Sep.left (Ps := [_, _]) h2
      by_cases hd1 : d = 1
      · subst hd1
        have key : ∃ x er S', S.halloc n = (x, er, S') ∧ ∃ H', Slb.Rep S' H' ∧ S'.quota = q := by
          by_cases hbad : n < 1 ∨ 4000 < n
          · exact ⟨_, _, _, Slb.halloc_bad' hbad, H, HS.out⟩
          · rcases HS.out.1.halloc (n := n) (by omega) (by omega) with ⟨er, _, _⟩ | ⟨a, S', H', e1, A, W⟩
            · exact ⟨_, _, _, er, H, HS.out⟩
            · exact ⟨_, _, _, e1, H', A.rep, A.quota.trans HS.out.2⟩
        obtain ⟨x, er, S', e1, hk⟩ := key
        have hal := h2.hAlloc 1 0 (by omega) rfl rfl (HT.out.mod h2.mod) n e1
        have HK := Lib.hid hk
        clear e1 hk hold1 hold2 h2
        go_wp2_with fail
        refine hal.mono ?_
        rintro e w4 ⟨rfl, h4⟩
        have H4 : Hid (SlRel w s b q w4) := by
          obtain ⟨H', hr, hq'⟩ := HK.out
          exact ⟨S', H', hr, hq', h4⟩
        clear hal h4
        go_wp2
        go_roundw
        case rel => exact ⟨j + 1, by go_num, by omega, H4.out⟩
        case measure => (simp [RowKit.intOf]; try omega)
      · have e1 : (d == 1) = false := beqF hd1
        by_cases hd2 : d = 2
        · subst hd2
          have key : ∃ er S', S.hfree at_ = (er, S') ∧ ∃ H', Slb.Rep S' H' ∧ S'.quota = q := by
            cases hf : S.find at_ with
            | none => exact ⟨_, _, Slb.hfree_none hf, H, HS.out⟩
            | some r =>
              obtain ⟨p, k, hd'⟩ := r
              obtain ⟨a', r', ea, B⟩ := HS.out.1.find_some hf
              obtain ⟨S', H', e2, F, _⟩ := HS.out.1.hfree B.mem
              dsimp only at e2
              rw [← ea] at e2
              exact ⟨_, _, e2, H', F.rep, F.quota.trans HS.out.2⟩
          obtain ⟨er, S', e2, hk⟩ := key
          have hfr := hfree_call h2 1 0 (by omega) rfl rfl at_ (by omega) (by omega) e2
          have HK := Lib.hid hk
          clear e2 hk hold1 hold2 h2 hd1
          go_wp2_with fail
          refine hfr.mono ?_
          rintro e w4 ⟨rfl, h4⟩
          have H4 : Hid (SlRel w s b q w4) := by
            obtain ⟨H', hr, hq'⟩ := HK.out
            exact ⟨S', H', hr, hq', h4⟩
          clear hfr h4
          go_wp2
          go_roundw
          case rel => exact ⟨j + 1, by go_num, by omega, H4.out⟩
          case measure => (simp [RowKit.intOf]; try omega)
        · have e2 : (d == 2) = false := beqF hd2
          have H4 : Hid (SlRel w s b q w2) := ⟨S, H, HS.out.1, HS.out.2, h2⟩
          clear hold1 hold2 h2 hd1 hd2
          go_wp2
          go_roundw
          case rel => exact ⟨j + 1, by go_num, by omega, H4.out⟩
          case measure => (simp [RowKit.intOf]; try omega)
    · obtain rfl : j = len1 := by omega
      have hlv := Sep.hLive h 1 0 rfl rfl
      have hlen2 := hR.live_len
      have HS := Lib.hid (And.intro hR hSq)
      obtain ⟨many, hmany⟩ : ∃ x, S.live.length = x := ⟨_, rfl⟩
      rw [hmany] at hlen2
      obtain ⟨hm1, hm2⟩ := hlen2
      clear h hlt HR hR hSq
      go_wp2_with fail
      refine hlv.mono ?_
      rintro e w2 ⟨v, rfl, h2⟩
      obtain ⟨sa, ca, rfl⟩ := h2.form 2 rfl
      rw [hmany]
      have h2 : Sep No w w2 [slabR s S, hpAt b s] := Sep.left (Ps := [_, _]) h2
      have H2 : Hid (OutRel w s b many 0 true w2) := ⟨S, H, _, HS.out.1, hm1.symm, HS.out.1.slLeft (by have := HS.out.2; omega), by rw [← hm1]; omega, fun h => Bool.noConfusion h, h2⟩
      clear hlv h2 hmany hm1 HS
      go_wp2_with fail
      go_loopw [11, 12] (fun st mv wr => ∃ (t : Nat) (m : Bool), st = .int .i64 t ∧ mv = .bool m ∧ OutRel w s b many t m wr) (fun st mv _ => 2 * (40 * many + 41 - (RowKit.intOf st).toNat) + isT mv)
      case atStart => exact ⟨0, true, rfl, rfl, H2.out⟩
      case round =>
        obtain ⟨t, m, rfl, rfl, S, H, n, hR, hm, hL, hn, hrest, h⟩ := hrel
        clear H2
        cases m with
        | true =>
          have hlv := Sep.hLive h 1 0 rfl rfl
          have hlen2 := hR.live_len
          obtain ⟨L, hLe⟩ : ∃ x, S.live.length = x := ⟨_, rfl⟩
          rw [hLe] at hlen2
          obtain ⟨hl1, hl2⟩ := hlen2
          have HP := Lib.hid (And.intro hR (And.intro hm (And.intro hL hrest)))
          have HLe := Lib.hid hLe
          clear h hR hm hL hrest
          go_wp2_with fail
          refine hlv.mono ?_
          rintro e w3 ⟨v, rfl, h3⟩
          obtain ⟨sa, ca, rfl⟩ := h3.form 2 rfl
          have H3 : Hid (InRel w s b S H (.slice sa L ca) ((L : Int) - 1) false w3) := .inl ⟨rfl, fun i hi y hy => by
            have := (List.getElem?_eq_some_iff.1 hy).1
            rw [HLe.out] at this
            omega, by rw [← hLe]; exact h3⟩
          rw [hLe]
          clear hlv h3 hLe hl1
          go_wp2_with fail
          go_loopw [12, 14] (fun mv kv wx => ∃ (k : Int) (m : Bool), mv = .bool m ∧ kv = .int .i64 k ∧ -1 ≤ k ∧ k < L ∧ InRel w s b S H (.slice sa L ca) k m wx) (fun _ kv _ => (RowKit.intOf kv + 1).toNat)
          case atStart => exact ⟨_, _, rfl, by go_num, by omega, by omega, H3.out⟩
          case round =>
            obtain ⟨k, m, rfl, rfl, hk0, hk1, hI⟩ := hrel
            clear H3
            by_cases hgo : 0 ≤ k ∧ m = false
            · obtain ⟨hk2, rfl⟩ := hgo
              obtain ⟨k, rfl⟩ := Int.eq_ofNat_of_zero_le hk2
              rcases hI with ⟨_, hab, h⟩ | ⟨hc, _⟩
              case inr => exact Bool.noConfusion hc
              have hkl : k < S.live.length := by rw [HLe.out]; omega
              have hx : S.live[k]? = some S.live[k] := List.getElem?_eq_getElem hkl
              generalize S.live[k] = x at *
              have hxr := HP.out.1.live_rng (List.mem_of_getElem? hx)
              obtain ⟨d, S', e1, hT2⟩ := HP.out.1.try_ hx (fun i hi y hy => hab i (by omega) y hy)
              rw [HLe.out] at h
              obtain ⟨g, rfl, cx, _⟩ := h.item 2 rfl (o := k) (x := .int .i64 x) (by rw [List.getElem?_map, hx]; rfl)
              have hc := Sep.hSlideR h 1 0 (by omega) rfl rfl (HT.out.mod h.mod) HP.out.1 x (by omega) (by omega) e1
              have HQ := Lib.hid (And.intro hab (And.intro hx (And.intro hT2 (congrArg Prod.fst e1))))
              have hto : d = x ∨ d ≠ x := Classical.em _
              clear h hab hx hT2 e1 hkl
              go_wp2_with fail
              refine hc.mono ?_
              rintro e w4 ⟨rfl, h4⟩
              have h4 : Sep No w w4 [slabR s S', hpAt b s, rowAt 3 1 (.slice (some ⟨g, 0, none⟩) L ca) L (S.live.map (Value.int .i64))] := h4
              obtain ⟨g', eg, cx2, _⟩ := h4.item 2 rfl (o := k) (x := .int .i64 x) (by rw [List.getElem?_map, HQ.out.2.1]; rfl)
              cases eg
              have H4 := Lib.hid h4
              clear hc h4 cx
              rcases hto with rfl | hto
              · have hb : (d != d) = false := bneF rfl
                have H5 : Hid (InRel w s b S H (.slice (some ⟨g, 0, none⟩) L ca) ((k : Int) - 1) false w4) := by
                  obtain ⟨hab, hx, hT2, he⟩ := HQ.out
                  have h4 := H4.out
                  rcases hT2 with ⟨_, rfl⟩ | ⟨hne, _⟩
                  case inr => exact absurd rfl hne
                  refine .inl ⟨rfl, fun i hi y hy => ?_, by rw [HLe.out]; exact h4⟩
                  by_cases hik : i = k
                  · subst hik
                    rw [hx] at hy
                    cases hy
                    exact he
                  · exact hab i (by omega) y hy
                clear HQ H4
                go_wp2
                go_roundw
                case rel => exact ⟨(k : Int) - 1, false, rfl, by go_num, by omega, by omega, H5.out⟩
                case measure => (simp [RowKit.intOf]; try omega)
              · have hb : (d != x) = true := bneT hto
                have H5 : Hid (InRel w s b S H (.slice (some ⟨g, 0, none⟩) L ca) ((k : Int) - 1) true w4) := by
                  obtain ⟨hab, hx, hT2, _⟩ := HQ.out
                  rcases hT2 with ⟨h7, _⟩ | ⟨_, H', r1, r2, r3, r4⟩
                  · exact absurd h7 hto
                  · exact .inr ⟨rfl, S', H', r1, r2, r3, r4, by rw [HLe.out]; exact H4.out⟩
                clear HQ H4
                go_wp2
                go_roundw
                case rel => exact ⟨(k : Int) - 1, true, rfl, by go_num, by omega, by omega, H5.out⟩
                case measure => (simp [RowKit.intOf]; try omega)
            · have HI := Lib.hid hI
              clear hI
              cases m with
              | true =>
                clear hgo
                have hle : (t : Int) + 1 ≤ 40 * many + 40 ∧ Hid (OutRel w s b many (t + 1) true wr) := by
                  rcases HI.out with ⟨hc, _⟩ | ⟨_, S', H', r1, r2, r3, r4, h⟩
                  · exact Bool.noConfusion hc
                  · obtain ⟨hR, hm, hL, _⟩ := HP.out
                    obtain ⟨n', e, hL'⟩ := r4.left hL
                    exact ⟨by omega, S', H', n', r1, by rw [r3, hm], hL', by omega, fun h => Bool.noConfusion h, Sep.left (Ps := [_, _]) h⟩
                obtain ⟨hle, HO⟩ := hle
                have dd1 : decide ((40 : Int) * (many : Int) + 40 < (t : Int) + 1) = false := ltF (by omega)
                clear HI HP
                by_cases hk : 0 ≤ k
                · go_wp2
                  go_roundw
                  case rel => exact ⟨t + 1, true, by go_num, rfl, HO.out⟩
                  case measure => simp [RowKit.intOf, isT]; omega
                · go_wp2
                  go_roundw
                  case rel => exact ⟨t + 1, true, by go_num, rfl, HO.out⟩
                  case measure => simp [RowKit.intOf, isT]; omega
              | false =>
                obtain rfl : k = -1 := by
                  have : ¬ 0 ≤ k := fun h => hgo ⟨h, rfl⟩
                  omega
                have HO : Hid (OutRel w s b many t false wr) := by
                  rcases HI.out with ⟨_, hab, h⟩ | ⟨hc, _⟩
                  · obtain ⟨hR, hm, hL, _⟩ := HP.out
                    exact ⟨S, H, n, hR, hm, hL, hn, fun _ i y hy => hab i (by omega) y hy, Sep.left (Ps := [_, _]) h⟩
                  · exact Bool.noConfusion hc
                have dd1 : decide ((40 : Int) * (many : Int) + 40 < (t : Int)) = false := ltF (by omega)
                clear HI HP hgo
                go_wp2
                go_roundw
                case rel => exact ⟨t, false, rfl, rfl, HO.out⟩
                case measure => simp [RowKit.intOf, isT]
        | false =>
          have HP := Lib.hid (And.intro hR (And.intro hm hrest))
          have H := Lib.hid h
          clear h hR hL hn hrest hm
          go_wp2_with fail
          go_loopw [17] (fun cv wx => ∃ c : Nat, cv = .int .i64 c ∧ c ≤ 8 ∧ Sep No w wx [slabR s S, hpAt b s]) (fun cv _ => 8 - (RowKit.intOf cv).toNat)
          case atStart => exact ⟨0, rfl, by omega, H.out⟩
          case round =>
            obtain ⟨c, rfl, hc8, h⟩ := hrel
            clear H
            have hcl := classes_call wr
            have H := Lib.hid h
            clear h
            go_wp2_with fail
            refine hcl.mono ?_
            rintro e w3 ⟨rfl, hm3⟩
            have h3 := H.out.more hm3
            clear hcl H hm3
            by_cases hc : c < 8
            · have hs := slots_call (c : Int) w3
              rw [cslots_in (by omega) (by omega), Int.toNat_natCast] at hs
              dsimp only at hs
              have H3 := Lib.hid h3
              have hsp := HP.out.1.spare_rest (HP.out.2.2 (by trivial)) hc
              have hr := csz_range hc
              obtain ⟨sl, hsl⟩ : ∃ x, 62 / csz c = x := ⟨_, rfl⟩
              have hslb : sl ≤ 31 := by rw [← hsl]; omega
              rw [hsl] at hs hsp
              clear h3 hsl hr
              go_wp2_with fail
              refine hs.mono ?_
              rintro e w4 ⟨rfl, hm4⟩
              have h4 := H3.out.more hm4
              have hspc := h4.hSpare 1 0 rfl rfl (c : Int)
              obtain ⟨sp, hspe⟩ : ∃ x, S.spare c = x := ⟨_, rfl⟩
              rw [hspe] at hspc hsp
              have H4 := Lib.hid h4
              clear hs hm4 H3 h4 hspe
              have dsp : decide (((sl : Nat) : Int) ≤ sp) = false := leF (by omega)
              go_wp2_with fail
              refine hspc.mono ?_
              rintro e w5 ⟨rfl, hm5⟩
              have H5 := Lib.hid (H4.out.more hm5)
              clear hspc hm5 H4
              go_wp2
              go_roundw
              case rel => exact ⟨c + 1, by go_num, by omega, H5.out⟩
              case measure => (simp [RowKit.intOf]; try omega)
            · obtain rfl : c = 8 := by omega
              have hlv := Sep.hLive h3 1 0 rfl rfl
              have hlen2 := HP.out.1.live_len
              have hmm := HP.out.2.1
              clear hc
              rw [← hlen2.1] at hmm
              clear h3 hlen2
              go_wp2_with fail
              refine hlv.mono ?_
              rintro e w4 ⟨v, rfl, h4⟩
              obtain ⟨sa, ca, rfl⟩ := h4.form 2 rfl
              rw [hmm]
              have HM := Lib.hid h4.mod
              have dm : ((many : Int) == (many : Int)) = true := beqT rfl
              clear hlv h4 hmm HP
              have ha := awake_call w4 (HT.out.mod HM.out)
              go_wp2_with fail
              refine ha.mono ?_
              rintro e w9 ⟨rfl, hm9⟩
              have H9 := Lib.hid (HM.out.trans' hm9)
              clear ha hm9
              go_wp2
              go_ret
              exact ⟨rfl, H9.out.below _ (Nat.le_refl _) (fun _ _ x => x)⟩

set_option maxRecDepth 100000 in
theorem heapSlides_walk (a0 : Int) (s1 : Option Addr) (len1 cap1 : Nat) (z1 : List (List Int)) (w : World) (_w0 : (Lit.int .i64 a0).wf = true) (R : Recs w s1 len1 [some .i64, some .i64] z1) (hT : Tab64 w) :
    Calls Tryd.prog 4 #[.int .i64 a0, .slice s1 len1 cap1] w fun e w' => e = .returned (.bool true) ∧ Below w.heap.size w w' := by
  by_cases hall : (0 ≤ a0 ∧ a0 ≤ 4000) ∧ len1 ≤ 60
  · exact slides_in a0 s1 len1 cap1 z1 w hall.1 R hall.2 hT
  · have ha := awake_call w hT
    by_cases h1 : a0 < 0
    · have d1 : decide (a0 < 0) = true := ltT h1
      clear hT h1 hall
      clear R
      go_enter Tryd.func4, Tryd.ntmps4
      go_wp2_with fail
      refine ha.mono ?_
      rintro e w' ⟨rfl, hb⟩
      have H9 := Lib.hid hb
      clear ha hb
      go_wp2
      go_ret
      exact ⟨rfl, H9.out.below _ (Nat.le_refl _) (fun _ _ x => x)⟩
    have d1 : decide (a0 < 0) = false := ltF (by omega)
    by_cases h2 : 4000 < a0
    · have d2 : decide (4000 < a0) = true := ltT h2
      clear hT h1 h2 hall
      clear R
      go_enter Tryd.func4, Tryd.ntmps4
      go_wp2_with fail
      refine ha.mono ?_
      rintro e w' ⟨rfl, hb⟩
      have H9 := Lib.hid hb
      clear ha hb
      go_wp2
      go_ret
      exact ⟨rfl, H9.out.below _ (Nat.le_refl _) (fun _ _ x => x)⟩
    have d2 : decide (4000 < a0) = false := ltF (by omega)
    have d30 : decide ((60 : Int) < (len1 : Int)) = true := ltT (by omega)
    clear hT h1 h2 hall
    clear R
    go_enter Tryd.func4, Tryd.ntmps4
    go_wp2_with fail
    refine ha.mono ?_
    rintro e w' ⟨rfl, hb⟩
    have H9 := Lib.hid hb
    clear ha hb
    go_wp2
    go_ret
    exact ⟨rfl, H9.out.below _ (Nat.le_refl _) (fun _ _ x => x)⟩
end Go.Proofs.YtpcomekikeoliaaDoor
