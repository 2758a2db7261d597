/- The reference of layer 1 (loftref01): Release, walked. Conditions: the arena in memory is as said. -/
import Derived.Test.YtnkdopaajpbjfaaSlabRef3
import Derived.Deep.MidRow
namespace Go.Proofs.Ytnkdopaajpbjfaa
open Go Go.RowKit

variable {F : Nat → Prop} {w0 w : World}

theorem page_range {g o : Nat} {S : Slb} {k : Nat} (h0 : w.cell? ⟨g, o, none⟩ = some (.int .i64 k)) (h1 : ∀ j, j < 64 → w.cell? ⟨g, o + 1 + j, none⟩ = some (.int .u64 (S.wd (64 * k + j)))) :
    w.rangeAt g o (pcell S.wd k) := by
  intro j v hv
  have hj : j < 65 := by have := (List.getElem?_eq_some_iff.1 hv).1; rw [pcell_len] at this; exact this
  cases j with
  | zero => rw [Nat.add_zero, h0]; simpa [pcell] using hv
  | succ j =>
    rw [show o + (j + 1) = o + 1 + j by omega, h1 j (by omega)]
    rw [pcell, List.getElem?_cons_succ] at hv
    have hj2 : j < 64 := by omega
    simpa [hj2] using hv
theorem page_size (wd : Nat → Int) (k : Nat) : (Try.prog.info? 59).map (·.size) = some (pcell wd k).length := by rw [pcell_len]; kernel_rfl

theorem page_any : ∃ Z : Array Value, (∀ W, (zeroValue 59).run Try.prog W = .ok (.agg Z) W) ∧ ((Z = #[]) = False) := ⟨_, zeroPageV, by simp [pcell0]⟩

theorem pcell_one (wd : Nat → Int) (k : Nat) : ∀ u ∈ pcell wd k, u.oneCell' = true := by
  intro u hu
  rcases List.mem_cons.1 hu with rfl | hu
  · rfl
  · obtain ⟨j, _, rfl⟩ := List.mem_map.1 hu
    rfl

namespace Slb
theorem less_take {pg : List Nat} {j k : Nat} (h : pg[j]? = some k) (f n : Nat) : less (pg.take (j + 1)) f n = less (pg.take j) f n ++ if k < f ∨ f + n ≤ k then [k] else [] := by
  unfold less
  rw [List.take_add_one, h, List.filter_append]
  congr 1
  by_cases h1 : k < f ∨ f + n ≤ k
  · rw [if_pos h1]; rcases h1 with h1 | h1 <;> simp [h1]
  · rw [if_neg h1]; simp; omega
theorem less_len (pg : List Nat) (f n : Nat) : (less pg f n).length ≤ pg.length := List.length_filter_le _ _
end Slb
theorem prow_snoc (wd : Nat → Int) (L : List Nat) (k : Nat) : prow wd (L ++ [k]) = prow wd L ++ pcell wd k := by simp [prow]

set_option maxRecDepth 100000 in
set_option maxHeartbeats 1000000 in
theorem rrelease_err {b : Nat} {S : Slb} (h : Sep F w w [rslabR b S]) (f n : Int) (hbad : n < 1 ∨ 4096 < n ∨ f < 0 ∨ 1048576 - n < f) :
    Calls Try.prog 31 #[.pointer (some ⟨b, 0, none⟩), .int .i64 f, .int .i64 n] w fun e w' => e = .returned (.int .i64 2) ∧ Sep F w w' [rslabR b S] := by
  have H := Lib.hid h
  clear h
  by_cases g1 : n < 1
  · have d1 : decide (n < 1) = true := ltT g1
    clear hbad
    go_enter Try.func31, Try.ntmps31
    go_wp2
    go_ret
    exact ⟨rfl, H.out⟩
  have d1 : decide (n < 1) = false := ltF (by omega)
  by_cases g2 : 4096 < n
  · have d2 : decide (4096 < n) = true := ltT g2
    clear hbad
    go_enter Try.func31, Try.ntmps31
    go_wp2
    go_ret
    exact ⟨rfl, H.out⟩
  have d2 : decide (4096 < n) = false := ltF (by omega)
  by_cases g3 : f < 0
  · have d3 : decide (f < 0) = true := ltT g3
    clear hbad
    go_enter Try.func31, Try.ntmps31
    go_wp2
    go_ret
    exact ⟨rfl, H.out⟩
  have d3 : decide (f < 0) = false := ltF (by omega)
  have d4 : decide (1048576 - n < f) = true := ltT (by omega)
  clear hbad
  go_enter Try.func31, Try.ntmps31
  go_wp2
  go_ret
  exact ⟨rfl, H.out⟩


set_option maxRecDepth 100000 in
set_option maxHeartbeats 1000000 in
theorem rrelease_ok {b : Nat} {S : Slb} (h : Sep F w w [rslabR b S]) (hS : S.Ok) (f n : Nat) (h1 : 1 ≤ n) (h2 : n ≤ 4096) (h3 : f + n ≤ 1048576) {er : Int} {S' : Slb} (r : S.release f n = (er, S')) :
    Calls Try.prog 31 #[.pointer (some ⟨b, 0, none⟩), .int .i64 f, .int .i64 n] w fun e w' => e = .returned (.int .i64 er) ∧ Sep F w w' [rslabR b S'] := by
  have d1 : decide ((n : Int) < 1) = false := ltF (by omega)
  have d2 : decide ((4096 : Int) < (n : Int)) = false := ltF (by omega)
  have d3 : decide ((f : Int) < 0) = false := ltF (by omega)
  have d4 : decide ((1048576 : Int) - (n : Int) < (f : Int)) = false := ltF (by omega)
  unfold Slb.release at r
  rw [if_neg (by omega), Int.toNat_natCast, Int.toNat_natCast] at r
  have HR := Lib.hid r
  have HALL := Lib.hid (show (List.range n).all (fun k => S.has ((f : Int) + (k : Int))) = true ↔ ∀ k, k < n → S.has ((f : Int) + (k : Int)) = true from by
    rw [List.all_eq_true]
    exact ⟨fun h k hk => h k (List.mem_range.2 hk), fun h k hk => h k (List.mem_range.1 hk)⟩)
  have hlen : (S.pg.length : Int) ≤ 4096 := by have := Slb.len_le hS; omega
  have HS := Lib.hid hS
  obtain ⟨sa, cap, h4⟩ := rs_open h
  have HX := Lib.hid h4
  clear h hS r h4
  go_enter Try.func31, Try.ntmps31
  go_wp2_with fail
  go_loopw [7] (fun i wr => ∃ t : Nat, i = .int .i64 t ∧ f ≤ t ∧ t ≤ f + n ∧ (∀ k, f + k < t → S.has ((f : Int) + (k : Int)) = true) ∧ Sep F w wr [cellsAt b #[.int .i64 S.quota, .slice sa S.pg.length cap] 48, rowAt 59 65 (.slice sa S.pg.length cap) S.pg.length (prow S.wd S.pg)]) (fun i _ => f + n - (RowKit.intOf i).toNat)
  case atStart => exact ⟨f, rfl, Nat.le_refl _, by omega, fun k hk => by omega, HX.out⟩
  case round =>
    obtain ⟨t, rfl, ht1, ht2, hall, h⟩ := hrel
    have c0 := (h.cell 0 rfl 0 (v := .int .i64 S.quota) rfl).1
    have c1 := (h.cell 0 rfl 1 (v := .slice sa S.pg.length cap) rfl).1
    have HA := Lib.hid hall
    clear hall
    by_cases hlt : t < f + n
    · have d5 : decide ((t : Int) < (f : Int) + (n : Int)) = true := ltT (by omega)
      have hc := rat_call (h.row 1 rfl) HS.out (t : Int)
      cases hh : S.has (t : Int) with
      | true =>
        rw [placeAt_yes hh] at hc
        have d6 : decide ((S.place (t : Int) : Int) < 0) = false := ltF (by omega)
        have HH := Lib.hid hh
        have H := Lib.hid h
        generalize S.place (t : Int) = p at *
        clear hh h
        go_wp2_with fail
        refine hc.mono ?_
        rintro e w1 ⟨rfl, hm⟩
        have H2 := Lib.hid (H.out.more hm)
        clear hc hm
        go_wp2
        go_roundw
        case rel => exact ⟨t + 1, by go_num, by omega, by omega, fun k hk => by
          rcases Nat.lt_or_ge (f + k) t with h | h
          · exact HA.out k h
          · rw [show ((f : Int) + (k : Int)) = (t : Int) by omega]; exact HH.out, H2.out⟩
        case measure => simp [RowKit.intOf]; omega
      | false =>
        rw [placeAt_no hh] at hc
        have hfin := Lib.hid (show er = 5 ∧ S' = S from by
          have r := HR.out
          rw [if_neg (fun ha => by
            have := HALL.out.1 ha (t - f) (by omega)
            rw [show ((f : Int) + ((t - f : Nat) : Int)) = (t : Int) by omega, hh] at this
            cases this)] at r
          cases r
          exact ⟨rfl, rfl⟩)
        have H := Lib.hid h
        clear hh h
        go_wp2_with fail
        refine hc.mono ?_
        rintro e w1 ⟨rfl, hm⟩
        have H2 := Lib.hid (rs_shut (H.out.more hm))
        clear hc hm
        go_wp2
        go_ret
        exact ⟨by rw [hfin.out.1]; rfl, by rw [hfin.out.2]; exact H2.out⟩
    · have hte : t = f + n := by omega
      have d5 : decide ((t : Int) < (f : Int) + (n : Int)) = false := ltF (by omega)
      have hfin := Lib.hid (show er = 0 ∧ S'.pg = Slb.less S.pg f n ∧ S'.quota = S.quota ∧ prow S'.wd (Slb.less S.pg f n) = prow S.wd (Slb.less S.pg f n) from by
        have r := HR.out
        rw [if_pos (HALL.out.2 fun k hk => HA.out k (by omega))] at r
        cases r
        refine ⟨rfl, rfl, rfl, ?_⟩
        unfold prow
        rw [List.flatMap_def, List.flatMap_def]
        congr 1
        refine List.map_congr_left fun k hk => ?_
        have hk2 := (Slb.mem_less.1 hk).2
        unfold pcell
        congr 1
        refine List.map_congr_left fun j hj => ?_
        have hj2 := List.mem_range.1 hj
        dsimp only
        rw [if_neg (by omega)])
      have hst := Lib.hid (show Sep F w wr [cellsAt b #[.int .i64 S.quota, .slice sa S.pg.length cap] 48, rowAt 59 65 (.slice sa S.pg.length cap) S.pg.length (prow S.wd S.pg), rowAt 59 65 (.slice none 0 0) (Slb.less (S.pg.take 0) f n).length (prow S.wd (Slb.less (S.pg.take 0) f n))] from h.pushNil _ _)
      clear h hte HA
      go_wp2_with fail
      go_loopw [8, 9] (fun out i wr => ∃ j : Nat, j ≤ S.pg.length ∧ i = .int .i64 j ∧ Sep F w wr [cellsAt b #[.int .i64 S.quota, .slice sa S.pg.length cap] 48, rowAt 59 65 (.slice sa S.pg.length cap) S.pg.length (prow S.wd S.pg), rowAt 59 65 out (Slb.less (S.pg.take j) f n).length (prow S.wd (Slb.less (S.pg.take j) f n))]) (fun _ i _ => S.pg.length - (RowKit.intOf i).toNat)
      case atStart => exact ⟨0, Nat.zero_le _, rfl, hst.out⟩
      case round =>
        obtain ⟨j, hj, rfl, h⟩ := hrel
        have c1 := (h.cell 0 rfl 1 (v := .slice sa S.pg.length cap) rfl).1
        clear hst
        obtain ⟨so, co, rfl⟩ := h.form 2 rfl
        have hlo : (Slb.less (S.pg.take j) f n).length ≤ 4096 := by
          have h1 := Slb.less_len (S.pg.take j) f n
          have h2 : (S.pg.take j).length ≤ S.pg.length := by rw [List.length_take]; omega
          omega
        obtain ⟨m, hm⟩ : ∃ m, (Slb.less (S.pg.take j) f n).length = m := ⟨_, rfl⟩
        rw [hm] at h hlo ⊢
        have HM := Lib.hid hm
        clear hm
        by_cases hlt : j < S.pg.length
        · have hs := List.getElem?_eq_getElem hlt
          obtain ⟨g, rfl, hjl, hgw, e0, ew, _⟩ := ppage (h.row 1 rfl) hs
          have hld := Lib.hid (page_range (S := S) e0 ew)
          have HT := Lib.hid (Slb.less_take hs f n)
          have hks := HS.out.small _ (List.mem_of_getElem? hs)
          generalize S.pg[j] = k at *
          by_cases hk1 : k < f
          · have b1 : decide ((k : Int) < (f : Int)) = true := ltT (by omega)
            have b3 : decide (k < f) = true := decide_eq_true hk1
            have hkeep : k < f ∨ f + n ≤ k := .inl hk1
            have HK := Lib.hid (show prow S.wd (Slb.less (S.pg.take (j + 1)) f n) = prow S.wd (Slb.less (S.pg.take j) f n) ++ pcell S.wd k from by rw [HT.out, if_pos hkeep, prow_snoc])
            have HK2 := Lib.hid (show (Slb.less (S.pg.take (j + 1)) f n).length = m + 1 from by rw [HT.out, if_pos hkeep, List.length_append, HM.out]; rfl)
            obtain ⟨A, hA⟩ : ∃ A, (pcell S.wd k).toArray = A := ⟨_, rfl⟩
            have hA2 : A.size = 65 := by rw [← hA]; simp [pcell]
            have HA := Lib.hid hA
            obtain ⟨Z, hzv, hZ1⟩ := page_any
            have hzv := hzv wr
            obtain ⟨i0, hi0, ⟨z0, hz0, hz3⟩, hz1, hz2⟩ := infoPage
            clear hA ew hs hkeep
            go_wp2_with (first | (refine wpList_load_mid (by rfl) 59 _ (by rfl) g (j * 65) (by rfl) (pcell S.wd k) _ hld.out Try.underlying59 rfl (page_size _ _) ?_; rw [HA.out]) | (at_builtin; refine wpList_append_sepC h 2 rfl (by rfl) _ _ 46 rfl Try.underlying46 hi0 hz0 hz1 hz2 hz3 (by decide) (by rfl) (pcell S.wd k) _ (by rfl) (by simp) (pcell_len _ _) (pcell_one _ _) _ _ ((fold_page _ _ rfl hA2).trans HA.out.symm) (by unfold maxLen; omega) (by omega) ?_))
            intro g3 c3 w3 h3
            have H3 := Lib.hid h3
            clear h h3 hld hzv hZ1 hi0 hz0 hz1 hz2 hz3
            go_wp2
            go_roundw
            case rel =>
              refine ⟨j + 1, by omega, by go_num, ?_⟩
              rw [HK.out, HK2.out]
              exact H3.out
            case measure => simp [RowKit.intOf]; omega
          have b1 : decide ((k : Int) < (f : Int)) = false := ltF (by omega)
          have b3 : decide (k < f) = false := decide_eq_false hk1
          by_cases hk2 : f + n ≤ k
          · have b2 : decide ((f : Int) + (n : Int) ≤ (k : Int)) = true := leT (by omega)
            have hkeep : k < f ∨ f + n ≤ k := .inr hk2
            have HK := Lib.hid (show prow S.wd (Slb.less (S.pg.take (j + 1)) f n) = prow S.wd (Slb.less (S.pg.take j) f n) ++ pcell S.wd k from by rw [HT.out, if_pos hkeep, prow_snoc])
            have HK2 := Lib.hid (show (Slb.less (S.pg.take (j + 1)) f n).length = m + 1 from by rw [HT.out, if_pos hkeep, List.length_append, HM.out]; rfl)
            obtain ⟨A, hA⟩ : ∃ A, (pcell S.wd k).toArray = A := ⟨_, rfl⟩
            have hA2 : A.size = 65 := by rw [← hA]; simp [pcell]
            have HA := Lib.hid hA
            obtain ⟨Z, hzv, hZ1⟩ := page_any
            have hzv := hzv wr
            obtain ⟨i0, hi0, ⟨z0, hz0, hz3⟩, hz1, hz2⟩ := infoPage
            clear hA ew hs hkeep
            go_wp2_with (first | (refine wpList_load_mid (by rfl) 59 _ (by rfl) g (j * 65) (by rfl) (pcell S.wd k) _ hld.out Try.underlying59 rfl (page_size _ _) ?_; rw [HA.out]) | (at_builtin; refine wpList_append_sepC h 2 rfl (by rfl) _ _ 46 rfl Try.underlying46 hi0 hz0 hz1 hz2 hz3 (by decide) (by rfl) (pcell S.wd k) _ (by rfl) (by simp) (pcell_len _ _) (pcell_one _ _) _ _ ((fold_page _ _ rfl hA2).trans HA.out.symm) (by unfold maxLen; omega) (by omega) ?_))
            intro g3 c3 w3 h3
            have H3 := Lib.hid h3
            clear h h3 hld hzv hZ1 hi0 hz0 hz1 hz2 hz3
            go_wp2
            go_roundw
            case rel =>
              refine ⟨j + 1, by omega, by go_num, ?_⟩
              rw [HK.out, HK2.out]
              exact H3.out
            case measure => simp [RowKit.intOf]; omega
          have b2 : decide ((f : Int) + (n : Int) ≤ (k : Int)) = false := leF (by omega)
          have HK := Lib.hid (show Slb.less (S.pg.take (j + 1)) f n = Slb.less (S.pg.take j) f n from by rw [HT.out, if_neg (by omega), List.append_nil])
          have H := Lib.hid h
          clear hld ew h hs
          go_wp2
          go_roundw
          case rel =>
            refine ⟨j + 1, by omega, by go_num, ?_⟩
            rw [HK.out, HM.out]
            exact H.out
          case measure => simp [RowKit.intOf]; omega
        · have hje : j = S.pg.length := by omega
          subst hje
          have h5 : Sep F w wr [cellsAt b #[.int .i64 S.quota, .slice sa S.pg.length cap] 48, rowAt 59 65 (.slice sa S.pg.length cap) S.pg.length (prow S.wd S.pg), rowAt 59 65 (.slice so m co) S'.pg.length (prow S'.wd S'.pg)] := by
            have hm := HM.out
            rw [List.take_length] at hm h
            rw [hfin.out.2.1, hfin.out.2.2.2, hm]
            exact h
          have q2 := (h.cell 0 rfl 1 (v := .slice sa S.pg.length cap) rfl).2
          have H5 := Lib.hid (rs_store (S := S) (S' := S') hfin.out.2.2.1 h5)
          clear h h5
          go_wp2
          go_ret
          exact ⟨by rw [hfin.out.1]; rfl, H5.out⟩
end Go.Proofs.Ytnkdopaajpbjfaa
