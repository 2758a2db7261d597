/- Package store, walked: Of. Conditions: the pages and slots lie in memory as said, the pages rise and are within the quota. -/
import Derived.Test.YtmdnofojecncgaaGreatDoorStoreRawW
import Derived.Test.YtmdnofojecncgaaGreatDoorOfSpec
import Derived.Test.YtmdnofojecncgaaGreatDoorStAnyWalk
import Derived.BigQuiet
set_option linter.unusedVariables false
set_option linter.unusedSimpArgs false
set_option maxRecDepth 100000
namespace Go.Proofs.YtmdnofojecncgaaGreatDoor
open Go Go.RowKit

variable {F F0 : Nat → Prop} {w w0 : World} {Ps : List Res}

theorem words_index {cs : List Value} (hl : cs.length = 64) {k : Nat} {x : Int} (h : cs[k]? = some (.int .u64 x)) (w : World) :
    (Instr.index 96 (.agg cs.toArray) (.int .i64 (k : Nat))).run Tryz.prog w = .ok (.int .u64 x) w := by
  have hk := (List.getElem?_eq_some_iff.1 h).1
  simp [Instr.index, run_underlying Tryz.underlying96, asIntOf, go_sem]
  rw [if_pos (by omega), h]
  rfl
theorem words_size (cs : List Value) (h : cs.length = 64) : (Tryz.prog.info? 96).map (·.size) = some cs.length := by rw [h]; kernel_rfl

theorem page_anyS : ∃ Z : Array Value, (∀ W, (zeroValue 98).run Tryz.prog W = .ok (.agg Z) W) ∧ ((Z = #[]) = False) ∧ Z.size = 65 := ⟨_, zeroPageV, by simp [pcell0], rfl⟩
theorem mod_setCells (S : Nat → Prop) {w0 : World} (b : Nat) : ∀ (vs : List Value) (o : Nat) (w : World), Mod S w0 w → (S b ∨ w0.heap.size ≤ b) → Mod S w0 (w.setCells b o vs)
  | [], _, _, h, _ => h
  | v :: r, o, w, h, hb => mod_setCells S b r (o + 1) _ (h.setCell _ _ hb) hb
theorem mod_setCells_new (w : World) (Z : Array Value) (T : TypeId) (vs : List Value) : Mod No w ((w.alloc (.cells Z T)).setCells w.heap.size 0 vs) := mod_setCells No _ vs 0 _ ((Mod.refl No w).alloc _) (.inr (Nat.le_refl _))


/-- Pages as they are told, somewhere in memory. -/
def PagesIn (w : World) (pa : Option Addr) (pg : List Nat) (wd : Nat → Int) : Prop := ∀ (i p : Nat), pg[i]? = some p → ∃ g o, pa = some ⟨g, o, none⟩ ∧ g < w.heap.size ∧ w.rangeAt g (o + i * 65) (pcell wd p)
theorem PagesIn.more {w w' : World} {pa : Option Addr} {pg : List Nat} {wd : Nat → Int} (h : PagesIn w pa pg wd) (hm : Mod No w w') : PagesIn w' pa pg wd := fun i p hp => by
  obtain ⟨g, o, e, hg, hr⟩ := h i p hp
  exact ⟨g, o, e, Nat.lt_of_lt_of_le hg hm.size, fun j v hv => hm.cell (hr j v hv) (fun x => x)⟩
theorem PagesIn.row {w : World} {pa : Option Addr} {pg : List Nat} {wd : Nat → Int} {n cap : Nat} (hn : pg.length = n) (hr : w.ownsRow 0 98 65 (.slice pa n cap) n (prow wd pg)) : PagesIn w pa pg wd := fun i p hp => by
  have hi := (List.getElem?_eq_some_iff.1 hp).1
  obtain ⟨g, cap', hv⟩ := Joins.ownsRow_form hr (by omega)
  simp only [Value.slice.injEq] at hv
  obtain ⟨rfl, _, rfl⟩ := hv
  refine ⟨g, 0, rfl, (hr.lt g rfl).2, fun j v hv => ?_⟩
  have hj := (List.getElem?_eq_some_iff.1 hv).1
  rw [pcell_len] at hj
  rw [Nat.zero_add, hr.cellAt _ (by omega), prow, flat_get (pcell_len wd) pg i j p hp hj]
  exact hv

/-- The cells of Raw in memory. -/
abbrev rwP (pa : Option Addr) (n pc : Nat) : Value := .slice pa n pc
def OfRel (w : World) (B1 : Nat) (q m la : Int) (pv zv : Value) (b s hp t : Nat) (T : HTbl) (S : Slb) (wr : World) : Prop :=
  Sep No w wr [cellsAt B1 (rawC q m la pv zv) 87, stAt b m la s hp t, slabR s S, hpAt hp s, tabR t T]
def OfPost2 (w : World) (q m la : Int) (S : Slb) (zs : List RSlot) (e : Ending) (w' : World) : Prop :=
  (ofErr S m la zs = 8 ∧ e = .returned (.tuple #[.pointer none, .int .i64 8]) ∧ Mod No w w') ∨
  ∃ b, (∀ r ∈ zs, HTbl.rOk la r = true) ∧ stAudit S (HTbl.ofRaw m la zs) = 0 ∧ e = .returned (.tuple #[.pointer (some ⟨b, 0, none⟩), .int .i64 0]) ∧ Sep No w w' [stR b m la S (HTbl.ofRaw m la zs)]

set_option maxRecDepth 100000 in
set_option maxHeartbeats 8000000 in
theorem stof_call (q m la : Int) {pa za : Option Addr} {n pc k zc : Nat} {pg : List Nat} {wd : Nat → Int} {zs : List RSlot} (w : World) (hS : Slb.Ok ⟨q, pg, wd⟩) (hlow : ∀ x ∈ pg, x < 1048576) (hpn : pg.length = n) (hzk : zs.length = k)
    (m1 : 1 ≤ m) (m2 : m ≤ 65536) (l1 : 1 ≤ la) (l2 : la ≤ 4294967295) (hkm : (k : Int) ≤ m) (hP : PagesIn w pa pg wd) (hZ : SlotsIn w za zs) (hzr : ∀ r ∈ zs, 0 ≤ r.gen ∧ -9223372036854775808 ≤ r.addr ∧ r.addr ≤ 9223372036854775807) :
    Calls Tryz.prog 33 #[.agg (rawC q m la (.slice pa n pc) (.slice za k zc))] w (OfPost2 w q m la ⟨q, pg, wd⟩ zs) := by
  have hq0 := hS.q0
  have hq1 := hS.q1
  have hfit := hS.fit
  dsimp only at hq0 hq1 hfit
  have hn4 : n ≤ 4096 := by omega
  have h0 := (Sep.nil w).pushCells (rawC q m la (.slice pa n pc) (.slice za k zc)) 87
  obtain ⟨B1, hB1⟩ : ∃ B, w.heap.size = B := ⟨_, rfl⟩
  obtain ⟨W1, hW1⟩ : ∃ W, w.alloc (.cells (rawC q m la (.slice pa n pc) (.slice za k zc)) 87) = W := ⟨_, rfl⟩
  rw [hB1, hW1] at h0
  have h0 : Sep No w W1 [cellsAt B1 (rawC q m la (.slice pa n pc) (.slice za k zc)) 87] := h0
  have c0 := (h0.cell 0 rfl 0 (v := .int .i64 q) rfl).1
  have c1 := (h0.cell 0 rfl 1 (v := .int .i64 m) rfl).1
  have c2 := (h0.cell 0 rfl 2 (v := .int .u32 la) rfl).1
  have hnew := stnew_call h0 q m la hq0 hq1 m1 m2 l1 l2
  have HS := Lib.hid (And.intro hS (And.intro hlow (And.intro hpn hzk)))
  have HPZ := Lib.hid (And.intro hP (And.intro hZ hzr))
  have HF := Lib.hid (And.intro hfit (And.intro m1 (And.intro m2 (And.intro l1 (And.intro l2 hkm)))))
  clear hS hlow hP hZ hzr h0 hfit hpn hzk
  go_enter Tryz.func33, Tryz.ntmps33
  go_wp2_with fail
  try rw [hW1]
  refine hnew.mono ?_
  rintro e w2 ⟨b, rfl, h2⟩
  obtain ⟨⟨s, hp, t⟩, h2⟩ := h2.openEx 1 rfl
  have h2 := h2.openStar 1 rfl
  have h2 := h2.openStar 1 rfl
  have h2 := h2.openStar 1 rfl
  have h2 : Sep No w w2 [cellsAt B1 (rawC q m la (.slice pa n pc) (.slice za k zc)) 87, stAt b m la s hp t, slabR s (Slb.empty q), hpAt hp s, tabR t ⟨m, la, []⟩] := h2
  have c3 := (h2.cell 0 rfl 3 (v := .slice pa n pc) rfl).1
  have H2 := Lib.hid h2
  clear hnew h2 hW1 hB1 c0 c1 c2
  go_wp2_with fail
  go_loopw [30] (fun iv wr => ∃ i : Nat, iv = .int .i64 i ∧ i ≤ n ∧ Mod No w2 wr) (fun iv _ => n - (RowKit.intOf iv).toNat)
  case atStart => exact ⟨0, rfl, Nat.zero_le _, Mod.refl _ _⟩
  case round =>
    obtain ⟨i, rfl, hi, hm⟩ := hrel
    have h := H2.out.more hm
    by_cases hlt : i < n
    · obtain ⟨p, hpi⟩ : ∃ p, pg[i]? = some p := ⟨_, List.getElem?_eq_getElem (by rw [HS.out.2.2.1]; exact hlt)⟩
      have hpl := HS.out.2.1 p (List.mem_of_getElem? hpi)
      have hPI := HPZ.out.1.more (H2.out.mod.trans' hm)
      obtain ⟨g, o, rfl, hg, hrg⟩ := hPI i p hpi
      obtain ⟨Z, hzv, hZ1⟩ := page_anyS
      obtain ⟨A, hA⟩ : ∃ A, (pcell wd p).toArray = A := ⟨_, rfl⟩
      have hA2 : A.size = 65 := by rw [← hA]; simp [pcell]
      have hld := Lib.hid hrg
      have h5 := (h).pushCells Z 98
      obtain ⟨C1, hC1⟩ : ∃ C, (wr).heap.size = C := ⟨_, rfl⟩
      obtain ⟨W5, hW5⟩ : ∃ W, (wr).alloc (.cells Z 98) = W := ⟨_, rfl⟩
      rw [hC1, hW5] at h5
      have hth : W5.there C1 0 A.size := h5.there_ 5 rfl (by rw [hZ1.2, hA2]; exact Nat.le_refl _)
      have hsz := page_sz A hA2
      have hone : A.all (·.oneCell') = true := by rw [← hA]; exact all_oneCell_toArray (pcell_one wd p)
      have h6 : Sep No w (W5.setCells C1 0 A.toList) _ := h5.setAll 5 rfl (by rw [hZ1.2, hA2])
      obtain ⟨W6, hW6⟩ : ∃ W, W5.setCells C1 0 A.toList = W := ⟨_, rfl⟩
      rw [hW6] at h6
      have hm6 : Mod No (wr) W6 := by
        rw [← hW6, ← hW5, ← hC1]
        exact mod_setCells_new (wr) Z 98 A.toList
      have HA := Lib.hid (And.intro hA hA2)
      have hzv := hzv (wr)
      have hZ1 := hZ1.1
      clear hA hA2 h5
      have q0 := (h6.cell 5 rfl 0 (v := .int .i64 p) (by rw [← HA.out.1]; rfl)).1
      have q3 := (h6.cell 0 rfl 3 (v := .slice (some ⟨g, o, none⟩) n pc) rfl).1
      have HM6 := Lib.hid (hm.trans' hm6)
      have dp1 : decide ((p : Int) < 0) = false := ltF (by omega)
      have dp2 : decide ((1048575 : Int) < (p : Int)) = false := ltF (by omega)
      have dp3 : decide (1048575 < p) = false := decide_eq_false (by omega)
      have hii : (i : Int) < (n : Int) := by omega
      have HK1 : Hid (i + 1 ≤ n ∧ n - (i + 1) < n - i) := by exact Lib.hid ⟨by omega, by omega⟩
      by_cases hz0 : i = 0
      · have di : decide ((0 : Int) < (i : Int)) = false := ltF (by omega)
        have di2 : decide (0 < i) = false := decide_eq_false (by omega)
        clear h6 hm6 hm h hlt hi hpi hpl hPI hrg c3 hz0
        go_wp2_with (first | (refine wpList_load_mid (by rfl) 98 _ (by rfl) g (o + i * 65) (by rfl) (pcell wd p) _ hld.out Tryz.underlying98 rfl (page_size _ _) ?_; rw [HA.out.1]) | (refine wpList_store_mid (by rfl) 98 _ _ (by rfl) C1 0 A (by rfl) (by rfl) hth hsz hone ?_))
        try rw [hW6]
        try simp only [Act.put]
        refine wp_region_quiet_lit (by kernel_rfl) (by kernel_rfl) ?_
        repeat (go_big_quiet_step (fail))
        refine wpQuiet_nil ?_
        intro wq hwq
        obtain ⟨nq, hwq⟩ := hwq
        have hq := Mod.of_drewN hwq
        clear hwq nq
        have HM7 := Lib.hid (HM6.out.trans' hq)
        clear hq
        go_wp2_with fail
        go_roundw
        case rel => exact ⟨i + 1, by go_num, HK1.out.1, HM7.out⟩
        case measure => have := HK1.out.2; simp [RowKit.intOf]; omega
      · obtain ⟨i', rfl⟩ : ∃ i', i = i' + 1 := ⟨i - 1, by omega⟩
        obtain ⟨p', hpi'⟩ : ∃ p', pg[i']? = some p' := ⟨_, List.getElem?_eq_getElem (by rw [HS.out.2.2.1]; omega)⟩
        have hpp : p' < p := Slb.take_lt HS.out.1.sorted hpi p' (List.mem_iff_getElem?.2 ⟨i', by rw [List.getElem?_take_of_lt (by omega)]; exact hpi'⟩)
        obtain ⟨g', o', e', _, hrg'⟩ := (HPZ.out.1.more (H2.out.mod.trans' HM6.out)) i' p' hpi'
        cases e'
        have q9 := hrg' 0 (.int .i64 p') rfl
        rw [Nat.add_zero] at q9
        have di : decide ((0 : Int) < ((i' + 1 : Nat) : Int)) = true := ltT (by omega)
        have di2 : decide ((0 : Int) < (i' : Int) + 1) = true := ltT (by omega)
        have ew : IntKind.i64.wrap ((i' : Int) + 1 - 1) = (i' : Int) := by rw [IntKind.wrap_i64]; omega
        have dpp : decide ((p : Int) ≤ (p' : Int)) = false := leF (by omega)
        have dpp2 : decide (p ≤ p') = false := decide_eq_false (by omega)
        have hii2 : (i' : Int) < (n : Int) := by omega
        have HK2 : Hid (i' + 1 + 1 ≤ n ∧ n - (i' + 1 + 1) < n - (i' + 1)) := by exact Lib.hid ⟨by omega, by omega⟩
        clear h6 hm6 hm h hlt hi hpi hpl hPI hrg c3 hpi' hpp hrg' hz0 HK1
        go_wp2_with (first | (refine wpList_load_mid (by rfl) 98 _ (by rfl) g (o + (i' + 1) * 65) (by rfl) (pcell wd p) _ hld.out Tryz.underlying98 rfl (page_size _ _) ?_; rw [HA.out.1]) | (refine wpList_store_mid (by rfl) 98 _ _ (by rfl) C1 0 A (by rfl) (by rfl) hth hsz hone ?_))
        try rw [hW6]
        try simp only [Act.put]
        refine wp_region_quiet_lit (by kernel_rfl) (by kernel_rfl) ?_
        repeat (go_big_quiet_step (fail))
        refine wpQuiet_nil ?_
        intro wq hwq
        obtain ⟨nq, hwq⟩ := hwq
        have hq := Mod.of_drewN hwq
        clear hwq nq
        have HM7 := Lib.hid (HM6.out.trans' hq)
        clear hq
        go_wp2_with fail
        go_roundw
        case rel => exact ⟨i' + 1 + 1, by go_num, HK2.out.1, HM7.out⟩
        case measure => have := HK2.out.2; simp [RowKit.intOf]; omega
    · obtain rfl : i = n := by omega
      have dI : decide ((i : Int) < (i : Int)) = false := ltF (by omega)
      have q3 := (h.cell 0 rfl 3 (v := .slice pa i pc) rfl).1
      have hst : Hid (OfRel w B1 q m la (.slice pa i pc) (.slice za k zc) b s hp t ⟨m, la, []⟩ (Slb.sL q wd (pg.take 0)) wr) := by
        unfold OfRel
        rw [List.take_zero, Slb.sL_nil]
        exact Lib.hid h
      clear h hm hlt hi H2 c3
      go_wp2_with fail
      go_loopw [63] (fun iv wr => ∃ j : Nat, iv = .int .i64 j ∧ j ≤ i ∧ OfRel w B1 q m la (.slice pa i pc) (.slice za k zc) b s hp t ⟨m, la, []⟩ (Slb.sL q wd (pg.take j)) wr) (fun iv _ => i - (RowKit.intOf iv).toNat)
      case atStart => exact ⟨0, rfl, Nat.zero_le _, hst.out⟩
      case round =>
        obtain ⟨j, rfl, hj, h⟩ := hrel
        clear hst
        unfold OfRel at h
        by_cases hlt : j < i
        · obtain ⟨p, hpi⟩ : ∃ p, pg[j]? = some p := ⟨_, List.getElem?_eq_getElem (by rw [HS.out.2.2.1]; exact hlt)⟩
          have hpl := HS.out.2.1 p (List.mem_of_getElem? hpi)
          obtain ⟨g, o, rfl, hg, hrg⟩ := (HPZ.out.1.more h.mod) j p hpi
          obtain ⟨Z, hzv, hZ1⟩ := page_anyS
          obtain ⟨A, hA⟩ : ∃ A, (pcell wd p).toArray = A := ⟨_, rfl⟩
          have hA2 : A.size = 65 := by rw [← hA]; simp [pcell]
          have hld := Lib.hid hrg
          have h5 := (h).pushCells Z 98
          obtain ⟨C1, hC1⟩ : ∃ C, (wr).heap.size = C := ⟨_, rfl⟩
          obtain ⟨W5, hW5⟩ : ∃ W, (wr).alloc (.cells Z 98) = W := ⟨_, rfl⟩
          rw [hC1, hW5] at h5
          have hth : W5.there C1 0 A.size := h5.there_ 5 rfl (by rw [hZ1.2, hA2]; exact Nat.le_refl _)
          have hsz := page_sz A hA2
          have hone : A.all (·.oneCell') = true := by rw [← hA]; exact all_oneCell_toArray (pcell_one wd p)
          have h6 : Sep No w (W5.setCells C1 0 A.toList) _ := h5.setAll 5 rfl (by rw [hZ1.2, hA2])
          obtain ⟨W6, hW6⟩ : ∃ W, W5.setCells C1 0 A.toList = W := ⟨_, rfl⟩
          rw [hW6] at h6
          have hm6 : Mod No (wr) W6 := by
            rw [← hW6, ← hW5, ← hC1]
            exact mod_setCells_new (wr) Z 98 A.toList
          have HA := Lib.hid (And.intro hA hA2)
          have hzv := hzv (wr)
          have hZ1 := hZ1.1
          clear hA hA2 h5
          have h6 : Sep No w W6 [cellsAt B1 (rawC q m la (.slice (some ⟨g, o, none⟩) i pc) (.slice za k zc)) 87, stAt b m la s hp t, slabR s (Slb.sL q wd (pg.take j)), hpAt hp s, tabR t ⟨m, la, []⟩, cellsAt C1 A 98] := h6
          have hclm := Slb.sL_claim (q := q) (wd := wd) (L := pg.take j) (p := p) (Slb.take_lt HS.out.1.sorted hpi) hpl (by rw [List.length_take]; have := HF.out.1; have := HS.out.2.2.1; omega)
          have hii : (j : Int) < (i : Int) := by omega
          have HK1 : Hid (j + 1 ≤ i ∧ i - (j + 1) < i - j) := by exact Lib.hid ⟨by omega, by omega⟩
          have hcc := h6.drew.sClaim 2 rfl (p : Int) (by omega) (by omega) hclm
          have k2 := (h6.drew.cell 1 rfl 2 (v := .pointer (some ⟨s, 0, none⟩)) rfl).1
          have k0 := (h6.drew.cell 5 rfl 0 (v := .int .i64 p) (by rw [← HA.out.1]; rfl)).1
          have HP := Lib.hid hpi
          clear h h6 hm6 hlt hj hpi hrg hclm
          go_wp2_with (first | (refine wpList_load_mid (by rfl) 98 _ (by rfl) g (o + j * 65) (by rfl) (pcell wd p) _ hld.out Tryz.underlying98 rfl (page_size _ _) ?_; rw [HA.out.1]) | (refine wpList_store_mid (by rfl) 98 _ _ (by rfl) C1 0 A (by rfl) (by rfl) hth hsz hone ?_))
          try rw [hW6]
          clear hth hsz hone hzv hZ1 hld hC1 hW5 hW6
          refine wp_region_held_drew (S := fun w' => w'.cell? ⟨b, 2, none⟩ = some (.pointer (some ⟨s, 0, none⟩)) ∧ w'.cell? ⟨C1, 0, none⟩ = some (.int .i64 p)) (by kernel_rfl) ⟨k2, k0⟩ (fun hHeld => ?_)
          clear k2 k0
          refine wpAnyH_takeD (i := 0) (v := ?_) (some 67) rfl (by rfl) (by kernel_rfl) (by kernel_rfl) (by kernel_rfl) (fun _ _ _ h => h) (Or.inl ⟨by rfl, ?_⟩) (by assumption) ?_
          rotate_left
          · intro w hSw
            try dsimp only at hSw
            go_simp
            try with_reducible rfl
          simp only [Act.put, List.setIfInBounds_toArray, List.set_cons_zero, List.set_cons_succ]
          refine wpAnyH_takeD (i := 1) (v := ?_) (some 68) rfl (by rfl) (by kernel_rfl) (by kernel_rfl) (by kernel_rfl) (fun _ _ _ h => h) (Or.inl ⟨by rfl, ?_⟩) (by assumption) ?_
          rotate_left
          · intro w hSw
            try dsimp only at hSw
            go_simp
            try with_reducible rfl
          simp only [Act.put, List.setIfInBounds_toArray, List.set_cons_zero, List.set_cons_succ]
          refine wpAnyH_takeD (i := 2) (v := ?_) (some 69) rfl (by rfl) (by kernel_rfl) (by kernel_rfl) (by kernel_rfl) (fun _ _ _ h => h) (Or.inl ⟨by rfl, ?_⟩) (by assumption) ?_
          rotate_left
          · intro w hSw
            try dsimp only at hSw
            go_simp
            try with_reducible rfl
          simp only [Act.put, List.setIfInBounds_toArray, List.set_cons_zero, List.set_cons_succ]
          refine wpAnyH_takeD (i := 3) (v := ?_) (some 70) rfl (by rfl) (by kernel_rfl) (by kernel_rfl) (by kernel_rfl) (fun _ _ _ h => h) (Or.inl ⟨by rfl, ?_⟩) (by assumption) ?_
          rotate_left
          · intro w hSw
            try dsimp only at hSw
            go_simp
            try with_reducible rfl
          simp only [Act.put, List.setIfInBounds_toArray, List.set_cons_zero, List.set_cons_succ]
          refine wpAnyH_takeD (i := 4) (v := ?_) (some 71) rfl (by rfl) (by kernel_rfl) (by kernel_rfl) (by kernel_rfl) (fun _ _ _ h => h) (Or.inl ⟨by rfl, ?_⟩) (by assumption) ?_
          rotate_left
          · intro w hSw
            try dsimp only at hSw
            go_simp
            try with_reducible rfl
          simp only [Act.put, List.setIfInBounds_toArray, List.set_cons_zero, List.set_cons_succ]
          refine wpAnyH_takeD (i := 5) (v := ?_) (some 72) rfl (by rfl) (by kernel_rfl) (by kernel_rfl) (by kernel_rfl) (fun _ _ _ h => h) (Or.inl ⟨by rfl, ?_⟩) (by assumption) ?_
          rotate_left
          · intro w hSw
            try dsimp only at hSw
            go_simp
            try with_reducible rfl
          simp only [Act.put, List.setIfInBounds_toArray, List.set_cons_zero, List.set_cons_succ]
          refine wpAnyH_ready (rs := [6]) (by kernel_rfl) (by simp) ?_
          refine AllReadyH.cons rfl (fun K hK => ?_) AllReadyH.nil
          go_simp
          refine (hcc).mono ?_
          rintro e w7 ⟨rfl, h7⟩
          have h7 : Sep No w w7 [cellsAt B1 (rawC q m la (.slice (some ⟨g, o, none⟩) i pc) (.slice za k zc)) 87, stAt b m la s hp t, slabR s (Slb.sW q wd (pg.take j) p 0), hpAt hp s, tabR t ⟨m, la, []⟩, cellsAt C1 A 98] := h7
          have HX : w7.cell? ⟨b, 2, none⟩ = some (.pointer (some ⟨s, 0, none⟩)) ∧ w7.cell? ⟨C1, 0, none⟩ = some (.int .i64 p) := ⟨(h7.cell 1 rfl 2 rfl).1, (h7.cell 5 rfl 0 (by rw [← HA.out.1]; rfl)).1⟩
          clear hcc
          refine hK.out _ _ HX (fun _ => ?_)
          clear hK K hHeld
          have hHeld := HX
          clear HX
          try simp only [Act.put, List.setIfInBounds_toArray, List.set_cons_zero, List.set_cons_succ]
          refine wpAnyH_takeD (i := 7) (v := ?_) (some 10) rfl (by rfl) (by kernel_rfl) (by kernel_rfl) (by kernel_rfl) (fun _ _ _ h => h) (Or.inl ⟨by rfl, ?_⟩) (by assumption) ?_
          rotate_left
          · intro w hSw
            try dsimp only at hSw
            go_simp
            try with_reducible rfl
          simp only [Act.put, List.setIfInBounds_toArray, List.set_cons_zero, List.set_cons_succ]
          refine wpAnyH_done (by kernel_rfl) ?_ _
          clear hHeld
          have H7 := Lib.hid h7
          have hrw : w7.rangeAt C1 1 ((List.range 64).map fun j => Value.int .u64 (wd (64 * p + j))) := fun x v hv => by
            have := h7.range_ 5 rfl (x + 1) v (by rw [← HA.out.1]; exact hv)
            rwa [show 0 + (x + 1) = 1 + x by omega] at this
          have hrl : ((List.range 64).map fun j => Value.int .u64 (wd (64 * p + j))).length = 64 := by simp
          obtain ⟨wl, hwl⟩ : ∃ l, ((List.range 64).map fun j => Value.int .u64 (wd (64 * p + j))) = l := ⟨_, rfl⟩
          rw [hwl] at hrw hrl
          have hws := words_size wl hrl
          have HWL := Lib.hid (And.intro hwl hrl)
          obtain ⟨AW, hAW⟩ : ∃ A, wl.toArray = A := ⟨_, rfl⟩
          have HAW := Lib.hid hAW
          clear h7 hwl hrl hAW
          go_wp2_with (first | (refine wpList_load_mid (by rfl) 96 _ (by rfl) C1 1 (by rfl) wl _ hrw Tryz.underlying96 rfl hws ?_; rw [HAW.out]))
          have H7' : Hid (Sep No w w7 [cellsAt B1 (rawC q m la (.slice (some ⟨g, o, none⟩) i pc) (.slice za k zc)) 87, stAt b m la s hp t, slabR s (Slb.sW q wd (pg.take j) p 0), hpAt hp s, tabR t ⟨m, la, []⟩, cellsAt C1 A 98]) := H7
          have ew1 : IntKind.i64.wrap ((p : Int) * 64) = (p : Int) * 64 := by rw [IntKind.wrap_i64]; omega
          have HWD := Lib.hid (HS.out.1.words)
          clear H7 hrw hws
          go_loopw [79] (fun kv wr => ∃ x : Nat, kv = .int .i64 x ∧ x ≤ 64 ∧ Sep No w wr [cellsAt B1 (rawC q m la (.slice (some ⟨g, o, none⟩) i pc) (.slice za k zc)) 87, stAt b m la s hp t, slabR s (Slb.sW q wd (pg.take j) p x), hpAt hp s, tabR t ⟨m, la, []⟩, cellsAt C1 A 98]) (fun kv _ => 64 - (RowKit.intOf kv).toNat)
          case atStart => exact ⟨0, rfl, Nat.zero_le _, H7'.out⟩
          case round =>
            obtain ⟨x, rfl, hx, h⟩ := hrel
            clear H7'
            by_cases hx64 : x < 64
            · have dx : (x : Int) < 64 := by omega
              have hcell : wl[x]? = some (.int .u64 (wd (64 * p + x))) := by
                rw [← HWL.out.1, List.getElem?_map, List.getElem?_range hx64]; rfl
              have hidx : ∀ W, (Instr.index 96 (.agg AW) (.int .i64 (x : Nat))).run Tryz.prog W = .ok (.int .u64 (wd (64 * p + x))) W := fun W => by rw [← HAW.out]; exact words_index HWL.out.2 hcell W
              have hwr := Slb.sW_write (q := q) (wd := wd) (L := pg.take j) hpl hx64
              have hwd := HWD.out (64 * p + x)
              dsimp only at hwd
              generalize hxw : wd (64 * p + x) = xw at *
              have hcw := h.drew.sWrite 2 rfl ((p : Int) * 64 + (x : Int)) xw hwd.1 hwd.2 hwr
              have k2 := (h.drew.cell 1 rfl 2 (v := .pointer (some ⟨s, 0, none⟩)) rfl).1
              have k0 := (h.drew.cell 5 rfl 0 (v := .int .i64 p) (by rw [← HA.out.1]; rfl)).1
              have ew2 : IntKind.i64.wrap ((p : Int) * 64 + (x : Int)) = (p : Int) * 64 + (x : Int) := by rw [IntKind.wrap_i64]; omega
              have hidx := hidx wr
              have HK2 : Hid (x + 1 ≤ 64 ∧ 64 - (x + 1) < 64 - x) := by exact Lib.hid ⟨by omega, by omega⟩
              clear h hcell hwr hx64 hx hxw
              go_wp2_with fail
              refine wp_region_held_drew (S := fun w' => w'.cell? ⟨b, 2, none⟩ = some (.pointer (some ⟨s, 0, none⟩)) ∧ w'.cell? ⟨C1, 0, none⟩ = some (.int .i64 p)) (by kernel_rfl) ⟨k2, k0⟩ (fun hHeld => ?_)
              clear k2 k0
              refine wpAnyH_takeD (i := 0) (v := ?_) (some 83) rfl (by rfl) (by kernel_rfl) (by kernel_rfl) (by kernel_rfl) (fun _ _ _ h => h) (Or.inl ⟨by rfl, ?_⟩) (by assumption) ?_
              rotate_left
              · intro w hSw
                try dsimp only at hSw
                go_simp
                try with_reducible rfl
              simp only [Act.put, List.setIfInBounds_toArray, List.set_cons_zero, List.set_cons_succ]
              refine wpAnyH_takeD (i := 1) (v := ?_) (some 84) rfl (by rfl) (by kernel_rfl) (by kernel_rfl) (by kernel_rfl) (fun _ _ _ h => h) (Or.inl ⟨by rfl, ?_⟩) (by assumption) ?_
              rotate_left
              · intro w hSw
                try dsimp only at hSw
                go_simp
                try with_reducible rfl
              simp only [Act.put, List.setIfInBounds_toArray, List.set_cons_zero, List.set_cons_succ]
              refine wpAnyH_takeD (i := 2) (v := ?_) (some 85) rfl (by rfl) (by kernel_rfl) (by kernel_rfl) (by kernel_rfl) (fun _ _ _ h => h) (Or.inl ⟨by rfl, ?_⟩) (by assumption) ?_
              rotate_left
              · intro w hSw
                try dsimp only at hSw
                go_simp
                try with_reducible rfl
              simp only [Act.put, List.setIfInBounds_toArray, List.set_cons_zero, List.set_cons_succ]
              refine wpAnyH_takeD (i := 3) (v := ?_) (some 86) rfl (by rfl) (by kernel_rfl) (by kernel_rfl) (by kernel_rfl) (fun _ _ _ h => h) (Or.inl ⟨by rfl, ?_⟩) (by assumption) ?_
              rotate_left
              · intro w hSw
                try dsimp only at hSw
                go_simp
                try with_reducible rfl
              simp only [Act.put, List.setIfInBounds_toArray, List.set_cons_zero, List.set_cons_succ]
              refine wpAnyH_takeD (i := 4) (v := ?_) (some 87) rfl (by rfl) (by kernel_rfl) (by kernel_rfl) (by kernel_rfl) (fun _ _ _ h => h) (Or.inl ⟨by rfl, ?_⟩) (by assumption) ?_
              rotate_left
              · intro w hSw
                try dsimp only at hSw
                go_simp
                try with_reducible rfl
              simp only [Act.put, List.setIfInBounds_toArray, List.set_cons_zero, List.set_cons_succ]
              refine wpAnyH_takeD (i := 5) (v := ?_) (some 88) rfl (by rfl) (by kernel_rfl) (by kernel_rfl) (by kernel_rfl) (fun _ _ _ h => h) (Or.inl ⟨by rfl, ?_⟩) (by assumption) ?_
              rotate_left
              · intro w hSw
                try dsimp only at hSw
                go_simp
                try with_reducible rfl
              simp only [Act.put, List.setIfInBounds_toArray, List.set_cons_zero, List.set_cons_succ]
              refine wpAnyH_takeD (i := 6) (v := ?_) (some 89) rfl (by rfl) (by kernel_rfl) (by kernel_rfl) (by kernel_rfl) (fun _ _ _ h => h) (Or.inl ⟨by rfl, ?_⟩) (by assumption) ?_
              rotate_left
              · intro w hSw
                try dsimp only at hSw
                go_simp
                try with_reducible rfl
              simp only [Act.put, List.setIfInBounds_toArray, List.set_cons_zero, List.set_cons_succ]
              refine wpAnyH_takeD (i := 7) (v := ?_) (some 90) rfl (by rfl) (by kernel_rfl) (by kernel_rfl) (by kernel_rfl) (fun _ _ _ h => h) (Or.inl ⟨by rfl, ?_⟩) (by assumption) ?_
              rotate_left
              · intro w hSw
                try dsimp only at hSw
                go_simp
                try with_reducible rfl
              simp only [Act.put, List.setIfInBounds_toArray, List.set_cons_zero, List.set_cons_succ]
              refine wpAnyH_takeD (i := 8) (v := ?_) (some 91) rfl (by rfl) (by kernel_rfl) (by kernel_rfl) (by kernel_rfl) (fun _ _ _ h => h) (Or.inl ⟨by rfl, ?_⟩) (by assumption) ?_
              rotate_left
              · intro w hSw
                try dsimp only at hSw
                go_simp
                try with_reducible rfl
              simp only [Act.put, List.setIfInBounds_toArray, List.set_cons_zero, List.set_cons_succ]
              refine wpAnyH_takeD (i := 9) (v := ?_) (some 92) rfl (by rfl) (by kernel_rfl) (by kernel_rfl) (by kernel_rfl) (fun _ _ _ h => h) (Or.inl ⟨by rfl, ?_⟩) (by assumption) ?_
              rotate_left
              · intro w hSw
                try dsimp only at hSw
                go_simp
                try with_reducible rfl
              simp only [Act.put, List.setIfInBounds_toArray, List.set_cons_zero, List.set_cons_succ]
              refine wpAnyH_ready (rs := [10]) (by kernel_rfl) (by simp) ?_
              refine AllReadyH.cons rfl (fun K hK => ?_) AllReadyH.nil
              go_simp
              refine (hcw).mono ?_
              rintro e w8 ⟨rfl, h8⟩
              have H8 : Hid (Sep No w w8 [cellsAt B1 (rawC q m la (.slice (some ⟨g, o, none⟩) i pc) (.slice za k zc)) 87, stAt b m la s hp t, slabR s (Slb.sW q wd (pg.take j) p (x + 1)), hpAt hp s, tabR t ⟨m, la, []⟩, cellsAt C1 A 98]) := Lib.hid h8
              have HX : w8.cell? ⟨b, 2, none⟩ = some (.pointer (some ⟨s, 0, none⟩)) ∧ w8.cell? ⟨C1, 0, none⟩ = some (.int .i64 p) := ⟨(h8.cell 1 rfl 2 rfl).1, (h8.cell 5 rfl 0 (by rw [← HA.out.1]; rfl)).1⟩
              clear hcw h8
              refine hK.out _ _ HX (fun _ => ?_)
              clear hK K hHeld
              have hHeld := HX
              clear HX
              try simp only [Act.put, List.setIfInBounds_toArray, List.set_cons_zero, List.set_cons_succ]
              refine wpAnyH_done (by kernel_rfl) ?_ _
              clear hHeld
              go_wp2_with fail
              go_roundw
              case rel => exact ⟨x + 1, by go_num, HK2.out.1, H8.out⟩
              case measure => have := HK2.out.2; simp [RowKit.intOf]; omega
            · obtain rfl : x = 64 := by omega
              rw [Slb.sW_all] at h
              have H8 : Hid (OfRel w B1 q m la (.slice (some ⟨g, o, none⟩) i pc) (.slice za k zc) b s hp t ⟨m, la, []⟩ (Slb.sL q wd (pg.take (j + 1))) wr) := by
                unfold OfRel
                rw [List.take_add_one, HP.out]
                exact Lib.hid (Sep.left (Ps := [_, _, _, _, _]) h)
              clear h hx hx64
              go_wp2_with fail
              go_roundw
              case rel => exact ⟨j + 1, by go_num, HK1.out.1, H8.out⟩
              case measure => have := HK1.out.2; simp [RowKit.intOf]; omega
        · obtain rfl : j = i := by omega
          have dI2 : decide ((j : Int) < (j : Int)) = false := ltF (by omega)
          have e1 : pg.take j = pg := List.take_of_length_le (by rw [HS.out.2.2.1]; exact Nat.le_refl _)
          have e2 := Slb.sL_all HS.out.1
          dsimp only at e2
          rw [e1, e2] at h
          have q1 := (h.cell 0 rfl 1 (v := .int .i64 m) rfl).1
          have q2 := (h.cell 0 rfl 2 (v := .int .u32 la) rfl).1
          have q4 := (h.cell 0 rfl 4 (v := .slice za k zc) rfl).1
          have k4 := h.cell 1 rfl 4 (v := .pointer (some ⟨t, 0, none⟩)) rfl
          obtain ⟨k4, f4⟩ := k4
          have hof := hof_call (HPZ.out.2.1.more h.mod) zc m la (by omega) (by rw [HS.out.2.2.2]; omega) HPZ.out.2.2
          rw [HS.out.2.2.2] at hof
          have H9 := Lib.hid h
          clear h hlt hj
          go_wp2_with fail
          refine hof.mono ?_
          rintro e w9 h9
          rcases h9 with ⟨⟨er, her, rfl⟩, hm9, hbad⟩ | ⟨rfl, h9, hall, hmm⟩
          · obtain rfl : er = 8 := by
              rcases her with ⟨_, h⟩ | ⟨h, _⟩
              · exact absurd ⟨HF.out.2.1, HF.out.2.2.1, HF.out.2.2.2.1⟩ h
              · exact h
            have hno : ¬ (∀ r ∈ zs, HTbl.rOk la r = true) := by
              rcases hbad (by rw [HS.out.2.2.2]; exact HF.out.2.2.2.2.2) with h | h
              · exact h
              · exact absurd ⟨HF.out.2.1, HF.out.2.2.1, HF.out.2.2.2.1⟩ h
            have h10 := H9.out.more hm9
            obtain ⟨k5, f5⟩ := h10.cell 1 rfl 4 (v := .pointer (some ⟨t, 0, none⟩)) rfl
            have h11 := h10.set 1 rfl 4 (.pointer none)
            have HM := Lib.hid (And.intro h11.mod hno)
            clear her hbad hm9 h10 h11 hno hof k4 f4
            go_wp2_with fail
            go_ret2
            exact .inl ⟨if_neg HM.out.2, rfl, HM.out.1⟩
          · have h10 := H9.out.join h9
            obtain ⟨tn, htn⟩ : ∃ x, wr.heap.size = x := ⟨_, rfl⟩
            rw [htn] at h10 ⊢
            obtain ⟨k5, f5⟩ := h10.cell 1 rfl 4 (v := .pointer (some ⟨t, 0, none⟩)) rfl
            have h11 := h10.set 1 rfl 4 (.pointer (some ⟨tn, 0, none⟩))
            have h12 : Sep No w (w9.setCell ⟨b, 4, none⟩ (.pointer (some ⟨tn, 0, none⟩))) [stAt b m la s hp tn, slabR s ⟨q, pg, wd⟩, hpAt hp s, tabR tn (HTbl.ofRaw m la zs)] := h11.reorder [1, 2, 3, 5] (by decide) rfl
            have h13 := st_shut h12
            have hau := staudit_any h13 0 rfl HS.out.2.1
            have HA2 := Lib.hid hall
            have HM := Lib.hid h13
            clear h9 h10 h11 h12 h13 hall hmm hof k4 f4 htn
            rcases stAudit_08 ⟨q, pg, wd⟩ (HTbl.ofRaw m la zs) with ha | ha
            · rw [ha] at hau
              have HE := Lib.hid ha
              clear ha
              go_wp2_with fail
              refine hau.mono ?_
              rintro e w10 ⟨rfl, h14⟩
              have H14 := Lib.hid h14
              clear hau h14
              go_wp2_with fail
              go_ret2
              exact .inr ⟨b, HA2.out, HE.out, rfl, H14.out⟩
            · rw [ha] at hau
              have HE := Lib.hid ha
              clear ha
              go_wp2_with fail
              refine hau.mono ?_
              rintro e w10 ⟨rfl, h14⟩
              have H14 := Lib.hid h14.mod
              clear hau h14
              go_wp2_with fail
              go_ret2
              exact .inl ⟨(if_pos HA2.out).trans HE.out, rfl, H14.out⟩
end Go.Proofs.YtmdnofojecncgaaGreatDoor
