/- The reference of layer 4 (loftref04): Slide, walked. Conditions: the pages in memory are as said. -/
import Derived.Test.YtfmkiioahnphbaaDoorRef04I
set_option linter.unusedVariables false
set_option linter.unusedSimpArgs false
set_option maxRecDepth 100000
namespace Go.Proofs.YtfmkiioahnphbaaDoor
open Go Go.RowKit

variable {F : Nat → Prop} {w0 w : World} {b : Nat} {q : Int} {L : List RPg}
/-- What Slide does. -/
inductive RSlide (L : List RPg) (a : Int) : List RPg → Int → Int → Prop
  | none (N : FindN L a) : RSlide L a L 0 5
  | big (i k : Nat) (P : RPg) (Y : FindY L a i k) (hP : L[i]? = some P) (lg : P.lg = true) (f c : Nat) (hf : FreeR L f P.many (i : Nat)) (least : ∀ g, g < f → ¬ FreeR L g P.many (i : Nat)) (lt : f < P.n)
      (hc : c ≤ (L.eraseIdx i).length) (lo : ∀ (j : Nat) Q, j < c → (L.eraseIdx i)[j]? = some Q → Q.n < f) (hi : ∀ Q, (L.eraseIdx i)[c]? = some Q → ¬ Q.n < f) :
      RSlide L a ((L.eraseIdx i).take c ++ { P with n := f } :: (L.eraseIdx i).drop c) ((64 * f + 2 : Nat) : Int) 0
  | bigStay (i k : Nat) (P : RPg) (Y : FindY L a i k) (hP : L[i]? = some P) (lg : P.lg = true) (f : Nat) (hf : FreeR L f P.many (i : Nat)) (least : ∀ g, g < f → ¬ FreeR L g P.many (i : Nat)) (ge : ¬ f < P.n) : RSlide L a L a 0
  | smallStay (i k : Nat) (P : RPg) (Y : FindY L a i k) (hP : L[i]? = some P) (lg : P.lg = false) (why : SpotN L P.cls ∨ ∃ j m Q, SpotY L P.cls j m ∧ L[j]? = some Q ∧ a < (Q.place m : Nat)) : RSlide L a L a 0
  | small (i k : Nat) (P : RPg) (Y : FindY L a i k) (hP : L[i]? = some P) (lg : P.lg = false) (j m : Nat) (Q P1 : RPg) (S : SpotY L P.cls j m) (hQ : L[j]? = some Q) (le : ¬ a < (Q.place m : Nat))
      (hP1 : (L.set j { Q with bits := Bt.set Q.bits m })[i]? = some P1) : RSlide L a (leaveL (L.set j { Q with bits := Bt.set Q.bits m }) i P1 k) (Q.place m : Nat) 0
theorem Fit4.set {L : List RPg} (h : Fit4 L) {j : Nat} {Q Q' : RPg} (hQ : L[j]? = some Q) (h1 : Q'.n = Q.n) (h2 : Q'.many = Q.many) : Fit4 (L.set j Q') := by
  refine ⟨by rw [List.length_set]; exact h.len, fun P hP => ?_⟩
  rcases List.mem_or_eq_of_mem_set hP with hP | rfl
  · exact h.pg P hP
  · rw [h1, h2]; exact h.pg Q (List.mem_of_getElem? hQ)

theorem rh_shut3 {F : Nat → Prop} {w0 w : World} {b : Nat} {q : Int} {L : List RPg} {v : Value} {R : Res} (h : Sep F w0 w [cellsAt b #[.int .i64 q, v] 46, pgRow v L, R]) : Sep F w0 w [R, rheapR b q L] := by
  have h2 : Sep F w0 w [R, cellsAt b #[.int .i64 q, v] 46, pgRow v L] :=
    h.pick (fun i => if i = 0 then 2 else if i = 1 then 0 else 1) (fun i hi => by match i, hi with | 0, _ => rfl | 1, _ => rfl | 2, _ => rfl) (fun i k hi hk hik => by match i, k, hi, hk with | 0, 1, _, _ => decide | 0, 2, _, _ => decide | 1, 0, _, _ => decide | 1, 2, _, _ => decide | 2, 0, _, _ => decide | 2, 1, _, _ => decide | 0, 0, _, _ => exact absurd rfl hik | 1, 1, _, _ => exact absurd rfl hik | 2, 2, _, _ => exact absurd rfl hik)
  exact (h2.shutStar 1 2 (by decide) rfl rfl rfl).shutEx 1 (fun v => starR (cellsAt b #[.int .i64 q, v] 46) (pgRow v L)) v rfl
set_option maxRecDepth 100000 in
set_option maxHeartbeats 2000000 in
theorem rslide4_call (h : Sep F w w [rheapR b q L]) (hF : Fit4 L) (hO : ∀ P ∈ L, P.Ok) (a : Int) :
    Calls Tryd.prog 33 #[.pointer (some ⟨b, 0, none⟩), .int .i64 a] w fun e w' =>
      ∃ (L' : List RPg) (x er : Int), RSlide L a L' x er ∧ e = .returned (.tuple #[.int .i64 x, .int .i64 er]) ∧ Sep F w w' [rheapR b q L'] := by
  obtain ⟨sa, cap, h2⟩ := rh_open h
  have hldH := Lib.hid (hld4 h2 0 rfl)
  have hc := rfind_call h2 1 q rfl hF hO a
  have H2 := Lib.hid h2
  have HF := Lib.hid (And.intro hF hO)
  obtain ⟨n, hn⟩ : ∃ n, L.length = n := ⟨_, rfl⟩
  have hl := hF.len
  rw [hn] at hldH hc hl
  have HN := Lib.hid hn
  have H2 : Hid (Sep F w w [cellsAt b #[.int .i64 q, .slice sa n cap] 46, pgRow (.slice sa n cap) L]) := by rw [← hn]; exact h2
  clear h h2 hF hO hn
  go_enter Tryd.func33, Tryd.ntmps33
  go_wp2_with (first | (refine wpList_load_mid_g (by rfl) 46 _ (by rfl) b 0 (by rfl) [.int .i64 q, .slice sa n cap] _ hldH.out Tryd.underlying46 rfl h4_size ?_))
  refine hc.mono ?_
  rintro e w2 ⟨hcs, hm2⟩
  have HS : Hid (Sep F w w2 [cellsAt b #[.int .i64 q, .slice sa n cap] 46, pgRow (.slice sa n cap) L]) := H2.out.more hm2
  clear hc hm2 hldH H2
  rcases hcs with ⟨i, k, rfl, hY⟩ | ⟨rfl, hNo⟩
  · have HY := Lib.hid hY
    obtain ⟨P, hP, hks, _⟩ := hY
    have hPO := HF.out.2 P (List.mem_of_getElem? hP)
    have hPf := HF.out.1.pg P (List.mem_of_getElem? hP)
    have hil := (List.getElem?_eq_some_iff.1 hP).1
    rw [HN.out] at hil
    have hi0 : decide ((i : Int) < 0) = false := ltF (by omega)
    have hii : (i : Int) < (n : Int) := by omega
    have h4' : Sep F w w2 [cellsAt b #[.int .i64 q, .slice sa n cap] 46, pgRow (.slice sa L.length cap) L] := by rw [HN.out]; exact HS.out
    obtain ⟨g, rfl, _, hgs, hA, hfz⟩ := p4at h4' 1 rfl hP
    have c1 := (HS.out.cell 0 rfl 1 (v := .slice (some ⟨g, 0, none⟩) n cap) rfl).1
    have c0 := (HS.out.cell 0 rfl 0 (v := .int .i64 q) rfl).1
    have HA := Lib.hid hA
    have a4 := hA.c4
    have HP := Lib.hid (And.intro hP (And.intro hPO hPf))
    clear h4' hA hfz hks
    cases hlg : P.lg with
    | true =>
      rw [hlg] at a4
      have HLG := Lib.hid hlg
      have a0 := HA.out.c0
      obtain ⟨C, hC⟩ : ∃ C, P.cells.toArray = C := ⟨_, rfl⟩
      have HC := Lib.hid hC
      have hld : Hid (w2.rangeAt g (i * 36) P.cells) := HA.out.all
      have hCs : Hid (C.size = 36) := by rw [← hC]; show _ = _; simp [P.cells_len]
      have hC1 : Hid (C.all (·.oneCell') = true) := by
        rw [← hC]
        show _ = _
        rw [Array.all_eq_true_iff_forall_mem]
        intro u hu
        exact P.cells_one u (by simpa using hu)
      clear hlg hC hP hPO hPf
      go_wp2_with (first | (refine wpList_load_mid_g (by rfl) 101 _ (by rfl) g (i * 36) (by rfl) P.cells _ hld.out Tryd.underlying101 rfl (p4_size P) ?_; rw [HC.out]) | (refine wpList_alloc_pg (by rfl) (by rfl) ?_))
      intro Z hZ
      refine wpList_store_pg (by rfl) _ _ (by rfl) hCs.out hZ.out hC1.out rfl (by rfl) (by rfl) ?_
      have h3 := HS.out.pushCells C 101
      obtain ⟨m, hm⟩ : ∃ m, w2.heap.size = m := ⟨_, rfl⟩
      obtain ⟨W3, hW3⟩ : ∃ W3, w2.alloc (.cells C 101) = W3 := ⟨_, rfl⟩
      have hmm : Mod No w2 W3 := by rw [← hW3]; exact (Mod.refl No w2).alloc _
      rw [hm, hW3] at h3 ⊢
      have h3 : Sep F w W3 [cellsAt b #[.int .i64 q, .slice (some ⟨g, 0, none⟩) n cap] 46, pgRow (.slice (some ⟨g, 0, none⟩) n cap) L, cellsAt m C 101] := h3
      have H3 := Lib.hid h3
      have c1 := hmm.cell c1 (fun x => x)
      have a0 := hmm.cell a0 (fun x => x)
      have g1 : C[1]? = some (.int .i64 P.many) := by rw [← HC.out]; simp [RPg.cells]
      have g0 : C[0]? = some (.int .i64 P.n) := by rw [← HC.out]; simp [RPg.cells]
      have m1 := (h3.cell 2 rfl 1 g1).1
      have HG0 := Lib.hid g0
      have HG1 := Lib.hid g1
      clear h3 hm hld hZ hW3 hmm HS g0 g1 hCs hC1 a4 c0 HA
      go_wp2_with fail
      refine wp_region_held_drew (S := fun w' => Sep F w w' [cellsAt b #[.int .i64 q, .slice (some ⟨g, 0, none⟩) n cap] 46, pgRow (.slice (some ⟨g, 0, none⟩) n cap) L] ∧ w'.cell? ⟨m, 1, none⟩ = some (.int .i64 P.many)) (by kernel_rfl) ⟨H3.out.drew.left (Ps := [cellsAt b #[.int .i64 q, .slice (some ⟨g, 0, none⟩) n cap] 46, pgRow (.slice (some ⟨g, 0, none⟩) n cap) L]) (Qs := [cellsAt m C 101]), m1⟩ (fun hHeld => ?_)
      refine wpAnyH_takeD (i := 0) (v := ?_) (some 37) rfl (by rfl) (by kernel_rfl) (by kernel_rfl) (by kernel_rfl) (fun _ _ _ h => h) (Or.inl ⟨by rfl, ?_⟩) (by assumption) ?_
      rotate_left
      · intro w hSw
        try dsimp only at hSw
        go_simp
        try with_reducible rfl
      simp only [Act.put, List.setIfInBounds_toArray, List.set_cons_zero, List.set_cons_succ]
      refine wpAnyH_takeD (i := 1) (v := ?_) (some 38) rfl (by rfl) (by kernel_rfl) (by kernel_rfl) (by kernel_rfl) (fun _ _ _ h => h) (Or.inl ⟨by rfl, ?_⟩) (by assumption) ?_
      rotate_left
      · intro w hSw
        try dsimp only at hSw
        go_simp
        try with_reducible rfl
      simp only [Act.put, List.setIfInBounds_toArray, List.set_cons_zero, List.set_cons_succ]
      refine wpAnyH_takeD (i := 2) (v := .agg [Value.int .i64 q, .slice (some ⟨g, 0, none⟩) n cap].toArray) (some 39) rfl (by rfl) (by kernel_rfl) (by kernel_rfl) (by kernel_rfl) (fun _ _ _ h => h) (Or.inl ⟨by rfl, fun wl hwl => exec_load_mid 46 _ rfl b 0 (by rfl) [Value.int .i64 q, .slice (some ⟨g, 0, none⟩) n cap] _ (hld4 hwl.1 0 rfl) Tryd.underlying46 rfl h4_size⟩) (by assumption) ?_
      simp only [Act.put, List.setIfInBounds_toArray, List.set_cons_zero, List.set_cons_succ]
      refine wpAnyH_takeD (i := 3) (v := ?_) (some 40) rfl (by rfl) (by kernel_rfl) (by kernel_rfl) (by kernel_rfl) (fun _ _ _ h => h) (Or.inl ⟨by rfl, ?_⟩) (by assumption) ?_
      rotate_left
      · intro w hSw
        try dsimp only at hSw
        go_simp
        try with_reducible rfl
      simp only [Act.put, List.setIfInBounds_toArray, List.set_cons_zero, List.set_cons_succ]
      refine wpAnyH_takeD (i := 4) (v := ?_) (some 41) rfl (by rfl) (by kernel_rfl) (by kernel_rfl) (by kernel_rfl) (fun _ _ _ h => h) (Or.inl ⟨by rfl, ?_⟩) (by assumption) ?_
      rotate_left
      · intro w hSw
        try dsimp only at hSw
        go_simp
        try with_reducible rfl
      simp only [Act.put, List.setIfInBounds_toArray, List.set_cons_zero, List.set_cons_succ]
      refine wpAnyH_takeD (i := 5) (v := ?_) (some 42) rfl (by rfl) (by kernel_rfl) (by kernel_rfl) (by kernel_rfl) (fun _ _ _ h => h) (Or.inl ⟨by rfl, ?_⟩) (by assumption) ?_
      rotate_left
      · intro w hSw
        try dsimp only at hSw
        go_simp
        try with_reducible rfl
      simp only [Act.put, List.setIfInBounds_toArray, List.set_cons_zero, List.set_cons_succ]
      refine wpAnyH_ready (rs := [6]) (by kernel_rfl) (by simp) ?_
      refine AllReadyH.cons rfl (fun K hK => ?_) AllReadyH.nil
      go_simp
      refine (rlow_call hHeld.1 1 q rfl HF.out.1 P.many (by have := HP.out.2.2.2; omega) (i : Nat) (f0 := 1048676) (by omega) (fun t T hT _ => .inl (by have := HF.out.1.pg T (List.mem_of_getElem? hT); omega))).mono ?_
      rintro e w5 ⟨f, rfl, hf, hleast, hm5⟩
      have h5 := H3.out.drew.more hm5
      have hO : Sep F w w5 [cellsAt b #[.int .i64 q, .slice (some ⟨g, 0, none⟩) n cap] 46, pgRow (.slice (some ⟨g, 0, none⟩) n cap) L] ∧ w5.cell? ⟨m, 1, none⟩ = some (.int .i64 P.many) := ⟨hHeld.1.more hm5, hm5.cell hHeld.2 (fun x => x)⟩
      have HL := Lib.hid (And.intro hf hleast)
      refine hK.out _ _ hO (fun _ => ?_)
      clear hK K hHeld
      have hHeld := hO
      try simp only [Act.put, List.setIfInBounds_toArray, List.set_cons_zero, List.set_cons_succ]
      refine wpAnyH_takeD (i := 7) (v := ?_) (some 44) rfl (by rfl) (by kernel_rfl) (by kernel_rfl) (by kernel_rfl) (fun _ _ _ h => h) (Or.inl ⟨by rfl, ?_⟩) (by assumption) ?_
      rotate_left
      · intro w hSw
        try dsimp only at hSw
        go_simp
        try with_reducible rfl
      simp only [Act.put, List.setIfInBounds_toArray, List.set_cons_zero, List.set_cons_succ]
      have z0 := h5.cell 2 rfl 0 HG0.out
      have z1 := z0.1
      have z2 := z0.2
      have h6 : Sep F w (w5.setCell ⟨m, 0, none⟩ (.int .i64 (f : Nat))) [cellsAt b #[.int .i64 q, .slice (some ⟨g, 0, none⟩) n cap] 46, pgRow (.slice (some ⟨g, 0, none⟩) n cap) L, cellsAt m (C.setIfInBounds 0 (.int .i64 (f : Nat))) 101] := h5.set 2 rfl 0 _
      obtain ⟨P', hP'⟩ : ∃ P', ({ P with n := f } : RPg) = P' := ⟨_, rfl⟩
      have e8 : C.setIfInBounds 0 (.int .i64 (f : Nat)) = P'.cells.toArray := by
        rw [← HC.out, ← hP']
        simp [RPg.cells]
      obtain ⟨C8, hC8⟩ : ∃ C8, P'.cells.toArray = C8 := ⟨_, rfl⟩
      rw [e8, hC8] at h6
      have h6m := (h6.cell 2 rfl 1 (v := .int .i64 P.many) (by rw [← hC8, ← hP']; simp [RPg.cells])).1
      have HX := And.intro (h6.left (Ps := [cellsAt b #[.int .i64 q, .slice (some ⟨g, 0, none⟩) n cap] 46, pgRow (.slice (some ⟨g, 0, none⟩) n cap) L]) (Qs := [cellsAt m C8 101])) h6m
      have H6 := Lib.hid h6
      have h6f := (h6.cell 2 rfl 0 (v := .int .i64 (f : Nat)) (by rw [← hC8, ← hP']; simp [RPg.cells])).1
      refine wpAnyH_ready (rs := [8]) (by kernel_rfl) (by simp) ?_
      refine AllReadyH.cons rfl (fun K hK => ?_) AllReadyH.nil
      go_simp
      have hHeld := HX
      refine hK.out _ _ hHeld (fun _ => ?_)
      clear hK K
      refine wpAnyH_done (by kernel_rfl) ?_ _
      obtain ⟨W6, hW6⟩ : ∃ W6, w5.setCell ⟨m, 0, none⟩ (.int .i64 (f : Nat)) = W6 := ⟨_, rfl⟩
      rw [hW6] at h6f H6 ⊢
      have h6' : Sep F w W6 [cellsAt b #[.int .i64 q, .slice (some ⟨g, 0, none⟩) n cap] 46, pgRow (.slice (some ⟨g, 0, none⟩) L.length cap) L, cellsAt m C8 101] := by rw [HN.out]; exact H6.out
      obtain ⟨g', hg', _, _, hB, _⟩ := p4at h6' 1 rfl HP.out.1
      obtain rfl : g = g' := by
        simp only [Option.some.injEq, Addr.mk.injEq] at hg'
        exact hg'.1
      have n0 := hB.c0
      have b1 := (H6.out.cell 0 rfl 1 (v := .slice (some ⟨g, 0, none⟩) n cap) rfl).1
      have HP' := Lib.hid (And.intro hP' hC8)
      clear hHeld hO HX h6m z0 z1 z2 h6 e8 hW6 h6' hg' hB hf hleast hm5 h5 H3 hP' hC8 c1 m1 a0
      by_cases hfn : f < P.n
      · have dq : decide ((f : Int) < (P.n : Int)) = true := ltT (by omega)
        have dq2 : decide (f < P.n) = true := decide_eq_true hfn
        have HFN := Lib.hid hfn
        clear hfn
        go_wp2_with fail
        refine wp_region_quiet_lit (by kernel_rfl) (by kernel_rfl) ?_
        repeat (go_big_quiet_step (fail))
        refine wpQuiet_nil ?_
        intro wq hwq
        obtain ⟨nq, hwq⟩ := hwq
        have hq := Mod.of_drewN hwq
        clear hwq nq
        have H7 := Lib.hid (rh_shut3 (H6.out.more hq))
        clear hq
        have hd := liftC H7.out 1 (R' := rheapR b q (L.eraseIdx i)) rfl fun F hs => rdrop_call hs HF.out.1.len (k := i) (by rw [HN.out]; exact hil)
        go_wp2_with fail
        refine hd.mono ?_
        rintro e w8 ⟨⟨v, rfl⟩, h8⟩
        have h8 : Sep F w w8 [cellsAt m C8 101, rheapR b q (L.eraseIdx i)] := h8
        obtain ⟨c, hc, hclo, hchi⟩ := pos4 (L.eraseIdx i) f
        have hpn : P'.n = f := by rw [← HP'.out.1]
        have hle : (L.eraseIdx i).length ≤ 100000 := by
          have := List.length_eraseIdx_le L i
          rw [HN.out] at this
          omega
        have hld : Hid (w8.rangeAt m 0 P'.cells) := fun jj u hu => (h8.cell 0 rfl (0 + jj) (v := u) (by rw [Nat.zero_add, ← HP'.out.2]; simpa using hu)).1
        have hput := liftC h8 1 (R' := rheapR b q ((L.eraseIdx i).take c ++ P' :: (L.eraseIdx i).drop c)) rfl fun F hs => rput_call hs hle (P := P') (C := C8) ⟨HP'.out.2.symm⟩ hc (by rw [hpn]; exact hclo) (by rw [hpn]; exact hchi)
        have HC := Lib.hid (And.intro hc (And.intro hclo hchi))
        clear hd h8 hc hclo hchi hpn hle
        go_wp2_with (first | (refine wpList_load_mid_g (by rfl) 101 _ (by rfl) m 0 (by rfl) P'.cells _ hld.out Tryd.underlying101 rfl (p4_size P') ?_; rw [HP'.out.2]))
        refine hput.mono ?_
        rintro e w9 ⟨rfl, h9⟩
        have h9 : Sep F w w9 [cellsAt m C8 101, rheapR b q ((L.eraseIdx i).take c ++ P' :: (L.eraseIdx i).drop c)] := h9
        have hld : Hid (w9.rangeAt m 0 P'.cells) := fun jj u hu => (h9.cell 0 rfl (0 + jj) (v := u) (by rw [Nat.zero_add, ← HP'.out.2]; simpa using hu)).1
        have HS9 : Hid (Sep F w w9 [rheapR b q ((L.eraseIdx i).take c ++ P' :: (L.eraseIdx i).drop c)]) := h9.pick (fun _ => 1) (fun t ht => by match t, ht with | 0, _ => rfl) (fun t u ht hu htu => by match t, u, ht, hu with | 0, 0, _, _ => exact absurd rfl htu)
        clear hput h9
        have hok : P'.Ok := by
          rw [← HP'.out.1]
          have o := HP.out.2.1
          refine ⟨o.sm, o.lg, ?_⟩
          have g0 := o.good
          rw [RPg.ent_lg HLG.out] at g0
          rw [RPg.ent_lg (P := { P with n := f }) HLG.out]
          exact g0
        have hpl := rplace_call (P := P') (C := C8) ⟨HP'.out.2.symm⟩ hok (by rw [← HP'.out.1]; show f < _; have := HP.out.2.2.1; have := HFN.out; omega) (k := 0) hok.slots_le.1 w9
        have epl : P'.place 0 = 64 * f + 2 := by
          rw [← HP'.out.1]
          unfold RPg.place
          rw [if_pos HLG.out]
        rw [epl] at hpl
        clear hok epl
        go_wp2_with (first | (refine wpList_load_mid_g (by rfl) 101 _ (by rfl) m 0 (by rfl) P'.cells _ hld.out Tryd.underlying101 rfl (p4_size P') ?_; rw [HP'.out.2]))
        refine hpl.mono ?_
        rintro e w10 ⟨rfl, hm10⟩
        have HS10 := Lib.hid (HS9.out.more hm10)
        clear hpl hm10 hld
        go_wp2
        go_ret2
        refine ⟨_, _, _, .big i k P HY.out HP.out.1 HLG.out f c HL.out.1 HL.out.2 HFN.out HC.out.1 HC.out.2.1 HC.out.2.2, rfl, ?_⟩
        rw [HP'.out.1]
        exact HS10.out
      · have dq : decide ((f : Int) < (P.n : Int)) = false := ltF (by omega)
        have dq2 : decide (f < P.n) = false := decide_eq_false hfn
        have HFN := Lib.hid hfn
        clear hfn
        go_wp2_with fail
        refine wp_region_quiet_lit (by kernel_rfl) (by kernel_rfl) ?_
        repeat (go_big_quiet_step (fail))
        refine wpQuiet_nil ?_
        intro wq hwq
        obtain ⟨nq, hwq⟩ := hwq
        have hq := Mod.of_drewN hwq
        clear hwq nq
        have H7 : Hid (Sep F w wq [rheapR b q L]) := rh_shut ((H6.out.more hq).left (Ps := [cellsAt b #[.int .i64 q, .slice (some ⟨g, 0, none⟩) n cap] 46, pgRow (.slice (some ⟨g, 0, none⟩) n cap) L]) (Qs := [cellsAt m C8 101]))
        clear hq
        go_wp2
        go_ret2
        exact ⟨L, a, 0, .bigStay i k P HY.out HP.out.1 HLG.out f HL.out.1 HL.out.2 HFN.out, rfl, H7.out⟩
    | false =>
      rw [hlg] at a4
      have HLG := Lib.hid hlg
      have hc8 := (hPO.cls8 hlg).1
      have hsp := fun w' (h' : Sep F w w' [cellsAt b #[.int .i64 q, .slice (some ⟨g, 0, none⟩) n cap] 46, pgRow (.slice (some ⟨g, 0, none⟩) n cap) L]) => rspot_call h' 1 q rfl HF.out.1 HF.out.2 P.cls hc8
      have a2 := HA.out.c2
      clear hlg hP hPO hPf
      go_wp2_with fail
      refine wp_region_held_drew (S := fun w' => Sep F w w' [cellsAt b #[.int .i64 q, .slice (some ⟨g, 0, none⟩) n cap] 46, pgRow (.slice (some ⟨g, 0, none⟩) n cap) L] ∧ w'.cell? ⟨b, 1, none⟩ = some (.slice (some ⟨g, 0, none⟩) n cap) ∧ w'.cell? ⟨g, i * 36 + 2, none⟩ = some (.int .i64 P.cls)) (by kernel_rfl) ⟨HS.out.drew, c1, a2⟩ (fun hHeld => ?_)
      refine wpAnyH_takeD (i := 0) (v := ?_) (some 66) rfl (by rfl) (by kernel_rfl) (by kernel_rfl) (by kernel_rfl) (fun _ _ _ h => h) (Or.inl ⟨by rfl, ?_⟩) (by assumption) ?_
      rotate_left
      · intro w hSw
        try dsimp only at hSw
        go_simp
        try with_reducible rfl
      simp only [Act.put, List.setIfInBounds_toArray, List.set_cons_zero, List.set_cons_succ]
      refine wpAnyH_takeD (i := 1) (v := ?_) (some 67) rfl (by rfl) (by kernel_rfl) (by kernel_rfl) (by kernel_rfl) (fun _ _ _ h => h) (Or.inl ⟨by rfl, ?_⟩) (by assumption) ?_
      rotate_left
      · intro w hSw
        try dsimp only at hSw
        go_simp
        try with_reducible rfl
      simp only [Act.put, List.setIfInBounds_toArray, List.set_cons_zero, List.set_cons_succ]
      refine wpAnyH_takeD (i := 2) (v := .agg [Value.int .i64 q, .slice (some ⟨g, 0, none⟩) n cap].toArray) (some 68) rfl (by rfl) (by kernel_rfl) (by kernel_rfl) (by kernel_rfl) (fun _ _ _ h => h) (Or.inl ⟨by rfl, fun wl hwl => exec_load_mid 46 _ rfl b 0 (by rfl) [Value.int .i64 q, .slice (some ⟨g, 0, none⟩) n cap] _ (hld4 hwl.1 0 rfl) Tryd.underlying46 rfl h4_size⟩) (by assumption) ?_
      simp only [Act.put, List.setIfInBounds_toArray, List.set_cons_zero, List.set_cons_succ]
      refine wpAnyH_takeD (i := 3) (v := ?_) (some 69) rfl (by rfl) (by kernel_rfl) (by kernel_rfl) (by kernel_rfl) (fun _ _ _ h => h) (Or.inl ⟨by rfl, ?_⟩) (by assumption) ?_
      rotate_left
      · intro w hSw
        try dsimp only at hSw
        go_simp
        try with_reducible rfl
      simp only [Act.put, List.setIfInBounds_toArray, List.set_cons_zero, List.set_cons_succ]
      refine wpAnyH_takeD (i := 4) (v := ?_) (some 70) rfl (by rfl) (by kernel_rfl) (by kernel_rfl) (by kernel_rfl) (fun _ _ _ h => h) (Or.inl ⟨by rfl, ?_⟩) (by assumption) ?_
      rotate_left
      · intro w hSw
        try dsimp only at hSw
        go_simp
        try with_reducible rfl
      simp only [Act.put, List.setIfInBounds_toArray, List.set_cons_zero, List.set_cons_succ]
      refine wpAnyH_takeD (i := 5) (v := ?_) (some 71) rfl (by rfl) (by kernel_rfl) (by kernel_rfl) (by kernel_rfl) (fun _ _ _ h => h) (Or.inl ⟨by rfl, ?_⟩) (by assumption) ?_
      rotate_left
      · intro w hSw
        try dsimp only at hSw
        go_simp
        try with_reducible rfl
      simp only [Act.put, List.setIfInBounds_toArray, List.set_cons_zero, List.set_cons_succ]
      refine wpAnyH_takeD (i := 6) (v := ?_) (some 72) rfl (by rfl) (by kernel_rfl) (by kernel_rfl) (by kernel_rfl) (fun _ _ _ h => h) (Or.inl ⟨by rfl, ?_⟩) (by assumption) ?_
      rotate_left
      · intro w hSw
        try dsimp only at hSw
        go_simp
        try with_reducible rfl
      simp only [Act.put, List.setIfInBounds_toArray, List.set_cons_zero, List.set_cons_succ]
      refine wpAnyH_takeD (i := 7) (v := ?_) (some 73) rfl (by rfl) (by kernel_rfl) (by kernel_rfl) (by kernel_rfl) (fun _ _ _ h => h) (Or.inl ⟨by rfl, ?_⟩) (by assumption) ?_
      rotate_left
      · intro w hSw
        try dsimp only at hSw
        go_simp
        try with_reducible rfl
      simp only [Act.put, List.setIfInBounds_toArray, List.set_cons_zero, List.set_cons_succ]
      refine wpAnyH_takeD (i := 8) (v := ?_) (some 74) rfl (by rfl) (by kernel_rfl) (by kernel_rfl) (by kernel_rfl) (fun _ _ _ h => h) (Or.inl ⟨by rfl, ?_⟩) (by assumption) ?_
      rotate_left
      · intro w hSw
        try dsimp only at hSw
        go_simp
        try with_reducible rfl
      simp only [Act.put, List.setIfInBounds_toArray, List.set_cons_zero, List.set_cons_succ]
      refine wpAnyH_takeD (i := 9) (v := ?_) (some 75) rfl (by rfl) (by kernel_rfl) (by kernel_rfl) (by kernel_rfl) (fun _ _ _ h => h) (Or.inl ⟨by rfl, ?_⟩) (by assumption) ?_
      rotate_left
      · intro w hSw
        try dsimp only at hSw
        go_simp
        try with_reducible rfl
      simp only [Act.put, List.setIfInBounds_toArray, List.set_cons_zero, List.set_cons_succ]
      refine wpAnyH_takeD (i := 10) (v := ?_) (some 76) rfl (by rfl) (by kernel_rfl) (by kernel_rfl) (by kernel_rfl) (fun _ _ _ h => h) (Or.inl ⟨by rfl, ?_⟩) (by assumption) ?_
      rotate_left
      · intro w hSw
        try dsimp only at hSw
        go_simp
        try with_reducible rfl
      simp only [Act.put, List.setIfInBounds_toArray, List.set_cons_zero, List.set_cons_succ]
      refine wpAnyH_ready (rs := [11]) (by kernel_rfl) (by simp) ?_
      refine AllReadyH.cons rfl (fun K hK => ?_) AllReadyH.nil
      go_simp
      refine (hsp _ hHeld.1).mono ?_
      rintro e w5 ⟨hcs, hm5⟩
      have hO : Sep F w w5 [cellsAt b #[.int .i64 q, .slice (some ⟨g, 0, none⟩) n cap] 46, pgRow (.slice (some ⟨g, 0, none⟩) n cap) L] ∧ w5.cell? ⟨b, 1, none⟩ = some (.slice (some ⟨g, 0, none⟩) n cap) ∧ w5.cell? ⟨g, i * 36 + 2, none⟩ = some (.int .i64 P.cls) := ⟨hHeld.1.more hm5, hm5.cell hHeld.2.1 (fun x => x), hm5.cell hHeld.2.2 (fun x => x)⟩
      have HS5 := Lib.hid hO.1
      rcases hcs with ⟨j, m, rfl, hSY⟩ | ⟨rfl, hSN⟩
      · have HSY := Lib.hid hSY
        refine hK.out _ _ hO (fun _ => ?_)
        clear hK K hHeld
        have hHeld := hO
        try simp only [Act.put, List.setIfInBounds_toArray, List.set_cons_zero, List.set_cons_succ]
        refine wpAnyH_takeD (i := 12) (v := ?_) (some 65) rfl (by rfl) (by kernel_rfl) (by kernel_rfl) (by kernel_rfl) (fun _ _ _ h => h) (Or.inl ⟨by rfl, ?_⟩) (by assumption) ?_
        rotate_left
        · intro w hSw
          try dsimp only at hSw
          go_simp
          try with_reducible rfl
        simp only [Act.put, List.setIfInBounds_toArray, List.set_cons_zero, List.set_cons_succ]
        refine wpAnyH_takeD (i := 13) (v := ?_) (some 78) rfl (by rfl) (by kernel_rfl) (by kernel_rfl) (by kernel_rfl) (fun _ _ _ h => h) (Or.inl ⟨by rfl, ?_⟩) (by assumption) ?_
        rotate_left
        · intro w hSw
          try dsimp only at hSw
          go_simp
          try with_reducible rfl
        simp only [Act.put, List.setIfInBounds_toArray, List.set_cons_zero, List.set_cons_succ]
        refine wpAnyH_takeD (i := 14) (v := ?_) (some 79) rfl (by rfl) (by kernel_rfl) (by kernel_rfl) (by kernel_rfl) (fun _ _ _ h => h) (Or.inl ⟨by rfl, ?_⟩) (by assumption) ?_
        rotate_left
        · intro w hSw
          try dsimp only at hSw
          go_simp
          try with_reducible rfl
        simp only [Act.put, List.setIfInBounds_toArray, List.set_cons_zero, List.set_cons_succ]
        refine wpAnyH_takeD (i := 15) (v := ?_) (some 9) rfl (by rfl) (by kernel_rfl) (by kernel_rfl) (by kernel_rfl) (fun _ _ _ h => h) (Or.inl ⟨by rfl, ?_⟩) (by assumption) ?_
        rotate_left
        · intro w hSw
          try dsimp only at hSw
          go_simp
          try with_reducible rfl
        simp only [Act.put, List.setIfInBounds_toArray, List.set_cons_zero, List.set_cons_succ]
        refine wpAnyH_takeD (i := 16) (v := ?_) (some 10) rfl (by rfl) (by kernel_rfl) (by kernel_rfl) (by kernel_rfl) (fun _ _ _ h => h) (Or.inl ⟨by rfl, ?_⟩) (by assumption) ?_
        rotate_left
        · intro w hSw
          try dsimp only at hSw
          go_simp
          try with_reducible rfl
        simp only [Act.put, List.setIfInBounds_toArray, List.set_cons_zero, List.set_cons_succ]
        refine wpAnyH_done (by kernel_rfl) ?_ _
        have c1 := hO.2.1
        obtain ⟨Q, hQ, hQlg, hQcls, hm, hQm, _⟩ := hSY
        clear hO hHeld HS hm5
        have hQO := HF.out.2 Q (List.mem_of_getElem? hQ)
        have hQf := HF.out.1.pg Q (List.mem_of_getElem? hQ)
        have hjl := (List.getElem?_eq_some_iff.1 hQ).1
        rw [HN.out] at hjl
        have hj0 : decide ((j : Int) < 0) = false := ltF (by omega)
        have hjj : (j : Int) < (n : Int) := by omega
        have h5' : Sep F w w5 [cellsAt b #[.int .i64 q, .slice (some ⟨g, 0, none⟩) n cap] 46, pgRow (.slice (some ⟨g, 0, none⟩) L.length cap) L] := by rw [HN.out]; exact HS5.out
        obtain ⟨g', hg', _, _, hB, hfz⟩ := p4at h5' 1 rfl hQ
        obtain rfl : g = g' := by
          simp only [Option.some.injEq, Addr.mk.injEq] at hg'
          exact hg'.1
        obtain ⟨C, hC⟩ : ∃ C, Q.cells.toArray = C := ⟨_, rfl⟩
        have HC := Lib.hid hC
        have hld : Hid (w5.rangeAt g (j * 36) Q.cells) := hB.all
        have hpl := rplace_call (P := Q) (C := C) ⟨hC.symm⟩ hQO hQf.1 (k := m) hm w5
        obtain ⟨pl, hplv⟩ : ∃ pl, Q.place m = pl := ⟨_, rfl⟩
        have HPL := Lib.hid hplv
        rw [hplv] at hpl
        have HQ := Lib.hid (And.intro hQ (And.intro (And.intro hQlg hm) (And.intro hQO hQf)))
        clear hC hg' h5' hfz hB hQ hQlg hQcls hm hQm hQO hQf hplv
        go_wp2_with (first | (refine wpList_load_mid_g (by rfl) 101 _ (by rfl) g (j * 36) (by rfl) Q.cells _ hld.out Tryd.underlying101 rfl (p4_size Q) ?_; rw [HC.out]))
        refine hpl.mono ?_
        rintro e w6 ⟨rfl, hm6⟩
        have HS6 : Hid (Sep F w w6 [cellsAt b #[.int .i64 q, .slice (some ⟨g, 0, none⟩) n cap] 46, pgRow (.slice (some ⟨g, 0, none⟩) n cap) L]) := HS5.out.more hm6
        have c1 := hm6.cell c1 (fun x => x)
        clear hpl hm6 hld HS5
        cases hd : decide (a < (pl : Int)) with
        | true =>
          go_wp2
          go_ret2
          exact ⟨L, a, 0, .smallStay i k P HY.out HP.out.1 HLG.out (.inr ⟨j, m, Q, HSY.out, HQ.out.1, by rw [HPL.out]; exact of_decide_eq_true hd⟩), rfl, rh_shut HS6.out⟩
        | false =>
          have HD := Lib.hid hd
          have h2 := HS6.out
          have hkP := HY.out
          obtain ⟨P0, hP0, hkP, _⟩ := hkP
          rw [HP.out.1] at hP0
          cases hP0
          clear c1 a4 a2 c0 HS6 HA
          have hbw := lt_of_at (h2.block 0 rfl)
          have c1 := (h2.cell 0 rfl 1 (v := .slice (some ⟨g, 0, none⟩) n cap) rfl).1
          have hE : Sep F w (World.alloc w6 (.cells #[] 101)) [cellsAt b #[.int .i64 q, .slice (some ⟨g, 0, none⟩) n cap] 46, rowAt 101 36 (.slice (some ⟨g, 0, none⟩) n cap) n (p4row L), rowAt 101 36 (.slice (some ⟨(w6).heap.size, 0, none⟩) 0 0) 0 []] := by
            have hE := h2.pushEmpty 101 36
            unfold pgRow at hE
            rw [HN.out] at hE
            exact hE
          have hsrc := srcOf_row (hE.row 1 rfl) (p4row_one L)
          obtain ⟨i0, hi0, ⟨z0, hz0, hz3⟩, hz1, hz2⟩ := infoPg4
          go_wp2_with (at_builtin; refine wpList_append_src hE 2 rfl (by rfl) _ _ 44 rfl Tryd.underlying44 hi0 hz0 hz1 hz2 hz3 (by decide) (by rfl) _ (by rfl) hsrc (by unfold maxLen; omega) (by omega) ?_)
          intro so co w3 h3
          have h4 : Sep F w w3 [cellsAt b #[.int .i64 q, .slice (some ⟨g, 0, none⟩) n cap] 46, pgRow (.slice (some ⟨g, 0, none⟩) n cap) L, pgRow (.slice so n co) L] := by
            unfold pgRow
            rw [HN.out]
            try rw [Nat.zero_add, List.nil_append] at h3
            exact h3
          try rw [Nat.zero_add]
          have q3 := h4.cell 0 rfl 1 (v := .slice (some ⟨g, 0, none⟩) n cap) rfl
          have q1 := q3.1
          have q2 := q3.2
          have h5 := rh_store h4
          clear hE hsrc h2 h3 h4 q3 hi0 hz0 hz1 hz2 hz3 c1
          obtain ⟨W1, hW1⟩ : ∃ W1, w3.setCell ⟨b, 1, none⟩ (.slice so n co) = W1 := ⟨_, rfl⟩
          rw [hW1] at h5
          have h4' : Sep F w W1 [cellsAt b #[.int .i64 q, .slice so n co] 46, pgRow (.slice so L.length co) L] := by rw [HN.out]; exact h5
          obtain ⟨g2, rfl, _, hgs2, hA2, hfz2⟩ := p4at h4' 1 rfl HQ.out.1
          have hQsl := HQ.out.2.2.1.slots_le
          have hm := HQ.out.2.1.2
          have hfr := hfz2 (j * 36 + 5 + m)
          have cb := hA2.cb m (by omega)
          have c1 := (h5.cell 0 rfl 1 (v := .slice (some ⟨g2, 0, none⟩) n co) rfl).1
          have hk31 : (m : Int) < 31 := by omega
          have hN' : ∀ t, (Bt.set Q.bits (m : Int)).testBit t = if t = m then true else Q.bits.testBit t := fun t => by
            rw [Bt.set_testBit m (by omega) t]
            by_cases e : t = m
            · subst e; simp
            · simp [e]
          obtain ⟨Q', hQ'⟩ : ∃ Q', ({ Q with bits := Bt.set Q.bits (m : Int) } : RPg) = Q' := ⟨_, rfl⟩
          have h6 : Sep F w (W1.setCell ⟨g2, j * 36 + 5 + m, none⟩ (.bool true)) [cellsAt b #[.int .i64 q, .slice (some ⟨g2, 0, none⟩) n co] 46, pgRow (.slice (some ⟨g2, 0, none⟩) n co) (L.set j Q')] := by
            unfold pgRow at h5
            rw [HN.out] at h5
            have h6 := h5.setItem 1 rfl (j * 36 + (5 + m)) (.bool true)
            unfold pgRow
            rw [← hQ', List.length_set, p4row_bit HQ.out.1 (by omega) hN', HN.out]
            rw [← Nat.add_assoc] at h6 ⊢
            exact h6
          obtain ⟨W2, hW2⟩ : ∃ W2, W1.setCell ⟨g2, j * 36 + 5 + m, none⟩ (.bool true) = W2 := ⟨_, rfl⟩
          rw [hW2] at h6
          have hPi : (L.set j Q')[j]? = some Q' := by rw [List.getElem?_set_self (by rw [HN.out]; exact hjl)]
          have h6' : Sep F w W2 [cellsAt b #[.int .i64 q, .slice (some ⟨g2, 0, none⟩) n co] 46, pgRow (.slice (some ⟨g2, 0, none⟩) (L.set j Q').length co) (L.set j Q')] := by rw [List.length_set, HN.out]; exact h6
          obtain ⟨g', hg', _, _, hA', _⟩ := p4at h6' 1 rfl hPi
          obtain rfl : g2 = g' := by
            simp only [Option.some.injEq, Addr.mk.injEq] at hg'
            exact hg'.1
          have d1 := (h6.cell 0 rfl 1 (v := .slice (some ⟨g2, 0, none⟩) n co) rfl).1
          obtain ⟨C, hC⟩ : ∃ C, Q'.cells.toArray = C := ⟨_, rfl⟩
          have HC := Lib.hid hC
          have hld : Hid (W2.rangeAt g2 (j * 36) Q'.cells) := hA'.all
          have hok' : Q'.Ok := by rw [← hQ']; exact HQ.out.2.2.1.set HQ.out.2.1.1 hm
          have hpl := rplace_call (P := Q') (C := C) ⟨hC.symm⟩ hok' (by rw [← hQ']; exact HQ.out.2.2.2.1) (k := m) (by rw [← hQ']; exact hm) W2
          have epl : Q'.place m = Q.place m := by rw [← hQ']; rfl
          rw [epl, HPL.out] at hpl
          have HS6 : Hid (Sep F w W2 [rheapR b q (L.set j Q')]) := rh_shut h6
          have HQ' := Lib.hid hQ'
          have HO' : Hid (∀ P ∈ L.set j Q', P.Ok) := fun P hP => by
            rcases List.mem_or_eq_of_mem_set hP with hP | rfl
            · exact HF.out.2 P hP
            · exact hok'
          obtain ⟨P1, hP1⟩ : ∃ P1, (L.set j Q')[i]? = some P1 := ⟨_, List.getElem?_eq_getElem (by rw [List.length_set, HN.out]; exact hil)⟩
          have hk1 : k < P1.slots := by
            by_cases e : j = i
            · subst e
              rw [hPi] at hP1
              cases hP1
              have e2 := HQ.out.1
              rw [HP.out.1] at e2
              cases e2
              rw [← hQ']
              exact hkP
            · rw [List.getElem?_set_ne e, HP.out.1] at hP1
              cases hP1
              exact hkP
          have HP1 := Lib.hid (And.intro hP1 hk1)
          clear hC hA2 hA' hg' h6 h6' hPi hN' h4' hfz2 hQ' hP1 hk1 hQsl hm hok' epl h5 hkP
          go_wp2_with (first | (refine wpList_load_mid_g (by rfl) 101 _ (by rfl) g2 (j * 36) (by rfl) Q'.cells _ hld.out Tryd.underlying101 rfl (p4_size Q') ?_; rw [HC.out]))
          refine hpl.mono ?_
          rintro e w10 ⟨rfl, hm10⟩
          have HS10 := Lib.hid (HS6.out.more hm10)
          clear hpl hm10 hld
          have hlv := liftC HS10.out 0 (R' := rheapR b q (leaveL (L.set j Q') i P1 k)) rfl fun F hs => rleave2_call hs (HF.out.1.set HQ.out.1 (by rw [← HQ'.out]) (by rw [← HQ'.out])) HO'.out HP1.out.1 HP1.out.2
          go_wp2_with fail
          refine hlv.mono ?_
          rintro e w11 ⟨⟨v, rfl⟩, h11⟩
          have H11 : Hid (Sep F w w11 [rheapR b q (leaveL (L.set j Q') i P1 k)]) := h11
          clear hlv h11
          go_wp2
          go_ret2
          refine ⟨_, _, _, .small i k P HY.out HP.out.1 HLG.out j m Q P1 HSY.out HQ.out.1 (by rw [HPL.out]; exact of_decide_eq_false HD.out) (by rw [HQ'.out]; exact HP1.out.1), by rw [HPL.out]; rfl, ?_⟩
          rw [HQ'.out]
          exact H11.out
      · have HSN := Lib.hid hSN
        refine hK.out _ _ hO (fun _ => ?_)
        clear hK K hHeld
        have hHeld := hO
        try simp only [Act.put, List.setIfInBounds_toArray, List.set_cons_zero, List.set_cons_succ]
        refine wpAnyH_takeD (i := 12) (v := ?_) (some 65) rfl (by rfl) (by kernel_rfl) (by kernel_rfl) (by kernel_rfl) (fun _ _ _ h => h) (Or.inl ⟨by rfl, ?_⟩) (by assumption) ?_
        rotate_left
        · intro w hSw
          try dsimp only at hSw
          go_simp
          try with_reducible rfl
        simp only [Act.put, List.setIfInBounds_toArray, List.set_cons_zero, List.set_cons_succ]
        refine wpAnyH_takeD (i := 13) (v := ?_) (some 78) rfl (by rfl) (by kernel_rfl) (by kernel_rfl) (by kernel_rfl) (fun _ _ _ h => h) (Or.inl ⟨by rfl, ?_⟩) (by assumption) ?_
        rotate_left
        · intro w hSw
          try dsimp only at hSw
          go_simp
          try with_reducible rfl
        simp only [Act.put, List.setIfInBounds_toArray, List.set_cons_zero, List.set_cons_succ]
        refine wpAnyH_takeD (i := 14) (v := ?_) (some 79) rfl (by rfl) (by kernel_rfl) (by kernel_rfl) (by kernel_rfl) (fun _ _ _ h => h) (Or.inl ⟨by rfl, ?_⟩) (by assumption) ?_
        rotate_left
        · intro w hSw
          try dsimp only at hSw
          go_simp
          try with_reducible rfl
        simp only [Act.put, List.setIfInBounds_toArray, List.set_cons_zero, List.set_cons_succ]
        refine wpAnyH_takeD (i := 15) (v := ?_) (some 9) rfl (by rfl) (by kernel_rfl) (by kernel_rfl) (by kernel_rfl) (fun _ _ _ h => h) (Or.inl ⟨by rfl, ?_⟩) (by assumption) ?_
        rotate_left
        · intro w hSw
          try dsimp only at hSw
          go_simp
          try with_reducible rfl
        simp only [Act.put, List.setIfInBounds_toArray, List.set_cons_zero, List.set_cons_succ]
        refine wpAnyH_takeD (i := 16) (v := ?_) (some 10) rfl (by rfl) (by kernel_rfl) (by kernel_rfl) (by kernel_rfl) (fun _ _ _ h => h) (Or.inl ⟨by rfl, ?_⟩) (by assumption) ?_
        rotate_left
        · intro w hSw
          try dsimp only at hSw
          go_simp
          try with_reducible rfl
        simp only [Act.put, List.setIfInBounds_toArray, List.set_cons_zero, List.set_cons_succ]
        refine wpAnyH_done (by kernel_rfl) ?_ _
        have c1 := hO.2.1
        clear hO hHeld HS hm5 hSN
        go_wp2
        go_ret2
        exact ⟨L, a, 0, .smallStay i k P HY.out HP.out.1 HLG.out (.inl HSN.out), rfl, rh_shut HS5.out⟩
  · have HNo := Lib.hid hNo
    clear hNo
    go_wp2
    go_ret2
    exact ⟨L, 0, 5, .none HNo.out, rfl, rh_shut HS.out⟩
end Go.Proofs.YtfmkiioahnphbaaDoor
