/- The reference of layer 4 (loftref04): Alloc, walked. Conditions: the pages in memory are as said. -/
import Derived.Test.YtfmkiioahnphbaaDoorRef04H
import Derived.Deep.WholeRow
import Derived.Great.Walk
set_option linter.unusedVariables false
set_option linter.unusedSimpArgs false
set_option maxRecDepth 100000
namespace Go.Proofs.YtfmkiioahnphbaaDoor
open Go Go.RowKit

variable {F : Nat → Prop} {w0 w : World} {b : Nat} {q : Int} {L : List RPg}
theorem RPg.Ok.set {P : RPg} (h : P.Ok) (hl : P.lg = false) {k : Nat} (hk : k < P.slots) : ({ P with bits := Bt.set P.bits k } : RPg).Ok := by
  refine ⟨h.sm, fun e => absurd (hl.symm.trans e) (by decide), ?_⟩
  have g := h.good
  rw [ent_sm hl] at g
  have hk' : k < 62 / csz P.cls := by unfold slots at hk; rw [if_neg (by rw [hl]; decide)] at hk; exact hk
  have := good_set (n := (P.cls : Nat)) (N := P.bits) (k := k) (.inl g) (by rw [Int.toNat_natCast]; exact hk')
  rw [ent_sm (P := { P with bits := Bt.set P.bits k }) hl]
  exact this
/-- A new page. -/
def newP (n : Int) (f : Nat) : RPg := { n := f, many := Slb.pagesOf n, cls := if n ≤ 28 then clsOf n else 0, wds := n, lg := !decide (n ≤ 28), bits := 1 }
theorem newP_ok {z : Int} (h1 : 1 ≤ z) (h2 : z ≤ 4000) (f : Nat) : (newP z f).Ok := by
  by_cases h28 : z ≤ 28
  · have hl : (newP z f).lg = false := by unfold newP; rw [decide_eq_true h28]; rfl
    refine ⟨fun _ => if_pos h28, fun e => absurd (hl.symm.trans e) (by decide), ?_⟩
    rw [RPg.ent_sm hl]
    have e : (newP z f).cls = clsOf z := if_pos h28
    have hc := clsOf_lt z
    have hr := csz_range hc
    show (⟨1, ((newP z f).cls : Int), 1⟩ : Hd).Good
    rw [e]
    exact good_set (n := (clsOf z : Nat)) (N := 0) (k := 0) (.inr ⟨by omega, rfl⟩) (by rw [Int.toNat_natCast]; omega)
  · have hl : (newP z f).lg = true := by unfold newP; rw [decide_eq_false h28]; rfl
    refine ⟨fun e => absurd (hl.symm.trans e) (by decide), fun _ => rfl, ?_⟩
    rw [RPg.ent_lg hl]
    have e : (newP z f).many = ((z + 65) / 64).toNat := if_neg h28
    show (⟨2, ((newP z f).many : Int), z⟩ : Hd).Good
    rw [e]
    exact .inr ⟨rfl, by dsimp only; omega, h2, by dsimp only; omega⟩
theorem newP_place (z : Int) (f : Nat) : (newP z f).place 0 = 64 * f + 2 := by
  unfold RPg.place
  split
  · rfl
  · show 64 * f + 2 + 0 * _ = _
    omega
/-- What Alloc does. -/
inductive RAlloc (L : List RPg) (q n : Int) : List RPg → Int → Int → Prop
  | bad (h : n < 1 ∨ 4000 < n) : RAlloc L q n L 0 2
  | spot (h1 : 1 ≤ n) (h2 : n ≤ 28) (i k : Nat) (P : RPg) (hP : L[i]? = some P) (Y : SpotY L (clsOf n) i k) : RAlloc L q n (L.set i { P with bits := Bt.set P.bits k }) (P.place k : Nat) 0
  | quo (h1 : 1 ≤ n) (h2 : n ≤ 4000) (N : n ≤ 28 → SpotN L (clsOf n)) (hq : q < 64 * ((gr L : Int) + Slb.pagesOf n)) : RAlloc L q n L 0 3
  | page (h1 : 1 ≤ n) (h2 : n ≤ 4000) (N : n ≤ 28 → SpotN L (clsOf n)) (hq : 64 * ((gr L : Int) + Slb.pagesOf n) ≤ q) (f c : Nat) (hf : FreeR L f (Slb.pagesOf n) (-1)) (least : ∀ g, g < f → ¬ FreeR L g (Slb.pagesOf n) (-1))
      (hc : c ≤ L.length) (lo : ∀ (j : Nat) Q, j < c → L[j]? = some Q → Q.n < f) (hi : ∀ Q, L[c]? = some Q → ¬ Q.n < f) : RAlloc L q n (L.take c ++ newP n f :: L.drop c) ((64 * f + 2 : Nat) : Int) 0
theorem pos4 (L : List RPg) (f : Nat) : ∃ c, c ≤ L.length ∧ (∀ (j : Nat) Q, j < c → L[j]? = some Q → Q.n < f) ∧ ∀ Q, L[c]? = some Q → ¬ Q.n < f := by
  induction L with
  | nil => exact ⟨0, Nat.le_refl _, fun j Q hj => absurd hj (by omega), fun Q hQ => by simp at hQ⟩
  | cons P L ih =>
    by_cases hp : P.n < f
    · obtain ⟨c, h1, h2, h3⟩ := ih
      refine ⟨c + 1, by simp; omega, fun j Q hj hQ => ?_, fun Q hQ => h3 Q (by simpa using hQ)⟩
      cases j with
      | zero => simp at hQ; subst hQ; exact hp
      | succ j => exact h2 j Q (by omega) (by simpa using hQ)
    · exact ⟨0, by simp, fun j Q hj => absurd hj (by omega), fun Q hQ => by simp at hQ; subst hQ; exact hp⟩
theorem exec_load_mid {P : Program} {ev : Operand → Value} {op : Oper} {w : World} (ty : TypeId) (x : Operand) (ho : op.op = .load ty x)
    (b o : Nat) (hx : ev x = .pointer (some ⟨b, o, none⟩)) (cs : List Value) (d : TypeDesc) (hc : w.rangeAt b o cs)
    (hu : P.underlying ty = some d) (hd : d.isRow = true) (hi : (P.info? ty).map (·.size) = some cs.length) : (execOp ev op).run P w = .ok (.value (.agg cs.toArray)) w := by
  unfold execOp
  simp only [ho, hx, Instr.loadAt, Instr.sureAddr, Sem.run_bind, Sem.run_pure, Result.andThen_ok, run_loadVar_mid w b o ty cs d hc hu hd hi]

/-- A page that is built of five fields. -/
def pgC (f m c z : Int) (g : Bool) : Array Value := #[.int .i64 f, .int .i64 m, .int .i64 c, .int .i64 z, .bool g] ++ Array.replicate 31 (.bool false)
theorem build_pg (f m c z : Int) (g : Bool) (W : World) : (Instr.build 101 #[(0, .int .i64 f), (1, .int .i64 m), (2, .int .i64 c), (3, .int .i64 z), (4, .bool g)]).run Tryd.prog W = .ok (.agg (pgC f m c z g)) W := by kernel_rfl
theorem pgC_size (f m c z : Int) (g : Bool) : (pgC f m c z g).size = 36 := by simp [pgC]
theorem pgC_one (f m c z : Int) (g : Bool) : (pgC f m c z g).all (·.oneCell') = true := by kernel_rfl
theorem pgZ_size : pgZ.size = 36 := by kernel_rfl
structure BuiltPg (f m c z : Int) (g : Bool) (C : Array Value) : Prop where
  eq : C = pgC f m c z g
  size : C.size = 36
  one : C.all (·.oneCell') = true
theorem pgC_bit (f m c z : Int) (g : Bool) : (pgC f m c z g).setIfInBounds 5 (.bool true) = ([Value.int .i64 f, .int .i64 m, .int .i64 c, .int .i64 z, .bool g] ++ RPg.bitc 1).toArray := by kernel_rfl
theorem wpList_build_pg {ops : Array Oper} {rest : List Oper} {o : Oper} {a : Act} {w : World} {Q : Exit → Act → World → Prop} (hgd : o.guard = none) (x0 x1 x2 x3 x4 : Operand)
    (ho : o.op = .build 101 #[(0, x0), (1, x1), (2, x2), (3, x3), (4, x4)]) {f m c z : Int} {g : Bool} (h0 : a.eval x0 = .int .i64 f) (h1 : a.eval x1 = .int .i64 m) (h2 : a.eval x2 = .int .i64 c) (h3 : a.eval x3 = .int .i64 z) (h4 : a.eval x4 = .bool g)
    (h : ∀ C : Array Value, BuiltPg f m c z g C → wpList Tryd.prog ops Q rest (a.put o.dst (.agg C)) w) : wpList Tryd.prog ops Q (o :: rest) a w := by
  refine Great.wpList_runTo hgd o.dst rfl _ w ?_ (h _ ⟨rfl, pgC_size _ _ _ _ _, pgC_one _ _ _ _ _⟩)
  unfold execOp
  simp only [ho, List.map_toArray, List.map_cons, List.map_nil, h0, h1, h2, h3, h4]
  rw [Sem.run_bind, build_pg]
  rfl
theorem wpList_alloc_pg {ops : Array Oper} {rest : List Oper} {o : Oper} {a : Act} {w : World} {Q : Exit → Act → World → Prop} (hgd : o.guard = none) (ho : o.op = .alloc 101)
    (h : ∀ Z : Array Value, Hid (Z.size = 36) → wpList Tryd.prog ops Q rest (a.put o.dst (.pointer (some ⟨w.heap.size, 0, none⟩))) (w.alloc (.cells Z 101))) : wpList Tryd.prog ops Q (o :: rest) a w := by
  refine Great.wpList_runTo hgd o.dst rfl _ _ ?_ (h pgZ (Lib.hid pgZ_size))
  unfold execOp
  simp only [ho]
  unfold Instr.alloc
  simp only [Sem.run_bind, zeroPg4, Result.andThen_ok]
  rfl
theorem wpList_store_pg {ops : Array Oper} {rest : List Oper} {o : Oper} {a : Act} {w : World} {Q : Exit → Act → World → Prop} (hgd : o.guard = none) (x y : Operand) (ho : o.op = .store 101 x y) {C Z : Array Value} (hC : C.size = 36) (hZ : Z.size = 36) (h1 : C.all (·.oneCell') = true)
    {m : Nat} (hm : m = w.heap.size) (hx : a.eval x = .pointer (some ⟨m, 0, none⟩)) (hy : a.eval y = .agg C)
    (h : wpList Tryd.prog ops Q rest (a.put o.dst undef) (w.alloc (.cells C 101))) : wpList Tryd.prog ops Q (o :: rest) a (w.alloc (.cells Z 101)) := by
  subst hm
  refine wpList_plain hgd fun K hK => ?_
  have hrun : (execOp a.eval o).run Tryd.prog (w.alloc (.cells Z 101)) = .ok .skip (w.alloc (.cells C 101)) := by
    unfold execOp
    simp only [ho, hx, hy, Sem.run_bind]
    rw [run_storeAt_new w _ Z C (by rw [hC]; exact size36) (by rw [hC]; exact hZ) h1]
    rfl
  unfold Oper.wp
  rw [hrun, Oper.upon_skip]
  exact hK _ _ h


set_option maxRecDepth 100000 in
set_option maxHeartbeats 2000000 in
theorem ralloc4_call (h : Sep F w w [rheapR b q L]) (hF : Fit4 L) (hO : ∀ P ∈ L, P.Ok) (hg : gr L ≤ 100000) (q0 : 0 ≤ q) (q1 : q ≤ 4611686018427387904) (hex : ∀ m : Nat, 1 ≤ m → m ≤ 64 → ∃ f1, f1 < 1048576 ∧ FreeR L f1 m (-1)) (z : Int) :
    Calls Tryd.prog 31 #[.pointer (some ⟨b, 0, none⟩), .int .i64 z] w fun e w' =>
      ∃ (L' : List RPg) (x er : Int), RAlloc L q z L' x er ∧ e = .returned (.tuple #[.int .i64 x, .int .i64 er]) ∧ Sep F w w' [rheapR b q L'] := by
  have hof := rof_call z w
  by_cases hb : z < 1 ∨ 4000 < z
  · rw [cof_bad hb] at hof
    have H := Lib.hid h
    have HB := Lib.hid hb
    clear h hF hO hg q0 q1 hex hb
    go_enter Tryd.func31, Tryd.ntmps31
    go_wp2_with fail
    refine hof.mono ?_
    rintro e w1 ⟨rfl, hm⟩
    have HS : Hid (Sep F w w1 [rheapR b q L]) := H.out.more hm
    clear hof hm
    go_wp2
    go_ret2
    exact ⟨L, 0, 2, .bad HB.out, rfl, HS.out⟩
  · have h1 : 1 ≤ z := by omega
    have h2 : z ≤ 4000 := by omega
    obtain ⟨cc, hcc⟩ : ∃ cc : Nat, (if z ≤ 28 then clsOf z else 0) = cc := ⟨_, rfl⟩
    obtain ⟨mm, hmm⟩ : ∃ mm : Nat, Slb.pagesOf z = mm := ⟨_, rfl⟩
    have hm1 : 1 ≤ mm ∧ mm ≤ 63 := by
      rw [← hmm]; unfold Slb.pagesOf; split <;> omega
    have hcof : cof z = ((cc : Int), decide (z ≤ 28), 0) := by
      unfold cof
      rw [if_neg hb, ← hcc]
      split
      · rename_i h; rw [decide_eq_true h]
      · rename_i h; rw [decide_eq_false h]; rfl
    have hcpa : cpages z = ((mm : Int), 0) := by
      rw [← hmm]
      unfold cpages Slb.pagesOf
      rw [if_neg hb]
      split
      · rfl
      · rw [Int.toNat_of_nonneg (by omega)]
    rw [hcof] at hof
    obtain ⟨sm, hsm⟩ : ∃ sm, decide (z ≤ 28) = sm := ⟨_, rfl⟩
    rw [hsm] at hof
    have HK := Lib.hid (And.intro (And.intro h1 h2) (And.intro hcc (And.intro hmm hsm)))
    obtain ⟨sa, cap, h2⟩ := rh_open h
    have HF := Lib.hid (And.intro (And.intro hF hO) (And.intro hg hex))
    obtain ⟨n, hn⟩ : ∃ n, L.length = n := ⟨_, rfl⟩
    have HN := Lib.hid hn
    have H2 : Hid (Sep F w w [cellsAt b #[.int .i64 q, .slice sa n cap] 46, pgRow (.slice sa n cap) L]) := by rw [← hn]; exact h2
    have hl := hF.len
    rw [hn] at hl
    clear h h1 h2 hF hO hg hex hn hcc hmm hsm hcof hb
    go_enter Tryd.func31, Tryd.ntmps31
    go_wp2_with fail
    refine hof.mono ?_
    rintro e w1 ⟨rfl, hm⟩
    have hpa := rpages_call z w1
    rw [hcpa] at hpa
    have HM1 := Lib.hid hm
    clear hof hm hcpa
    go_wp2_with fail
    refine hpa.mono ?_
    rintro e w2 ⟨rfl, hm⟩
    have h2 := (H2.out.more HM1.out).more hm
    clear hpa hm
    have hbw := lt_of_at (h2.block 0 rfl)
    have c1 := (h2.cell 0 rfl 1 (v := .slice sa n cap) rfl).1
    have hE : Sep F w (World.alloc w2 (.cells #[] 101)) [cellsAt b #[.int .i64 q, .slice sa n cap] 46, rowAt 101 36 (.slice sa n cap) n (p4row L), rowAt 101 36 (.slice (some ⟨(w2).heap.size, 0, none⟩) 0 0) 0 []] := by
      have hE := h2.pushEmpty 101 36
      unfold pgRow at hE
      rw [HN.out] at hE
      exact hE
    have hsrc := srcOf_row (hE.row 1 rfl) (p4row_one L)
    obtain ⟨i0, hi0, ⟨z0, hz0, hz3⟩, hz1, hz2⟩ := infoPg4
    go_wp2_with (at_builtin; refine wpList_append_src hE 2 rfl (by rfl) _ _ 44 rfl Tryd.underlying44 hi0 hz0 hz1 hz2 hz3 (by decide) (by rfl) _ (by rfl) hsrc (by unfold maxLen; omega) (by omega) ?_)
    intro so co w3 h3
    have h4 : Sep F w w3 [cellsAt b #[.int .i64 q, .slice sa n cap] 46, pgRow (.slice sa n cap) L, pgRow (.slice so n co) L] := by
      unfold pgRow
      rw [HN.out]
      try rw [Nat.zero_add, List.nil_append] at h3
      exact h3
    try rw [Nat.zero_add]
    have q3 := h4.cell 0 rfl 1 (v := .slice sa n cap) rfl
    have q1 := q3.1
    have q2 := q3.2
    have h5 := rh_store h4
    clear hE hsrc h2 h3 h4 q3 hi0 hz0 hz1 hz2 hz3 c1
    obtain ⟨W1, hW1⟩ : ∃ W1, w3.setCell ⟨b, 1, none⟩ (.slice so n co) = W1 := ⟨_, rfl⟩
    rw [hW1] at h5
    have H5 := Lib.hid h5
    have hldH := Lib.hid (hld4 h5 0 rfl)
    cases sm with
    | true =>
      have hz : z ≤ 28 := of_decide_eq_true HK.out.2.2.2
      have hcz : cc = clsOf z := by rw [← HK.out.2.1, if_pos hz]
      have hsp := rspot_call h5 1 q rfl HF.out.1.1 HF.out.1.2 cc (by rw [hcz]; exact clsOf_lt z)
      have HZ := Lib.hid (And.intro hz hcz)
      clear h5 hz hcz
      go_wp2_with (first | (refine wpList_load_mid_g (by rfl) 46 _ (by rfl) b 0 (by rfl) [.int .i64 q, .slice so n co] _ hldH.out Tryd.underlying46 rfl h4_size ?_))
      refine hsp.mono ?_
      rintro e w4 ⟨hcs, hm4⟩
      have hS := H5.out.more hm4
      have HS := Lib.hid hS
      clear hsp hm4 hldH H5 hW1
      rcases hcs with ⟨i, k, rfl, hY⟩ | ⟨rfl, hNo⟩
      · have HY := Lib.hid hY
        obtain ⟨P, hP, hlg, hcls, hk, _⟩ := hY
        have hPO := HF.out.1.2 P (List.mem_of_getElem? hP)
        have hsl := hPO.slots_le
        have hil := (List.getElem?_eq_some_iff.1 hP).1
        rw [HN.out] at hil
        have hPn := (HF.out.1.1.pg P (List.mem_of_getElem? hP)).1
        have hi0 : decide (0 ≤ (i : Int)) = true := leT (by omega)
        have h4' : Sep F w w4 [cellsAt b #[.int .i64 q, .slice so n co] 46, pgRow (.slice so L.length co) L] := by rw [HN.out]; exact hS
        obtain ⟨g, rfl, _, hgs, hA, hfz⟩ := p4at h4' 1 rfl hP
        have hfr := hfz (i * 36 + 5 + k)
        have cb := hA.cb k (by omega)
        have c1 := (hS.cell 0 rfl 1 (v := .slice (some ⟨g, 0, none⟩) n co) rfl).1
        have hk31 : (k : Int) < 31 := by omega
        have hii : (i : Int) < (n : Int) := by omega
        have hN' : ∀ j, (Bt.set P.bits (k : Int)).testBit j = if j = k then true else P.bits.testBit j := fun j => by
          rw [Bt.set_testBit k (by omega) j]
          by_cases e : j = k
          · subst e; simp
          · simp [e]
        obtain ⟨P', hP'⟩ : ∃ P', ({ P with bits := Bt.set P.bits (k : Int) } : RPg) = P' := ⟨_, rfl⟩
        have h6 : Sep F w (w4.setCell ⟨g, i * 36 + 5 + k, none⟩ (.bool true)) [cellsAt b #[.int .i64 q, .slice (some ⟨g, 0, none⟩) n co] 46, pgRow (.slice (some ⟨g, 0, none⟩) n co) (L.set i P')] := by
          have h5 := hS
          unfold pgRow at h5
          rw [HN.out] at h5
          have h6 := h5.setItem 1 rfl (i * 36 + (5 + k)) (.bool true)
          unfold pgRow
          rw [← hP', List.length_set, p4row_bit hP (by omega) hN', HN.out]
          rw [← Nat.add_assoc] at h6 ⊢
          exact h6
        obtain ⟨W2, hW2⟩ : ∃ W2, w4.setCell ⟨g, i * 36 + 5 + k, none⟩ (.bool true) = W2 := ⟨_, rfl⟩
        rw [hW2] at h6
        have hPi : (L.set i P')[i]? = some P' := by rw [List.getElem?_set_self (by rw [HN.out]; exact hil)]
        have h6' : Sep F w W2 [cellsAt b #[.int .i64 q, .slice (some ⟨g, 0, none⟩) n co] 46, pgRow (.slice (some ⟨g, 0, none⟩) (L.set i P').length co) (L.set i P')] := by rw [List.length_set, HN.out]; exact h6
        obtain ⟨g', hg', _, _, hA', _⟩ := p4at h6' 1 rfl hPi
        obtain rfl : g = g' := by
          simp only [Option.some.injEq, Addr.mk.injEq] at hg'
          exact hg'.1
        have d1 := (h6.cell 0 rfl 1 (v := .slice (some ⟨g, 0, none⟩) n co) rfl).1
        obtain ⟨C, hC⟩ : ∃ C, P'.cells.toArray = C := ⟨_, rfl⟩
        have HC := Lib.hid hC
        have hld : Hid (W2.rangeAt g (i * 36) P'.cells) := hA'.all
        have hok' : P'.Ok := by rw [← hP']; exact hPO.set hlg hk
        have hpl := rplace_call (P := P') (C := C) ⟨hC.symm⟩ hok' (by rw [← hP']; exact hPn) (k := k) (by rw [← hP']; exact hk) W2
        have epl : P'.place k = P.place k := by rw [← hP']; rfl
        rw [epl] at hpl
        have HS6 : Hid (Sep F w W2 [rheapR b q (L.set i P')]) := rh_shut h6
        have HP := Lib.hid (And.intro hP hP')
        clear hC hA hA' hg' h6 h6' hPi hN' h4' hS hfz hP hP' hlg hcls hk hPO hsl hPn hok' epl HS
        go_wp2_with (first | (refine wpList_load_mid_g (by rfl) 101 _ (by rfl) g (i * 36) (by rfl) P'.cells _ hld.out Tryd.underlying101 rfl (p4_size P') ?_; rw [HC.out]))
        refine hpl.mono ?_
        rintro e w10 ⟨rfl, hm10⟩
        have HS10 := Lib.hid (HS6.out.more hm10)
        clear hpl hm10 hld
        go_wp2
        go_ret2
        refine ⟨_, _, _, .spot HK.out.1.1 HZ.out.1 i k P HP.out.1 (by rw [← HZ.out.2]; exact HY.out), rfl, ?_⟩
        rw [HP.out.2]
        exact HS10.out
      · have HSN : Hid (z ≤ 28 → SpotN L (clsOf z)) := fun _ => by rw [← HZ.out.2]; exact hNo
        clear hNo
        go_wp2_with fail
        have c1 := (HS.out.cell 0 rfl 1 (v := .slice so n co) rfl).1
        have c0 := (HS.out.cell 0 rfl 0 (v := .int .i64 q) rfl).1
        obtain ⟨G, hG⟩ : ∃ G, gr L = G := ⟨_, rfl⟩
        have hGl : G ≤ 100000 := by rw [← hG]; exact HF.out.2.1
        have HG := Lib.hid hG
        have e1 : IntKind.i64.wrap ((G : Int) + (mm : Int)) = (G : Int) + (mm : Int) := by rw [IntKind.wrap_i64]; omega
        have e2 : IntKind.i64.wrap (64 * ((G : Int) + (mm : Int))) = 64 * ((G : Int) + (mm : Int)) := by rw [IntKind.wrap_i64]; omega
        clear hG
        refine wp_region_held_drew (S := fun w' => Sep F w w' [cellsAt b #[.int .i64 q, .slice so n co] 46, pgRow (.slice so n co) L] ∧ w'.cell? ⟨b, 1, none⟩ = some (.slice so n co) ∧ w'.cell? ⟨b, 0, none⟩ = some (.int .i64 q)) (by kernel_rfl) ⟨HS.out.drew, c1, c0⟩ (fun hHeld => ?_)
        refine wpAnyH_takeD (i := 0) (v := ?_) (some 66) rfl (by rfl) (by kernel_rfl) (by kernel_rfl) (by kernel_rfl) (fun _ _ _ h => h) (Or.inl ⟨by rfl, ?_⟩) (by assumption) ?_
        rotate_left
        · intro w hSw
          try dsimp only at hSw
          go_simp
          try with_reducible rfl
        simp only [Act.put, List.setIfInBounds_toArray, List.set_cons_zero, List.set_cons_succ]
        refine wpAnyH_takeD (i := 1) (v := ?_) (some 67) rfl (by rfl) (by kernel_rfl) (by kernel_rfl) (by kernel_rfl) (fun _ _ _ h => h) (Or.inl ⟨by rfl, ?_⟩) (by assumption) ?_
        rotate_left
        · intro w hSw
          try dsimp only at hSw
          go_simp
          try with_reducible rfl
        simp only [Act.put, List.setIfInBounds_toArray, List.set_cons_zero, List.set_cons_succ]
        refine wpAnyH_takeD (i := 2) (v := .agg [Value.int .i64 q, .slice so n co].toArray) (some 68) rfl (by rfl) (by kernel_rfl) (by kernel_rfl) (by kernel_rfl) (fun _ _ _ h => h) (Or.inl ⟨by rfl, fun wl hwl => exec_load_mid 46 _ rfl b 0 (by rfl) [Value.int .i64 q, .slice so n co] _ (hld4 hwl.1 0 rfl) Tryd.underlying46 rfl h4_size⟩) (by assumption) ?_
        simp only [Act.put, List.setIfInBounds_toArray, List.set_cons_zero, List.set_cons_succ]
        refine wpAnyH_takeD (i := 4) (v := ?_) (some 70) rfl (by rfl) (by kernel_rfl) (by kernel_rfl) (by kernel_rfl) (fun _ _ _ h => h) (Or.inl ⟨by rfl, ?_⟩) (by assumption) ?_
        rotate_left
        · intro w hSw
          try dsimp only at hSw
          go_simp
          try with_reducible rfl
        simp only [Act.put, List.setIfInBounds_toArray, List.set_cons_zero, List.set_cons_succ]
        refine wpAnyH_takeD (i := 7) (v := ?_) (some 73) rfl (by rfl) (by kernel_rfl) (by kernel_rfl) (by kernel_rfl) (fun _ _ _ h => h) (Or.inl ⟨by rfl, ?_⟩) (by assumption) ?_
        rotate_left
        · intro w hSw
          try dsimp only at hSw
          go_simp
          try with_reducible rfl
        simp only [Act.put, List.setIfInBounds_toArray, List.set_cons_zero, List.set_cons_succ]
        refine wpAnyH_takeD (i := 8) (v := ?_) (some 74) rfl (by rfl) (by kernel_rfl) (by kernel_rfl) (by kernel_rfl) (fun _ _ _ h => h) (Or.inl ⟨by rfl, ?_⟩) (by assumption) ?_
        rotate_left
        · intro w hSw
          try dsimp only at hSw
          go_simp
          try with_reducible rfl
        simp only [Act.put, List.setIfInBounds_toArray, List.set_cons_zero, List.set_cons_succ]
        refine wpAnyH_takeD (i := 9) (v := ?_) (some 75) rfl (by rfl) (by kernel_rfl) (by kernel_rfl) (by kernel_rfl) (fun _ _ _ h => h) (Or.inl ⟨by rfl, ?_⟩) (by assumption) ?_
        rotate_left
        · intro w hSw
          try dsimp only at hSw
          go_simp
          try with_reducible rfl
        simp only [Act.put, List.setIfInBounds_toArray, List.set_cons_zero, List.set_cons_succ]
        refine wpAnyH_takeD (i := 10) (v := ?_) (some 76) rfl (by rfl) (by kernel_rfl) (by kernel_rfl) (by kernel_rfl) (fun _ _ _ h => h) (Or.inl ⟨by rfl, ?_⟩) (by assumption) ?_
        rotate_left
        · intro w hSw
          try dsimp only at hSw
          go_simp
          try with_reducible rfl
        simp only [Act.put, List.setIfInBounds_toArray, List.set_cons_zero, List.set_cons_succ]
        refine wpAnyH_ready (rs := [3]) (by kernel_rfl) (by simp) ?_
        refine AllReadyH.cons rfl (fun K hK => ?_) AllReadyH.nil
        go_simp
        refine (rgranted_call hHeld.1 1 q rfl HF.out.2.1 HF.out.1.1.len).mono ?_
        rintro e w5 ⟨rfl, hm5⟩
        rw [HG.out]
        have hO : Sep F w w5 [cellsAt b #[.int .i64 q, .slice so n co] 46, pgRow (.slice so n co) L] ∧ w5.cell? ⟨b, 1, none⟩ = some (.slice so n co) ∧ w5.cell? ⟨b, 0, none⟩ = some (.int .i64 q) := ⟨hHeld.1.more hm5, hm5.cell hHeld.2.1 (fun x => x), hm5.cell hHeld.2.2 (fun x => x)⟩
        refine hK.out _ _ hO (fun _ => ?_)
        clear hK K hHeld hm5
        have hHeld := hO
        try simp only [Act.put, List.setIfInBounds_toArray, List.set_cons_zero, List.set_cons_succ]
        refine wpAnyH_takeD (i := 5) (v := ?_) (some 71) rfl (by rfl) (by kernel_rfl) (by kernel_rfl) (by kernel_rfl) (fun _ _ _ h => h) (Or.inl ⟨by rfl, ?_⟩) (by assumption) ?_
        rotate_left
        · intro w hSw
          try dsimp only at hSw
          go_simp
          try with_reducible rfl
        simp only [Act.put, List.setIfInBounds_toArray, List.set_cons_zero, List.set_cons_succ]
        refine wpAnyH_takeD (i := 6) (v := ?_) (some 72) rfl (by rfl) (by kernel_rfl) (by kernel_rfl) (by kernel_rfl) (fun _ _ _ h => h) (Or.inl ⟨by rfl, ?_⟩) (by assumption) ?_
        rotate_left
        · intro w hSw
          try dsimp only at hSw
          go_simp
          try with_reducible rfl
        simp only [Act.put, List.setIfInBounds_toArray, List.set_cons_zero, List.set_cons_succ]
        refine wpAnyH_takeD (i := 11) (v := ?_) (some 77) rfl (by rfl) (by kernel_rfl) (by kernel_rfl) (by kernel_rfl) (fun _ _ _ h => h) (Or.inl ⟨by rfl, ?_⟩) (by assumption) ?_
        rotate_left
        · intro w hSw
          try dsimp only at hSw
          go_simp
          try with_reducible rfl
        simp only [Act.put, List.setIfInBounds_toArray, List.set_cons_zero, List.set_cons_succ]
        refine wpAnyH_done (by kernel_rfl) ?_ _
        clear HS
        have HS := Lib.hid hO.1
        clear hHeld hO c1 c0 e1 e2
        have HX : Hid (decide (q < 64 * ((G : Int) + (mm : Int))) = decide (q < 64 * ((gr L : Int) + Slb.pagesOf z))) := by
          show _ = _
          rw [HG.out, HK.out.2.2.1]
        cases hq : decide (q < 64 * ((G : Int) + (mm : Int))) with
        | true =>
          go_wp2
          go_ret2
          exact ⟨L, 0, 3, .quo HK.out.1.1 HK.out.1.2 HSN.out (of_decide_eq_true (HX.out.symm.trans hq)), rfl, rh_shut HS.out⟩
        | false =>
          have HQ := Lib.hid hq
          clear hq
          have hldH := Lib.hid (hld4 HS.out 0 rfl)
          obtain ⟨f1, hf1, hfr⟩ := HF.out.2.2 mm (by omega) (by omega)
          have hlo := rlow_call HS.out 1 q rfl HF.out.1.1 mm (by omega) (-1) (f0 := f1) (by omega) hfr
          go_wp2_with (first | (refine wpList_load_mid_g (by rfl) 46 _ (by rfl) b 0 (by rfl) [.int .i64 q, .slice so n co] _ hldH.out Tryd.underlying46 rfl h4_size ?_))
          refine hlo.mono ?_
          rintro e w6 ⟨f, rfl, hf, hleast, hm6⟩
          have hff : f < 1048576 := by
            refine Nat.lt_of_le_of_lt (Nat.le_of_not_lt fun hlt => ?_) hf1
            exact hleast f1 hlt hfr
          have HS6 : Hid (Sep F w w6 [cellsAt b #[.int .i64 q, .slice so n co] 46, pgRow (.slice so n co) L]) := HS.out.more hm6
          have HL := Lib.hid (And.intro hf hleast)
          clear hlo hm6 hf hleast hldH hf1 hfr HS
          go_wp2_with (refine wpList_build_pg (by rfl) _ _ _ _ _ (by rfl) (by rfl) (by rfl) (by rfl) (by rfl) (by rfl) ?_)
          intro C hC
          go_wp2_with (refine wpList_alloc_pg (by rfl) (by rfl) ?_)
          intro Z hZ
          refine wpList_store_pg (by rfl) _ _ (by rfl) hC.size hZ.out hC.one rfl (by rfl) (by rfl) ?_
          have h7 := (rh_shut HS6.out).pushCells C 101
          obtain ⟨m, hm⟩ : ∃ m, w6.heap.size = m := ⟨_, rfl⟩
          obtain ⟨W7, hW7⟩ : ∃ W7, w6.alloc (.cells C 101) = W7 := ⟨_, rfl⟩
          rw [hm, hW7] at h7 ⊢
          have h7 : Sep F w W7 [rheapR b q L, cellsAt m C 101] := h7
          have c5 := h7.cell 1 rfl 5 (v := .bool false) (by rw [hC.eq]; simp [pgC])
          have c51 := c5.1
          have c52 := c5.2
          have h8 : Sep F w (W7.setCell ⟨m, 5, none⟩ (.bool true)) [rheapR b q L, cellsAt m (C.setIfInBounds 5 (.bool true)) 101] := h7.set 1 rfl 5 (.bool true)
          obtain ⟨P8, hP8⟩ : ∃ P8, newP z f = P8 := ⟨_, rfl⟩
          have e8 : C.setIfInBounds 5 (.bool true) = P8.cells.toArray := by
            rw [hC.eq, ← hP8, pgC_bit]
            unfold newP RPg.cells
            rw [HK.out.2.1, HK.out.2.2.1, HK.out.2.2.2]
            simp only [Bool.not_true, Bool.not_false]
          obtain ⟨C8, hC8⟩ : ∃ C8, P8.cells.toArray = C8 := ⟨_, rfl⟩
          obtain ⟨W8, hW8⟩ : ∃ W8, W7.setCell ⟨m, 5, none⟩ (.bool true) = W8 := ⟨_, rfl⟩
          rw [e8, hC8, hW8] at h8
          have hld : Hid (W8.rangeAt m 0 P8.cells) := fun jj u hu => (h8.cell 1 rfl (0 + jj) (v := u) (by rw [Nat.zero_add, ← hC8]; simpa using hu)).1
          have H8 := Lib.hid h8
          have HC8 := Lib.hid hC8
          have HP8 := Lib.hid hP8
          clear hW7 h7 c5 h8 e8 hC8 hP8 hm hC hZ HS6
          go_wp2_with (first | (refine wpList_load_mid_g (by rfl) 101 _ (by rfl) m 0 (by rfl) P8.cells _ hld.out Tryd.underlying101 rfl (p4_size P8) ?_; rw [HC8.out]))
          obtain ⟨c, hc, hclo, hchi⟩ := pos4 L f
          have hpn : P8.n = f := by rw [← HP8.out]; rfl
          have hput := liftC H8.out 0 (R' := rheapR b q (L.take c ++ P8 :: L.drop c)) rfl fun F hs => rput_call hs HF.out.1.1.len (P := P8) (C := C8) ⟨HC8.out.symm⟩ hc (by rw [hpn]; exact hclo) (by rw [hpn]; exact hchi)
          have HP := Lib.hid (And.intro hc (And.intro hclo hchi))
          clear hc hclo hchi hpn hld
          refine hput.mono ?_
          rintro e w9 ⟨rfl, h9⟩
          have h9 : Sep F w w9 [rheapR b q (L.take c ++ P8 :: L.drop c), cellsAt m C8 101] := h9
          have hld : Hid (w9.rangeAt m 0 P8.cells) := fun jj u hu => (h9.cell 1 rfl (0 + jj) (v := u) (by rw [Nat.zero_add, ← HC8.out]; simpa using hu)).1
          have HS9 : Hid (Sep F w w9 [rheapR b q (L.take c ++ P8 :: L.drop c)]) := h9.left (Qs := [cellsAt m C8 101])
          clear hput h9
          have hok : P8.Ok := by rw [← HP8.out]; exact newP_ok HK.out.1.1 HK.out.1.2 f
          have hpl := rplace_call (P := P8) (C := C8) ⟨HC8.out.symm⟩ hok (by rw [← HP8.out]; exact hff) (k := 0) hok.slots_le.1 w9
          have epl : P8.place 0 = 64 * f + 2 := by rw [← HP8.out]; exact newP_place z f
          rw [epl] at hpl
          clear hok epl
          go_wp2_with (first | (refine wpList_load_mid_g (by rfl) 101 _ (by rfl) m 0 (by rfl) P8.cells _ hld.out Tryd.underlying101 rfl (p4_size P8) ?_; rw [HC8.out]))
          refine hpl.mono ?_
          rintro e w10 ⟨rfl, hm10⟩
          have HS10 := Lib.hid (HS9.out.more hm10)
          clear hpl hm10 hld
          go_wp2
          go_ret2
          refine ⟨_, _, _, .page HK.out.1.1 HK.out.1.2 HSN.out (by have := of_decide_eq_false (HX.out.symm.trans HQ.out); omega) f c (by rw [HK.out.2.2.1]; exact HL.out.1) (by rw [HK.out.2.2.1]; exact HL.out.2) HP.out.1 HP.out.2.1 HP.out.2.2, rfl, ?_⟩
          rw [HP8.out]
          exact HS10.out
    | false =>
      have HS := Lib.hid h5
      have HSN : Hid (z ≤ 28 → SpotN L (clsOf z)) := fun h => absurd h (of_decide_eq_false HK.out.2.2.2)
      clear h5 hldH H5
      go_wp2_with fail
      try clear hW1
      have c1 := (HS.out.cell 0 rfl 1 (v := .slice so n co) rfl).1
      have c0 := (HS.out.cell 0 rfl 0 (v := .int .i64 q) rfl).1
      obtain ⟨G, hG⟩ : ∃ G, gr L = G := ⟨_, rfl⟩
      have hGl : G ≤ 100000 := by rw [← hG]; exact HF.out.2.1
      have HG := Lib.hid hG
      have e1 : IntKind.i64.wrap ((G : Int) + (mm : Int)) = (G : Int) + (mm : Int) := by rw [IntKind.wrap_i64]; omega
      have e2 : IntKind.i64.wrap (64 * ((G : Int) + (mm : Int))) = 64 * ((G : Int) + (mm : Int)) := by rw [IntKind.wrap_i64]; omega
      clear hG
      refine wp_region_held_drew (S := fun w' => Sep F w w' [cellsAt b #[.int .i64 q, .slice so n co] 46, pgRow (.slice so n co) L] ∧ w'.cell? ⟨b, 1, none⟩ = some (.slice so n co) ∧ w'.cell? ⟨b, 0, none⟩ = some (.int .i64 q)) (by kernel_rfl) ⟨HS.out.drew, c1, c0⟩ (fun hHeld => ?_)
      refine wpAnyH_takeD (i := 0) (v := ?_) (some 66) rfl (by rfl) (by kernel_rfl) (by kernel_rfl) (by kernel_rfl) (fun _ _ _ h => h) (Or.inl ⟨by rfl, ?_⟩) (by assumption) ?_
      rotate_left
      · intro w hSw
        try dsimp only at hSw
        go_simp
        try with_reducible rfl
      simp only [Act.put, List.setIfInBounds_toArray, List.set_cons_zero, List.set_cons_succ]
      refine wpAnyH_takeD (i := 1) (v := ?_) (some 67) rfl (by rfl) (by kernel_rfl) (by kernel_rfl) (by kernel_rfl) (fun _ _ _ h => h) (Or.inl ⟨by rfl, ?_⟩) (by assumption) ?_
      rotate_left
      · intro w hSw
        try dsimp only at hSw
        go_simp
        try with_reducible rfl
      simp only [Act.put, List.setIfInBounds_toArray, List.set_cons_zero, List.set_cons_succ]
      refine wpAnyH_takeD (i := 2) (v := .agg [Value.int .i64 q, .slice so n co].toArray) (some 68) rfl (by rfl) (by kernel_rfl) (by kernel_rfl) (by kernel_rfl) (fun _ _ _ h => h) (Or.inl ⟨by rfl, fun wl hwl => exec_load_mid 46 _ rfl b 0 (by rfl) [Value.int .i64 q, .slice so n co] _ (hld4 hwl.1 0 rfl) Tryd.underlying46 rfl h4_size⟩) (by assumption) ?_
      simp only [Act.put, List.setIfInBounds_toArray, List.set_cons_zero, List.set_cons_succ]
      refine wpAnyH_takeD (i := 4) (v := ?_) (some 70) rfl (by rfl) (by kernel_rfl) (by kernel_rfl) (by kernel_rfl) (fun _ _ _ h => h) (Or.inl ⟨by rfl, ?_⟩) (by assumption) ?_
      rotate_left
      · intro w hSw
        try dsimp only at hSw
        go_simp
        try with_reducible rfl
      simp only [Act.put, List.setIfInBounds_toArray, List.set_cons_zero, List.set_cons_succ]
      refine wpAnyH_takeD (i := 7) (v := ?_) (some 73) rfl (by rfl) (by kernel_rfl) (by kernel_rfl) (by kernel_rfl) (fun _ _ _ h => h) (Or.inl ⟨by rfl, ?_⟩) (by assumption) ?_
      rotate_left
      · intro w hSw
        try dsimp only at hSw
        go_simp
        try with_reducible rfl
      simp only [Act.put, List.setIfInBounds_toArray, List.set_cons_zero, List.set_cons_succ]
      refine wpAnyH_takeD (i := 8) (v := ?_) (some 74) rfl (by rfl) (by kernel_rfl) (by kernel_rfl) (by kernel_rfl) (fun _ _ _ h => h) (Or.inl ⟨by rfl, ?_⟩) (by assumption) ?_
      rotate_left
      · intro w hSw
        try dsimp only at hSw
        go_simp
        try with_reducible rfl
      simp only [Act.put, List.setIfInBounds_toArray, List.set_cons_zero, List.set_cons_succ]
      refine wpAnyH_takeD (i := 9) (v := ?_) (some 75) rfl (by rfl) (by kernel_rfl) (by kernel_rfl) (by kernel_rfl) (fun _ _ _ h => h) (Or.inl ⟨by rfl, ?_⟩) (by assumption) ?_
      rotate_left
      · intro w hSw
        try dsimp only at hSw
        go_simp
        try with_reducible rfl
      simp only [Act.put, List.setIfInBounds_toArray, List.set_cons_zero, List.set_cons_succ]
      refine wpAnyH_takeD (i := 10) (v := ?_) (some 76) rfl (by rfl) (by kernel_rfl) (by kernel_rfl) (by kernel_rfl) (fun _ _ _ h => h) (Or.inl ⟨by rfl, ?_⟩) (by assumption) ?_
      rotate_left
      · intro w hSw
        try dsimp only at hSw
        go_simp
        try with_reducible rfl
      simp only [Act.put, List.setIfInBounds_toArray, List.set_cons_zero, List.set_cons_succ]
      refine wpAnyH_ready (rs := [3]) (by kernel_rfl) (by simp) ?_
      refine AllReadyH.cons rfl (fun K hK => ?_) AllReadyH.nil
      go_simp
      refine (rgranted_call hHeld.1 1 q rfl HF.out.2.1 HF.out.1.1.len).mono ?_
      rintro e w5 ⟨rfl, hm5⟩
      rw [HG.out]
      have hO : Sep F w w5 [cellsAt b #[.int .i64 q, .slice so n co] 46, pgRow (.slice so n co) L] ∧ w5.cell? ⟨b, 1, none⟩ = some (.slice so n co) ∧ w5.cell? ⟨b, 0, none⟩ = some (.int .i64 q) := ⟨hHeld.1.more hm5, hm5.cell hHeld.2.1 (fun x => x), hm5.cell hHeld.2.2 (fun x => x)⟩
      refine hK.out _ _ hO (fun _ => ?_)
      clear hK K hHeld hm5
      have hHeld := hO
      try simp only [Act.put, List.setIfInBounds_toArray, List.set_cons_zero, List.set_cons_succ]
      refine wpAnyH_takeD (i := 5) (v := ?_) (some 71) rfl (by rfl) (by kernel_rfl) (by kernel_rfl) (by kernel_rfl) (fun _ _ _ h => h) (Or.inl ⟨by rfl, ?_⟩) (by assumption) ?_
      rotate_left
      · intro w hSw
        try dsimp only at hSw
        go_simp
        try with_reducible rfl
      simp only [Act.put, List.setIfInBounds_toArray, List.set_cons_zero, List.set_cons_succ]
      refine wpAnyH_takeD (i := 6) (v := ?_) (some 72) rfl (by rfl) (by kernel_rfl) (by kernel_rfl) (by kernel_rfl) (fun _ _ _ h => h) (Or.inl ⟨by rfl, ?_⟩) (by assumption) ?_
      rotate_left
      · intro w hSw
        try dsimp only at hSw
        go_simp
        try with_reducible rfl
      simp only [Act.put, List.setIfInBounds_toArray, List.set_cons_zero, List.set_cons_succ]
      refine wpAnyH_takeD (i := 11) (v := ?_) (some 77) rfl (by rfl) (by kernel_rfl) (by kernel_rfl) (by kernel_rfl) (fun _ _ _ h => h) (Or.inl ⟨by rfl, ?_⟩) (by assumption) ?_
      rotate_left
      · intro w hSw
        try dsimp only at hSw
        go_simp
        try with_reducible rfl
      simp only [Act.put, List.setIfInBounds_toArray, List.set_cons_zero, List.set_cons_succ]
      refine wpAnyH_done (by kernel_rfl) ?_ _
      clear HS
      have HS := Lib.hid hO.1
      clear hHeld hO c1 c0 e1 e2
      have HX : Hid (decide (q < 64 * ((G : Int) + (mm : Int))) = decide (q < 64 * ((gr L : Int) + Slb.pagesOf z))) := by
        show _ = _
        rw [HG.out, HK.out.2.2.1]
      cases hq : decide (q < 64 * ((G : Int) + (mm : Int))) with
      | true =>
        go_wp2
        go_ret2
        exact ⟨L, 0, 3, .quo HK.out.1.1 HK.out.1.2 HSN.out (of_decide_eq_true (HX.out.symm.trans hq)), rfl, rh_shut HS.out⟩
      | false =>
        have HQ := Lib.hid hq
        clear hq
        have hldH := Lib.hid (hld4 HS.out 0 rfl)
        obtain ⟨f1, hf1, hfr⟩ := HF.out.2.2 mm (by omega) (by omega)
        have hlo := rlow_call HS.out 1 q rfl HF.out.1.1 mm (by omega) (-1) (f0 := f1) (by omega) hfr
        go_wp2_with (first | (refine wpList_load_mid_g (by rfl) 46 _ (by rfl) b 0 (by rfl) [.int .i64 q, .slice so n co] _ hldH.out Tryd.underlying46 rfl h4_size ?_))
        refine hlo.mono ?_
        rintro e w6 ⟨f, rfl, hf, hleast, hm6⟩
        have hff : f < 1048576 := by
          refine Nat.lt_of_le_of_lt (Nat.le_of_not_lt fun hlt => ?_) hf1
          exact hleast f1 hlt hfr
        have HS6 : Hid (Sep F w w6 [cellsAt b #[.int .i64 q, .slice so n co] 46, pgRow (.slice so n co) L]) := HS.out.more hm6
        have HL := Lib.hid (And.intro hf hleast)
        clear hlo hm6 hf hleast hldH hf1 hfr HS
        go_wp2_with (refine wpList_build_pg (by rfl) _ _ _ _ _ (by rfl) (by rfl) (by rfl) (by rfl) (by rfl) (by rfl) ?_)
        intro C hC
        go_wp2_with (refine wpList_alloc_pg (by rfl) (by rfl) ?_)
        intro Z hZ
        refine wpList_store_pg (by rfl) _ _ (by rfl) hC.size hZ.out hC.one rfl (by rfl) (by rfl) ?_
        have h7 := (rh_shut HS6.out).pushCells C 101
        obtain ⟨m, hm⟩ : ∃ m, w6.heap.size = m := ⟨_, rfl⟩
        obtain ⟨W7, hW7⟩ : ∃ W7, w6.alloc (.cells C 101) = W7 := ⟨_, rfl⟩
        rw [hm, hW7] at h7 ⊢
        have h7 : Sep F w W7 [rheapR b q L, cellsAt m C 101] := h7
        have c5 := h7.cell 1 rfl 5 (v := .bool false) (by rw [hC.eq]; simp [pgC])
        have c51 := c5.1
        have c52 := c5.2
        have h8 : Sep F w (W7.setCell ⟨m, 5, none⟩ (.bool true)) [rheapR b q L, cellsAt m (C.setIfInBounds 5 (.bool true)) 101] := h7.set 1 rfl 5 (.bool true)
        obtain ⟨P8, hP8⟩ : ∃ P8, newP z f = P8 := ⟨_, rfl⟩
        have e8 : C.setIfInBounds 5 (.bool true) = P8.cells.toArray := by
          rw [hC.eq, ← hP8, pgC_bit]
          unfold newP RPg.cells
          rw [HK.out.2.1, HK.out.2.2.1, HK.out.2.2.2]
          simp only [Bool.not_true, Bool.not_false]
        obtain ⟨C8, hC8⟩ : ∃ C8, P8.cells.toArray = C8 := ⟨_, rfl⟩
        obtain ⟨W8, hW8⟩ : ∃ W8, W7.setCell ⟨m, 5, none⟩ (.bool true) = W8 := ⟨_, rfl⟩
        rw [e8, hC8, hW8] at h8
        have hld : Hid (W8.rangeAt m 0 P8.cells) := fun jj u hu => (h8.cell 1 rfl (0 + jj) (v := u) (by rw [Nat.zero_add, ← hC8]; simpa using hu)).1
        have H8 := Lib.hid h8
        have HC8 := Lib.hid hC8
        have HP8 := Lib.hid hP8
        clear hW7 h7 c5 h8 e8 hC8 hP8 hm hC hZ HS6
        go_wp2_with (first | (refine wpList_load_mid_g (by rfl) 101 _ (by rfl) m 0 (by rfl) P8.cells _ hld.out Tryd.underlying101 rfl (p4_size P8) ?_; rw [HC8.out]))
        obtain ⟨c, hc, hclo, hchi⟩ := pos4 L f
        have hpn : P8.n = f := by rw [← HP8.out]; rfl
        have hput := liftC H8.out 0 (R' := rheapR b q (L.take c ++ P8 :: L.drop c)) rfl fun F hs => rput_call hs HF.out.1.1.len (P := P8) (C := C8) ⟨HC8.out.symm⟩ hc (by rw [hpn]; exact hclo) (by rw [hpn]; exact hchi)
        have HP := Lib.hid (And.intro hc (And.intro hclo hchi))
        clear hc hclo hchi hpn hld
        refine hput.mono ?_
        rintro e w9 ⟨rfl, h9⟩
        have h9 : Sep F w w9 [rheapR b q (L.take c ++ P8 :: L.drop c), cellsAt m C8 101] := h9
        have hld : Hid (w9.rangeAt m 0 P8.cells) := fun jj u hu => (h9.cell 1 rfl (0 + jj) (v := u) (by rw [Nat.zero_add, ← HC8.out]; simpa using hu)).1
        have HS9 : Hid (Sep F w w9 [rheapR b q (L.take c ++ P8 :: L.drop c)]) := h9.left (Qs := [cellsAt m C8 101])
        clear hput h9
        have hok : P8.Ok := by rw [← HP8.out]; exact newP_ok HK.out.1.1 HK.out.1.2 f
        have hpl := rplace_call (P := P8) (C := C8) ⟨HC8.out.symm⟩ hok (by rw [← HP8.out]; exact hff) (k := 0) hok.slots_le.1 w9
        have epl : P8.place 0 = 64 * f + 2 := by rw [← HP8.out]; exact newP_place z f
        rw [epl] at hpl
        clear hok epl
        go_wp2_with (first | (refine wpList_load_mid_g (by rfl) 101 _ (by rfl) m 0 (by rfl) P8.cells _ hld.out Tryd.underlying101 rfl (p4_size P8) ?_; rw [HC8.out]))
        refine hpl.mono ?_
        rintro e w10 ⟨rfl, hm10⟩
        have HS10 := Lib.hid (HS9.out.more hm10)
        clear hpl hm10 hld
        go_wp2
        go_ret2
        refine ⟨_, _, _, .page HK.out.1.1 HK.out.1.2 HSN.out (by have := of_decide_eq_false (HX.out.symm.trans HQ.out); omega) f c (by rw [HK.out.2.2.1]; exact HL.out.1) (by rw [HK.out.2.2.1]; exact HL.out.2) HP.out.1 HP.out.2.1 HP.out.2.2, rfl, ?_⟩
        rw [HP8.out]
        exact HS10.out
end Go.Proofs.YtfmkiioahnphbaaDoor
