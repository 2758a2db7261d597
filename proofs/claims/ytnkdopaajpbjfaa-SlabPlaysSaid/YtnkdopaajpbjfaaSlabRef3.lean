/- The reference of layer 1 (loftref01): Claim, walked. Conditions: the arena in memory is as said. -/
import Derived.Test.YtnkdopaajpbjfaaSlabRef2
namespace Go.Proofs.Ytnkdopaajpbjfaa
open Go Go.RowKit

/-- The reference's arena, in block b. -/
def rslabR (b : Nat) (S : Slb) : Res := exR fun v => starR (cellsAt b #[.int .i64 S.quota, v] 48) (rowAt 59 65 v S.pg.length (prow S.wd S.pg))

variable {F : Nat → Prop} {w0 w : World}

theorem rs_open {b : Nat} {S : Slb} (h : Sep F w0 w [rslabR b S]) : ∃ sa cap, Sep F w0 w [cellsAt b #[.int .i64 S.quota, .slice sa S.pg.length cap] 48, rowAt 59 65 (.slice sa S.pg.length cap) S.pg.length (prow S.wd S.pg)] := by
  obtain ⟨v, h⟩ := h.openEx 0 rfl
  have h : Sep F w0 w [cellsAt b #[.int .i64 S.quota, v] 48, rowAt 59 65 v S.pg.length (prow S.wd S.pg)] := h.openStar 0 rfl
  obtain ⟨sa, cap, rfl⟩ := h.form 1 rfl
  exact ⟨sa, cap, h⟩

theorem rs_shut {b : Nat} {S : Slb} {v : Value} (h : Sep F w0 w [cellsAt b #[.int .i64 S.quota, v] 48, rowAt 59 65 v S.pg.length (prow S.wd S.pg)]) : Sep F w0 w [rslabR b S] :=
  (h.shutStar 0 1 (by decide) rfl rfl rfl).shutEx 0 (fun v => starR (cellsAt b #[.int .i64 S.quota, v] 48) (rowAt 59 65 v S.pg.length (prow S.wd S.pg))) v rfl

/-- The store 's.L = out': the old pages go, the new ones stay. -/
theorem rs_store {b : Nat} {S S' : Slb} {v v' : Value} (hq : S'.quota = S.quota) (h : Sep F w0 w [cellsAt b #[.int .i64 S.quota, v] 48, rowAt 59 65 v S.pg.length (prow S.wd S.pg), rowAt 59 65 v' S'.pg.length (prow S'.wd S'.pg)]) :
    Sep F w0 (w.setCell ⟨b, 1, none⟩ v') [rslabR b S'] := by
  have h2 : Sep F w0 (w.setCell ⟨b, 1, none⟩ v') [cellsAt b #[.int .i64 S.quota, v'] 48, rowAt 59 65 v S.pg.length (prow S.wd S.pg), rowAt 59 65 v' S'.pg.length (prow S'.wd S'.pg)] := h.set 0 rfl 1 _
  have h3 : Sep F w0 (w.setCell ⟨b, 1, none⟩ v') [cellsAt b #[.int .i64 S'.quota, v'] 48, rowAt 59 65 v' S'.pg.length (prow S'.wd S'.pg)] := by
    rw [hq]
    exact h2.pick (fun i => if i = 0 then 0 else 2) (fun i hi => by match i, hi with | 0, _ => rfl | 1, _ => rfl) (fun i j hi hj hij => by match i, j, hi, hj with | 0, 1, _, _ => decide | 1, 0, _, _ => decide | 0, 0, _, _ => exact absurd rfl hij | 1, 1, _, _ => exact absurd rfl hij)
  exact rs_shut h3

theorem infoPage : ∃ i, Try.prog.info? 59 = some i ∧ (∃ z, i.zero = some z ∧ z.cells.size = 65) ∧ i.size = 65 ∧ i.bytes = 520 := by
  have h : ((Try.prog.info? 59).map fun i => ((i.zero.map fun z => z.cells.size), i.size, i.bytes)) = some (some 65, 65, 520) := by kernel_rfl
  cases hi : Try.prog.info? 59 with
  | none => rw [hi] at h; simp at h
  | some i =>
    rw [hi] at h
    simp only [Option.map_some, Option.some.injEq, Prod.mk.injEq] at h
    obtain ⟨h1, h2, h3⟩ := h
    cases hz : i.zero with
    | none => rw [hz] at h1; simp at h1
    | some z => exact ⟨i, rfl, ⟨z, hz, by rw [hz] at h1; simpa using h1⟩, h2, h3⟩

/-- A rising list, split at a number. -/
theorem sorted_split : ∀ {pg : List Nat}, pg.Pairwise (· < ·) → ∀ f : Nat, ∃ c, c ≤ pg.length ∧ pg.take c = pg.filter (fun k => decide (k < f)) ∧ pg.drop c = pg.filter (fun k => decide (f ≤ k)) ∧ ∀ j k, pg[j]? = some k → (k < f ↔ j < c)
  | [], _, f => ⟨0, by simp, by simp, by simp, by simp⟩
  | x :: pg, h, f => by
    obtain ⟨c, h1, h2, h3, h4⟩ := sorted_split (List.pairwise_cons.1 h).2 f
    by_cases hx : x < f
    · refine ⟨c + 1, by simp; omega, ?_, ?_, fun j k hk => ?_⟩
      · rw [List.take_succ_cons, h2, List.filter_cons_of_pos (by simpa using hx)]
      · rw [List.drop_succ_cons, h3, List.filter_cons_of_neg (by simp; omega)]
      · cases j with
        | zero => simp at hk; subst hk; constructor <;> intro _ <;> omega
        | succ j => rw [h4 j k (by simpa using hk)]; omega
    · have hall : ∀ k ∈ pg, ¬ k < f := fun k hk => by have := (List.pairwise_cons.1 h).1 k hk; omega
      refine ⟨0, by simp, ?_, ?_, fun j k hk => ?_⟩
      · rw [List.take_zero]; symm; rw [List.filter_eq_nil_iff]
        intro k hk
        rcases List.mem_cons.1 hk with rfl | hk
        · simpa using hx
        · simpa using hall k hk
      · rw [List.drop_zero]; symm; rw [List.filter_eq_self]
        intro k hk
        rcases List.mem_cons.1 hk with rfl | hk
        · simp; omega
        · have := hall k hk; simp; omega
      · have : ¬ k < f := by
          rcases List.mem_cons.1 (List.mem_of_getElem? hk) with rfl | hk
          · exact hx
          · exact hall k hk
        constructor <;> intro _ <;> omega

/-- A new page's cells. -/
def pcell0 (k : Nat) : List Value := .int .i64 k :: List.replicate 64 (.int .u64 0)
theorem pcell_zero {wd : Nat → Int} {k : Nat} (h : ∀ j, j < 64 → wd (64 * k + j) = 0) : pcell wd k = pcell0 k := by
  unfold pcell pcell0
  congr 1
  rw [List.map_congr_left (g := fun _ => Value.int .u64 0) (fun j hj => by rw [h j (List.mem_range.1 hj)])]
  rfl

theorem prow_more {S : Slb} (hS : S.Ok) {f n c : Nat} (hf : Slb.freeB S.pg f n = true) (hc : c ≤ S.pg.length) (h1 : S.pg.take c = S.pg.filter (fun k => decide (k < f))) (h2 : S.pg.drop c = S.pg.filter (fun k => decide (f ≤ k))) :
    prow S.wd (Slb.more S.pg f n) = (prow S.wd S.pg).take (c * 65) ++ ((List.range n).map (f + ·)).flatMap pcell0 ++ (prow S.wd S.pg).drop (c * 65) := by
  have e : S.pg.filter (fun k => decide (f + n ≤ k)) = S.pg.filter (fun k => decide (f ≤ k)) := by
    apply List.filter_congr
    intro k hk
    rcases Slb.freeB_iff.1 hf k hk with h | h
    · rw [decide_eq_false (by omega), decide_eq_false (by omega)]
    · rw [decide_eq_true (by omega), decide_eq_true (by omega)]
  unfold Slb.more prow
  rw [e, ← h1, ← h2, List.flatMap_append, List.flatMap_append, flat_take (pcell_len _) _ _ hc, flat_drop (pcell_len _) _ _ hc]
  congr 2
  simp only [List.flatMap_map]
  have : ∀ i ∈ List.range n, pcell S.wd (f + i) = pcell0 (f + i) := fun i hi => pcell_zero fun j hj => by
    have := List.mem_range.1 hi
    refine hS.zero _ fun hin => ?_
    rcases Slb.freeB_iff.1 hf _ hin with h | h <;> omega
  rw [List.flatMap_def, List.flatMap_def, List.map_congr_left this]

section
variable {Ps : List Res} {F0 : Nat → Prop} {P : Program}
theorem wpList_append_sepC {ops : Array Oper} {rest : List Oper} {o : Oper} {a : Act} {Q : Exit → Act → World → Prop} (h : Sep F0 w0 w Ps) (j : Nat) {e size : Nat} {v : Value} {n : Nat} {xs : List Value}
    (hj : Ps[j]? = some (rowAt e size v n xs)) (hgd : o.guard = none) (s x : Operand) (t : TypeId) (ho : o.op = .call { callee := .builtin .append, args := #[s, x], argTypes := #[t, t] })
    {i : TypeInfo} {z : Value} {bytes : Nat} (ht : P.underlying t = some (.slice e)) (hi : P.info? e = some i) (hz : i.zero = some z)
    (hsize : i.size = size) (hby : i.bytes = bytes) (hzs : z.cells.size = size) (hsz : 0 < size)
    (hs : a.eval s = v) (news : List Value) (m : Nat) (hx : a.eval x = .slice (some ⟨m, 0, none⟩) 1 1) (hm : m = w.heap.size) (hl : news.length = size) (h1 : ∀ u ∈ news, u.oneCell' = true) (T : TypeId) (C : Array Value) (hC : C = news.toArray)
    (h63 : n + 1 ≤ maxLen) (hbytes : (n + 1) * bytes ≤ 140737488355328)
    (k : ∀ g cap w', Sep F0 w0 w' (Ps.set j (rowAt e size (.slice (some ⟨g, 0, none⟩) (n + 1) cap) (n + 1) (xs ++ news))) →
      wpList P ops Q rest (a.put o.dst (.slice (some ⟨g, 0, none⟩) (n + 1) cap)) w') : wpList P ops Q (o :: rest) a (w.alloc (.cells C T)) := by
  subst hC
  exact wpList_append_sep h j hj hgd s x t ho ht hi hz hsize hby hzs hsz hs news m hx hm hl h1 T h63 hbytes k
end

theorem pcell0_len (k : Nat) : (pcell0 k).length = 65 := rfl
theorem pcell0_one (k : Nat) : ∀ u ∈ pcell0 k, u.oneCell' = true := by
  intro u hu
  rcases List.mem_cons.1 hu with rfl | hu
  · rfl
  · rw [(List.mem_replicate.1 hu).2]; rfl

theorem row_cap {e size n cap : Nat} {sa : Option Addr} {xs : List Value} (hr : w.ownsRow 0 e size (.slice sa n cap) n xs) : n ≤ cap := by
  rcases hr.2 with ⟨hv, hn⟩ | ⟨g, cap', cur, hv, _, _, h1, _⟩
  · omega
  · simp only [Value.slice.injEq] at hv
    obtain ⟨_, _, rfl⟩ := hv
    first | exact h1 | omega
theorem row_addr {e size n cap : Nat} {sa : Option Addr} {xs : List Value} (hr : w.ownsRow 0 e size (.slice sa n cap) n xs) : (sa = none ∧ n = 0 ∧ cap = 0) ∨ ∃ g, sa = some ⟨g, 0, none⟩ := by
  rcases hr.2 with ⟨hv, hn⟩ | ⟨g, cap', cur, hv, _⟩
  · simp only [Value.slice.injEq] at hv
    exact .inl ⟨hv.1, hn, hv.2.2⟩
  · simp only [Value.slice.injEq] at hv
    exact .inr ⟨g, hv.1⟩
theorem srcOf_head {e size g n cap : Nat} {xs : List Value} (hr : w.ownsRow 0 e size (.slice (some ⟨g, 0, none⟩) n cap) n xs) (h1 : ∀ u ∈ xs, u.oneCell' = true) (m c : Nat) (hm : m ≤ n) : SrcOf w size (.slice (some ⟨g, 0, none⟩) m c) m (xs.take (m * size)) := by
  have := srcOf_part hr h1 0 m c (by omega)
  rwa [Nat.zero_mul, List.drop_zero] at this
theorem srcOf_tail {e size g n cap : Nat} {xs : List Value} (hr : w.ownsRow 0 e size (.slice (some ⟨g, 0, none⟩) n cap) n xs) (h1 : ∀ u ∈ xs, u.oneCell' = true) (k : Nat) (hk : k ≤ n) :
    SrcOf w size (.slice (if cap = k then some ⟨g, 0, none⟩ else some ⟨g, k * size, none⟩) (n - k) (cap - k)) (n - k) (xs.drop (k * size)) := by
  have hl : xs.length = n * size := hr.1
  by_cases h : cap = k
  · have : n = k := by have := row_cap hr; omega
    subst this
    rw [if_pos h, Nat.sub_self]
    refine .inr ⟨_, _, rfl, ?_, ?_, ?_⟩
    · rw [List.length_drop, hl]; omega
    · intro j u hj
      rw [List.getElem?_drop, List.getElem?_eq_none (by omega)] at hj
      simp at hj
    · intro u hu
      exact h1 u (List.mem_of_mem_drop hu)
  · rw [if_neg h]
    have := srcOf_part hr h1 k (n - k) (cap - k) (by omega)
    rwa [List.take_of_length_le (by rw [List.length_drop, hl, Nat.sub_mul]; exact Nat.le_refl _)] at this

theorem srcOf_tail_lt {e size g n cap : Nat} {xs : List Value} (hr : w.ownsRow 0 e size (.slice (some ⟨g, 0, none⟩) n cap) n xs) (h1 : ∀ u ∈ xs, u.oneCell' = true) (k : Nat) (hk : k < n) :
    SrcOf w size (.slice (some ⟨g, k * size, none⟩) (n - k) (cap - k)) (n - k) (xs.drop (k * size)) := by
  have := srcOf_tail hr h1 k (Nat.le_of_lt hk)
  rwa [if_neg (by have := row_cap hr; omega)] at this

theorem srcOf_zero (w : World) (size : Nat) (a : Addr) (c : Nat) : SrcOf w size (.slice (some a) 0 c) 0 [] := .inr ⟨a, c, rfl, by simp, by simp, by simp⟩

theorem fold_set : ∀ (l : List Value) (k : Nat) (I : Array Value), I.size = k + l.length → (l.zipIdx k).foldl (fun cs x => cs.setIfInBounds x.2 x.1) I = (I.toList.take k ++ l).toArray
  | [], k, I, h => by
    simp only [List.zipIdx_nil, List.foldl_nil, List.append_nil]
    rw [List.take_of_length_le (by simp at h ⊢; omega)]
  | x :: l, k, I, h => by
    rw [List.zipIdx_cons, List.foldl_cons]
    rw [fold_set l (k + 1) _ (by simp at h ⊢; omega)]
    congr 1
    have hk : k < I.toList.length := by simp at h ⊢; omega
    rw [Array.toList_setIfInBounds, List.take_add_one, List.take_set_of_le (Nat.le_refl _), List.getElem?_set_self hk]
    simp
theorem fold_page (I A : Array Value) (hI : I.size = 65) (hA : A.size = 65) : Array.foldl (fun cs x => cs.setIfInBounds x.snd x.fst) I (A.zipIdx 0) 0 65 = A := by
  have h := fold_set A.toList 0 I (by simp [hI, hA])
  rw [List.take_zero, List.nil_append] at h
  have e : (A.zipIdx 0).toList = A.toList.zipIdx 0 := Array.toList_zipIdx
  rw [← e] at h
  have e2 : (65 : Nat) = (A.zipIdx 0).size := by simp [hA]
  rw [e2, ← Array.foldl_toList]
  simpa using h
theorem zeroPageV (W : World) : (zeroValue 59).run Try.prog W = .ok (.agg (pcell0 0).toArray) W := by kernel_rfl
theorem page_zero (n : Nat) : ∃ Z A : Array Value, (∀ W, (zeroValue 59).run Try.prog W = .ok (.agg Z) W) ∧ ((Z = #[]) = False) ∧ Z.setIfInBounds 0 (.int .i64 n) = A ∧ Z = (pcell0 0).toArray ∧ A = (pcell0 n).toArray ∧ A.size = 65 :=
  ⟨_, _, zeroPageV, by simp [pcell0], rfl, rfl, by simp [pcell0], by simp [pcell0]⟩


set_option maxRecDepth 100000 in
set_option maxHeartbeats 1000000 in
theorem rclaim_call {b : Nat} {S : Slb} (h : Sep F w w [rslabR b S]) (hS : S.Ok) (n : Int) {er : Int} {S' : Slb} (r : S.claim n = (er, S')) :
    Calls Try.prog 35 #[.pointer (some ⟨b, 0, none⟩), .int .i64 n] w fun e w' => e = .returned (.int .i64 er) ∧ Sep F w w' [rslabR b S'] := by
  have H := Lib.hid h
  by_cases h0 : n < 0
  · rw [Slb.claim_bad (.inl h0)] at r
    cases r
    have d1 : decide (n < 0) = true := ltT h0
    clear h hS
    go_enter Try.func35, Try.ntmps35
    go_wp2
    go_ret
    exact ⟨rfl, H.out⟩
  have d1 : decide (n < 0) = false := ltF (by omega)
  by_cases h1 : 1048576 ≤ n
  · rw [Slb.claim_bad (.inr (by omega))] at r
    cases r
    have d2 : decide (1048576 ≤ n) = true := leT h1
    clear h hS
    go_enter Try.func35, Try.ntmps35
    go_wp2
    go_ret
    exact ⟨rfl, H.out⟩
  have d2 : decide (1048576 ≤ n) = false := leF (by omega)
  obtain ⟨sa, cap, h2⟩ := rs_open h
  have c0 := (h2.cell 0 rfl 0 (v := .int .i64 S.quota) rfl).1
  have c1 := (h2.cell 0 rfl 1 (v := .slice sa S.pg.length cap) rfl).1
  have hc := rat_call (h2.row 1 rfl) hS n
  cases hh : S.has n with
  | true =>
    rw [Slb.claim_has (by omega) (by omega) hh] at r
    cases r
    rw [placeAt_yes hh] at hc
    have hp : (0 : Int) ≤ (S.place n : Int) := by omega
    clear h hS h2 hh
    go_enter Try.func35, Try.ntmps35
    go_wp2_with fail
    refine hc.mono ?_
    rintro e w1 ⟨rfl, hm⟩
    have H2 := Lib.hid (H.out.more hm)
    clear hc hm
    go_wp2
    go_ret
    exact ⟨rfl, H2.out⟩
  | false =>
    rw [placeAt_no hh] at hc
    unfold Slb.claim at r
    rw [if_neg (by omega), if_neg (by rw [hh]; decide)] at r
    have hlen : (S.pg.length : Int) ≤ 4096 := by have := Slb.len_le hS; omega
    by_cases hq : S.quota < (S.pg.length + 1) * 64
    · rw [if_pos hq] at r
      cases r
      have d3 : decide (S.quota < 64 * ((S.pg.length : Int) + 1)) = true := ltT (by omega)
      clear h hS hh hq
      go_enter Try.func35, Try.ntmps35
      go_wp2_with fail
      refine hc.mono ?_
      rintro e w1 ⟨rfl, hm⟩
      have H2 := Lib.hid (H.out.more hm)
      have c0 := hm.cell c0 (fun x => x)
      have c1 := hm.cell c1 (fun x => x)
      clear hc hm h2
      go_wp2_with fail
      go_quiet (fail)
      go_wp2
      go_ret
      exact ⟨rfl, H2.out.drewN _⟩
    · rw [if_neg hq] at r
      cases r
      have d3 : decide (S.quota < 64 * ((S.pg.length : Int) + 1)) = false := ltF (by omega)
      obtain ⟨n, rfl⟩ := Int.eq_ofNat_of_zero_le (show 0 ≤ n by omega)
      have hn : n ∉ S.pg := fun hin => by rw [Slb.has_iff.2 ⟨by omega, by simpa using hin⟩] at hh; cases hh
      have hf := Slb.free_one hn
      obtain ⟨c, hcl, s1, s2, s3⟩ := sorted_split hS.sorted n
      have HM := Lib.hid (prow_more hS hf hcl s1 s2)
      have HL := Lib.hid (Slb.more_length hf)
      have HS3 := Lib.hid s3
      have HW := Lib.hid hS.small
      clear h hS hh hq hf s1 s2 s3 hn
      rcases row_addr (h2.row 1 rfl) with ⟨rfl, hz, rfl⟩ | ⟨g, rfl⟩
      · obtain ⟨Q, pg, wd⟩ := S
        obtain rfl : pg = [] := List.eq_nil_of_length_eq_zero hz
        have HM := Lib.hid (show prow wd (Slb.more [] n 1) = pcell0 n from by have := HM.out; simpa [prow] using this)
        have HL := Lib.hid (show (Slb.more [] n 1).length = 1 from HL.out)
        have h2 : Sep F w w [cellsAt b #[.int .i64 Q, .slice none 0 0] 48, rowAt 59 65 (.slice none 0 0) 0 []] := h2
        have c1 : w.cell? ⟨b, 1, none⟩ = some (.slice none 0 0) := c1
        have c0 : w.cell? ⟨b, 0, none⟩ = some (.int .i64 Q) := c0
        have d3 : decide (Q < 64) = false := by simpa using d3
        have hc : Calls Try.prog 24 #[.agg #[.int .i64 Q, .slice none 0 0], .int .i64 (n : Int)] w fun e w' => e = .returned (.int .i64 (-1)) ∧ Mod No w w' := hc
        obtain ⟨i0, hi0, ⟨z0, hz0, hz3⟩, hz1, hz2⟩ := infoPage
        have HI := Lib.hid (And.intro hi0 (And.intro hz0 (And.intro hz1 (And.intro hz2 hz3))))
        clear hi0 hz0 hz1 hz2 hz3 HS3 HW hlen hcl hz H
        go_enter Try.func35, Try.ntmps35
        go_wp2_with fail
        refine hc.mono ?_
        rintro e w1 ⟨rfl, hm⟩
        have h3 := h2.more hm
        have c0 := hm.cell c0 (fun x => x)
        have c1 := hm.cell c1 (fun x => x)
        clear hc hm h2
        go_wp2_with fail
        refine wp_region_quiet_lit (by kernel_rfl) (by kernel_rfl) ?_
        repeat (go_big_quiet_step (fail))
        refine wpQuiet_nil ?_
        intro wq hwq
        obtain ⟨nq, hwq⟩ := hwq
        have hq := Mod.of_drewN hwq
        clear hwq nq
        have h4 := h3.more hq
        have c0 := hq.cell c0 (fun x => x)
        have c1 := hq.cell c1 (fun x => x)
        clear hq h3
        go_wp2_with fail
        have HX := Lib.hid h4
        clear h4
        go_loop [5] (fun k => k = .int .i64 0) (fun _ => 0)
        case atStart => rfl
        case round =>
          subst hrel
          have hbw := lt_of_at (HX.out.block 0 rfl)
          have hE : Sep F w (wq.alloc (.cells #[] 59)) [cellsAt b #[.int .i64 Q, .slice none 0 0] 48, rowAt 59 65 (.slice none 0 0) 0 [], rowAt 59 65 (.slice (some ⟨wq.heap.size, 0, none⟩) 0 0) 0 []] := HX.out.pushEmpty _ _
          obtain ⟨hi0, hz0, hz1, hz2, hz3⟩ := HI.out
          go_wp2_with (at_builtin; refine wpList_append_src hE 2 rfl (by rfl) _ _ 46 rfl Try.underlying46 hi0 hz0 hz1 hz2 hz3 (by decide) (by rfl) _ (by rfl) (.inl ⟨rfl, rfl, rfl⟩) (by unfold maxLen; omega) (by omega) ?_)
          intro so co w2 h2
          have h2 : Sep F w w2 [cellsAt b #[.int .i64 Q, .slice none 0 0] 48, rowAt 59 65 (.slice none 0 0) 0 [], rowAt 59 65 (.slice so 0 co) 0 []] := h2
          clear hE
          obtain ⟨Z, A, hzv, hZ1, hZ2, hZ3, hA, hA2⟩ := page_zero n
          have HZ := Lib.hid hZ3
          clear hZ3
          have hzv := hzv w2
          have HA := Lib.hid hA
          clear hA
          go_wp2_with (at_builtin; refine wpList_append_sepC h2 2 rfl (by rfl) _ _ 46 rfl Try.underlying46 hi0 hz0 hz1 hz2 hz3 (by decide) (by rfl) (pcell0 n) _ (by rfl) (by simp) rfl (pcell0_one n) _ _ ((fold_page _ _ rfl hA2).trans HA.out) (by unfold maxLen; omega) (by omega) ?_)
          intro g3 c3 w3 h3
          have h3 : Sep F w w3 [cellsAt b #[.int .i64 Q, .slice none 0 0] 48, rowAt 59 65 (.slice none 0 0) 0 [], rowAt 59 65 (.slice (some ⟨g3, 0, none⟩) 1 c3) 1 (pcell0 n)] := h3
          have q1 := (h3.cell 0 rfl 1 (v := .slice none 0 0) rfl).1
          clear h2
          go_wp2_with (at_builtin; refine wpList_append_src h3 2 rfl (by rfl) _ _ 46 rfl Try.underlying46 hi0 hz0 hz1 hz2 hz3 (by decide) (by rfl) _ (by rfl) (.inl ⟨rfl, rfl, rfl⟩) (by unfold maxLen; omega) (by omega) ?_)
          intro s4 c4 w4 h4
          have h4 : Sep F w w4 [cellsAt b #[.int .i64 Q, .slice none 0 0] 48, rowAt 59 65 (.slice none 0 0) 0 [], rowAt 59 65 (.slice s4 1 c4) (Slb.more [] n 1).length (prow wd (Slb.more [] n 1))] := by
            rw [HM.out, HL.out]
            exact h4
          have q3 := h4.cell 0 rfl 1 (v := .slice none 0 0) rfl
          have q1 := q3.1
          have q2 := q3.2
          have H5 := Lib.hid (rs_store (S := ⟨Q, [], wd⟩) (S' := ⟨Q, Slb.more [] n 1, wd⟩) rfl h4)
          clear h3 h4 q3 hi0 hz0 hz1 hz2 hz3
          go_wp2
          go_ret
          exact ⟨rfl, H5.out⟩
      go_enter Try.func35, Try.ntmps35
      go_wp2_with fail
      refine hc.mono ?_
      rintro e w1 ⟨rfl, hm⟩
      have h3 := h2.more hm
      have c0 := hm.cell c0 (fun x => x)
      have c1 := hm.cell c1 (fun x => x)
      clear hc hm h2
      go_wp2_with fail
      refine wp_region_quiet_lit (by kernel_rfl) (by kernel_rfl) ?_
      repeat (go_big_quiet_step (fail))
      refine wpQuiet_nil ?_
      intro wq hwq
      obtain ⟨nq, hwq⟩ := hwq
      have hq := Mod.of_drewN hwq
      clear hwq nq
      have h4 := h3.more hq
      have c0 := hq.cell c0 (fun x => x)
      have c1 := hq.cell c1 (fun x => x)
      clear hq h3
      go_wp2_with fail
      have HX := Lib.hid h4
      clear h4
      go_loop [5] (fun k => ∃ j : Nat, j ≤ c ∧ k = .int .i64 j) (fun k => c + 1 - (RowKit.intOf k).toNat)
      case atStart => exact ⟨0, Nat.zero_le _, rfl⟩
      case round =>
        obtain ⟨j, hj, rfl⟩ := hrel
        by_cases hlt : j < c
        · have hs := List.getElem?_eq_getElem (show j < S.pg.length by omega)
          obtain ⟨g', hg', hjl, _, e0, _⟩ := ppage (HX.out.row 1 rfl) hs
          cases hg'
          have hne := (HS3.out j _ hs).2 hlt
          generalize S.pg[j] = k at *
          have b1 : decide ((k : Int) < (n : Int)) = true := ltT (by omega)
          have b3 : decide (k < n) = true := decide_eq_true hne
          clear hs hne
          go_wp2
          go_round
          case rel => exact ⟨j + 1, by omega, by go_num⟩
          case measure => simp [RowKit.intOf]; omega
        · obtain rfl : j = c := by omega
          have HE : Sep F w (wq.alloc (.cells #[] 59)) [cellsAt b #[.int .i64 S.quota, .slice (some ⟨g, 0, none⟩) S.pg.length cap] 48, rowAt 59 65 (.slice (some ⟨g, 0, none⟩) S.pg.length cap) S.pg.length (prow S.wd S.pg), rowAt 59 65 (.slice (some ⟨wq.heap.size, 0, none⟩) 0 0) 0 []] := HX.out.pushEmpty _ _
          have HE := Lib.hid HE
          have hbw := lt_of_at (HX.out.block 0 rfl)
          have hcap := row_cap (HX.out.row 1 rfl)
          obtain ⟨i0, hi0, ⟨z0, hz0, hz3⟩, hz1, hz2⟩ := infoPage
          have HI := Lib.hid (And.intro hi0 (And.intro hz0 (And.intro hz1 (And.intro hz2 hz3))))
          clear hi0 hz0 hz1 hz2 hz3
          · have hgw := (HX.out.row 1 rfl).lt g rfl
            have hgw := hgw.2
            by_cases hje : j < S.pg.length
            · have hs := List.getElem?_eq_getElem hje
              obtain ⟨g', hg', hjl, _, e0, _⟩ := ppage (HX.out.row 1 rfl) hs
              cases hg'
              have hne : ¬ S.pg[j] < n := fun h => by have := (HS3.out j _ hs).1 h; omega
              generalize S.pg[j] = k at *
              have b1 : decide ((k : Int) < (n : Int)) = false := ltF (by omega)
              have b3 : decide (k < n) = false := decide_eq_false hne
              clear hs hne
              have hE := HE.out
              have hsrc := srcOf_head (hE.row 1 rfl) (prow_one _ _) j cap hcl
              obtain ⟨hi0, hz0, hz1, hz2, hz3⟩ := HI.out
              go_wp2_with (at_builtin; refine wpList_append_src hE 2 rfl (by rfl) _ _ 46 rfl Try.underlying46 hi0 hz0 hz1 hz2 hz3 (by decide) (by rfl) _ (by rfl) hsrc (by unfold maxLen; omega) (by omega) ?_)
              intro so co w2 h2
              have h2 : Sep F w w2 [cellsAt b #[.int .i64 S.quota, .slice (some ⟨g, 0, none⟩) S.pg.length cap] 48, rowAt 59 65 (.slice (some ⟨g, 0, none⟩) S.pg.length cap) S.pg.length (prow S.wd S.pg), rowAt 59 65 (.slice so j co) j ((prow S.wd S.pg).take (j * 65))] := h2
              clear hE hsrc
              obtain ⟨Z, A, hzv, hZ1, hZ2, hZ3, hA, hA2⟩ := page_zero n
              have HZ := Lib.hid hZ3
              clear hZ3
              have hzv := hzv w2
              have HA := Lib.hid hA
              clear hA
              go_wp2_with (at_builtin; refine wpList_append_sepC h2 2 rfl (by rfl) _ _ 46 rfl Try.underlying46 hi0 hz0 hz1 hz2 hz3 (by decide) (by rfl) (pcell0 n) _ (by rfl) (by simp) rfl (pcell0_one n) _ _ ((fold_page _ _ rfl hA2).trans HA.out) (by unfold maxLen; omega) (by omega) ?_)
              intro g3 c3 w3 h3
              have h3 : Sep F w w3 [cellsAt b #[.int .i64 S.quota, .slice (some ⟨g, 0, none⟩) S.pg.length cap] 48, rowAt 59 65 (.slice (some ⟨g, 0, none⟩) S.pg.length cap) S.pg.length (prow S.wd S.pg), rowAt 59 65 (.slice (some ⟨g3, 0, none⟩) (j + 1) c3) (j + 1) ((prow S.wd S.pg).take (j * 65) ++ pcell0 n)] := h3
              have q1 := (h3.cell 0 rfl 1 (v := .slice (some ⟨g, 0, none⟩) S.pg.length cap) rfl).1
              have hsrc := srcOf_tail_lt (h3.row 1 rfl) (prow_one _ _) j hje
              clear h2
              go_wp2_with (at_builtin; refine wpList_append_src h3 2 rfl (by rfl) _ _ 46 rfl Try.underlying46 hi0 hz0 hz1 hz2 hz3 (by decide) (by rfl) _ (by rfl) hsrc (by unfold maxLen; omega) (by omega) ?_)
              intro s4 c4 w4 h4
              have h4 : Sep F w w4 [cellsAt b #[.int .i64 S.quota, .slice (some ⟨g, 0, none⟩) S.pg.length cap] 48, rowAt 59 65 (.slice (some ⟨g, 0, none⟩) S.pg.length cap) S.pg.length (prow S.wd S.pg), rowAt 59 65 (.slice s4 (j + 1 + (S.pg.length - j)) c4) (Slb.more S.pg n 1).length (prow S.wd (Slb.more S.pg n 1))] := by
                rw [HM.out, HL.out]
                have e : j + 1 + (S.pg.length - j) = S.pg.length + 1 := by omega
                have e2 : ((List.range 1).map (n + ·)).flatMap pcell0 = pcell0 n := by simp
                have h4' := h4
                rw [e] at h4' ⊢
                rw [e2, List.append_assoc]
                exact h4'
              have q3 := h4.cell 0 rfl 1 (v := .slice (some ⟨g, 0, none⟩) S.pg.length cap) rfl
              have q1 := q3.1
              have q2 := q3.2
              have H5 := Lib.hid (rs_store (S := S) (S' := { S with pg := Slb.more S.pg n 1 }) rfl h4)
              clear h3 h4 hsrc q3 hi0 hz0 hz1 hz2 hz3
              go_wp2
              go_ret
              exact ⟨rfl, H5.out⟩
            · obtain rfl : j = S.pg.length := by omega
              have b1 : decide ((S.pg.length : Int) < (S.pg.length : Int)) = false := ltF (by omega)
              clear hje
              by_cases hcj : cap = S.pg.length
              · subst hcj
                have hE := HE.out
                have hsrc := srcOf_head (hE.row 1 rfl) (prow_one _ _) S.pg.length S.pg.length (Nat.le_refl _)
                obtain ⟨hi0, hz0, hz1, hz2, hz3⟩ := HI.out
                go_wp2_with (at_builtin; refine wpList_append_src hE 2 rfl (by rfl) _ _ 46 rfl Try.underlying46 hi0 hz0 hz1 hz2 hz3 (by decide) (by rfl) _ (by rfl) hsrc (by unfold maxLen; omega) (by omega) ?_)
                intro so co w2 h2
                have h2 : Sep F w w2 [cellsAt b #[.int .i64 S.quota, .slice (some ⟨g, 0, none⟩) S.pg.length S.pg.length] 48, rowAt 59 65 (.slice (some ⟨g, 0, none⟩) S.pg.length S.pg.length) S.pg.length (prow S.wd S.pg), rowAt 59 65 (.slice so S.pg.length co) S.pg.length ((prow S.wd S.pg).take (S.pg.length * 65))] := h2
                clear hE hsrc
                obtain ⟨Z, A, hzv, hZ1, hZ2, hZ3, hA, hA2⟩ := page_zero n
                have HZ := Lib.hid hZ3
                clear hZ3
                have hzv := hzv w2
                have HA := Lib.hid hA
                clear hA
                go_wp2_with (at_builtin; refine wpList_append_sepC h2 2 rfl (by rfl) _ _ 46 rfl Try.underlying46 hi0 hz0 hz1 hz2 hz3 (by decide) (by rfl) (pcell0 n) _ (by rfl) (by simp) rfl (pcell0_one n) _ _ ((fold_page _ _ rfl hA2).trans HA.out) (by unfold maxLen; omega) (by omega) ?_)
                intro g3 c3 w3 h3
                have h3 : Sep F w w3 [cellsAt b #[.int .i64 S.quota, .slice (some ⟨g, 0, none⟩) S.pg.length S.pg.length] 48, rowAt 59 65 (.slice (some ⟨g, 0, none⟩) S.pg.length S.pg.length) S.pg.length (prow S.wd S.pg), rowAt 59 65 (.slice (some ⟨g3, 0, none⟩) (S.pg.length + 1) c3) (S.pg.length + 1) ((prow S.wd S.pg).take (S.pg.length * 65) ++ pcell0 n)] := h3
                have q1 := (h3.cell 0 rfl 1 (v := .slice (some ⟨g, 0, none⟩) S.pg.length S.pg.length) rfl).1
                have hsrc := srcOf_zero w3 65 ⟨g, 0, none⟩ 0
                clear h2
                go_wp2_with (at_builtin; refine wpList_append_src h3 2 rfl (by rfl) _ _ 46 rfl Try.underlying46 hi0 hz0 hz1 hz2 hz3 (by decide) (by rfl) _ (by rfl) hsrc (by unfold maxLen; omega) (by omega) ?_)
                intro s4 c4 w4 h4
                have h4 : Sep F w w4 [cellsAt b #[.int .i64 S.quota, .slice (some ⟨g, 0, none⟩) S.pg.length S.pg.length] 48, rowAt 59 65 (.slice (some ⟨g, 0, none⟩) S.pg.length S.pg.length) S.pg.length (prow S.wd S.pg), rowAt 59 65 (.slice s4 (S.pg.length + 1) c4) (Slb.more S.pg n 1).length (prow S.wd (Slb.more S.pg n 1))] := by
                  have e2 : ((List.range 1).map (n + ·)).flatMap pcell0 = pcell0 n := by simp
                  have e3 : (prow S.wd S.pg).drop (S.pg.length * 65) = [] := by rw [← prow_len S.wd S.pg]; exact List.drop_length
                  rw [HM.out, HL.out, e2, e3, List.append_nil]
                  exact h4
                have q3 := h4.cell 0 rfl 1 (v := .slice (some ⟨g, 0, none⟩) S.pg.length S.pg.length) rfl
                have q1 := q3.1
                have q2 := q3.2
                have H5 := Lib.hid (rs_store (S := S) (S' := { S with pg := Slb.more S.pg n 1 }) rfl h4)
                clear h3 h4 hsrc q3 hi0 hz0 hz1 hz2 hz3
                go_wp2
                go_ret
                exact ⟨rfl, H5.out⟩
              ·
                have hE := HE.out
                have hsrc := srcOf_head (hE.row 1 rfl) (prow_one _ _) S.pg.length cap (Nat.le_refl _)
                obtain ⟨hi0, hz0, hz1, hz2, hz3⟩ := HI.out
                go_wp2_with (at_builtin; refine wpList_append_src hE 2 rfl (by rfl) _ _ 46 rfl Try.underlying46 hi0 hz0 hz1 hz2 hz3 (by decide) (by rfl) _ (by rfl) hsrc (by unfold maxLen; omega) (by omega) ?_)
                intro so co w2 h2
                have h2 : Sep F w w2 [cellsAt b #[.int .i64 S.quota, .slice (some ⟨g, 0, none⟩) S.pg.length cap] 48, rowAt 59 65 (.slice (some ⟨g, 0, none⟩) S.pg.length cap) S.pg.length (prow S.wd S.pg), rowAt 59 65 (.slice so S.pg.length co) S.pg.length ((prow S.wd S.pg).take (S.pg.length * 65))] := h2
                clear hE hsrc
                obtain ⟨Z, A, hzv, hZ1, hZ2, hZ3, hA, hA2⟩ := page_zero n
                have HZ := Lib.hid hZ3
                clear hZ3
                have hzv := hzv w2
                have HA := Lib.hid hA
                clear hA
                go_wp2_with (at_builtin; refine wpList_append_sepC h2 2 rfl (by rfl) _ _ 46 rfl Try.underlying46 hi0 hz0 hz1 hz2 hz3 (by decide) (by rfl) (pcell0 n) _ (by rfl) (by simp) rfl (pcell0_one n) _ _ ((fold_page _ _ rfl hA2).trans HA.out) (by unfold maxLen; omega) (by omega) ?_)
                intro g3 c3 w3 h3
                have h3 : Sep F w w3 [cellsAt b #[.int .i64 S.quota, .slice (some ⟨g, 0, none⟩) S.pg.length cap] 48, rowAt 59 65 (.slice (some ⟨g, 0, none⟩) S.pg.length cap) S.pg.length (prow S.wd S.pg), rowAt 59 65 (.slice (some ⟨g3, 0, none⟩) (S.pg.length + 1) c3) (S.pg.length + 1) ((prow S.wd S.pg).take (S.pg.length * 65) ++ pcell0 n)] := h3
                have q1 := (h3.cell 0 rfl 1 (v := .slice (some ⟨g, 0, none⟩) S.pg.length cap) rfl).1
                have hsrc := srcOf_zero w3 65 ⟨g, S.pg.length * 65, none⟩ (cap - S.pg.length)
                clear h2
                go_wp2_with (at_builtin; refine wpList_append_src h3 2 rfl (by rfl) _ _ 46 rfl Try.underlying46 hi0 hz0 hz1 hz2 hz3 (by decide) (by rfl) _ (by rfl) hsrc (by unfold maxLen; omega) (by omega) ?_)
                intro s4 c4 w4 h4
                have h4 : Sep F w w4 [cellsAt b #[.int .i64 S.quota, .slice (some ⟨g, 0, none⟩) S.pg.length cap] 48, rowAt 59 65 (.slice (some ⟨g, 0, none⟩) S.pg.length cap) S.pg.length (prow S.wd S.pg), rowAt 59 65 (.slice s4 (S.pg.length + 1) c4) (Slb.more S.pg n 1).length (prow S.wd (Slb.more S.pg n 1))] := by
                  have e2 : ((List.range 1).map (n + ·)).flatMap pcell0 = pcell0 n := by simp
                  have e3 : (prow S.wd S.pg).drop (S.pg.length * 65) = [] := by rw [← prow_len S.wd S.pg]; exact List.drop_length
                  rw [HM.out, HL.out, e2, e3, List.append_nil]
                  exact h4
                have q3 := h4.cell 0 rfl 1 (v := .slice (some ⟨g, 0, none⟩) S.pg.length cap) rfl
                have q1 := q3.1
                have q2 := q3.2
                have H5 := Lib.hid (rs_store (S := S) (S' := { S with pg := Slb.more S.pg n 1 }) rfl h4)
                clear h3 h4 hsrc q3 hi0 hz0 hz1 hz2 hz3
                go_wp2
                go_ret
                exact ⟨rfl, H5.out⟩
end Go.Proofs.Ytnkdopaajpbjfaa
