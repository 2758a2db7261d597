/- The reference of layer 4 (loftref04): drop, put, leave, walked. Conditions: the pages in memory are as said. -/
import Derived.Test.YtfmkiioahnphbaaDoorRef04E
import Derived.Test.YtfmkiioahnphbaaDoorSliceSrc
set_option linter.unusedVariables false
set_option linter.unusedSimpArgs false
set_option maxRecDepth 100000
namespace Go.Proofs.YtfmkiioahnphbaaDoor
open Go Go.RowKit

/-- The reference's heap, in block b. -/
def rheapR (b : Nat) (q : Int) (L : List RPg) : Res := exR fun v => starR (cellsAt b #[.int .i64 q, v] 46) (pgRow v L)

variable {F : Nat → Prop} {w0 w : World} {b : Nat} {q : Int} {L : List RPg}
theorem rh_open (h : Sep F w0 w [rheapR b q L]) : ∃ sa cap, Sep F w0 w [cellsAt b #[.int .i64 q, .slice sa L.length cap] 46, pgRow (.slice sa L.length cap) L] := by
  obtain ⟨v, h⟩ := h.openEx 0 rfl
  have h : Sep F w0 w [cellsAt b #[.int .i64 q, v] 46, pgRow v L] := h.openStar 0 rfl
  obtain ⟨sa, cap, rfl⟩ := h.form 1 rfl
  exact ⟨sa, cap, h⟩
theorem rh_shut {v : Value} (h : Sep F w0 w [cellsAt b #[.int .i64 q, v] 46, pgRow v L]) : Sep F w0 w [rheapR b q L] :=
  (h.shutStar 0 1 (by decide) rfl rfl rfl).shutEx 0 (fun v => starR (cellsAt b #[.int .i64 q, v] 46) (pgRow v L)) v rfl
theorem rh_store {L' : List RPg} {v v' : Value} (h : Sep F w0 w [cellsAt b #[.int .i64 q, v] 46, pgRow v L, pgRow v' L']) :
    Sep F w0 (w.setCell ⟨b, 1, none⟩ v') [cellsAt b #[.int .i64 q, v'] 46, pgRow v' L'] := by
  have h2 : Sep F w0 (w.setCell ⟨b, 1, none⟩ v') [cellsAt b #[.int .i64 q, v'] 46, pgRow v L, pgRow v' L'] := h.set 0 rfl 1 _
  exact h2.pick (fun i => if i = 0 then 0 else 2) (fun i hi => by match i, hi with | 0, _ => rfl | 1, _ => rfl) (fun i j hi hj hij => by match i, j, hi, hj with | 0, 1, _, _ => decide | 1, 0, _, _ => decide | 0, 0, _, _ => exact absurd rfl hij | 1, 1, _, _ => exact absurd rfl hij)

theorem infoPg4 : ∃ i, Tryd.prog.info? 101 = some i ∧ (∃ z, i.zero = some z ∧ z.cells.size = 36) ∧ i.size = 36 ∧ i.bytes = 64 := by
  have h : ((Tryd.prog.info? 101).map fun i => ((i.zero.map fun z => z.cells.size), i.size, i.bytes)) = some (some 36, 36, 64) := by kernel_rfl
  cases hi : Tryd.prog.info? 101 with
  | none => rw [hi] at h; simp at h
  | some i =>
    rw [hi] at h
    simp only [Option.map_some, Option.some.injEq, Prod.mk.injEq] at h
    obtain ⟨h1, h2, h3⟩ := h
    cases hz : i.zero with
    | none => rw [hz] at h1; simp at h1
    | some z => exact ⟨i, rfl, ⟨z, hz, by rw [hz] at h1; simpa using h1⟩, h2, h3⟩
theorem size36 : (Tryd.prog.info? 101).map (·.size) = some 36 := by kernel_rfl
theorem erase_app {k : Nat} (hk : k < L.length) : p4row (L.eraseIdx k) = (p4row L).take (k * 36) ++ (p4row L).drop ((k + 1) * 36) := by
  rw [List.eraseIdx_eq_take_drop_succ, p4row_app, p4row_take _ _ (by omega), p4row_drop _ _ (by omega)]

set_option maxRecDepth 100000 in
set_option maxHeartbeats 1000000 in
theorem rdrop_call (h : Sep F w w [rheapR b q L]) (hl : L.length ≤ 100000) {k : Nat} (hk : k < L.length) :
    Calls Tryd.prog 62 #[.pointer (some ⟨b, 0, none⟩), .int .i64 (k : Nat)] w fun e w' => (∃ v, e = .returned v) ∧ Sep F w w' [rheapR b q (L.eraseIdx k)] := by
  obtain ⟨sa, cap, h2⟩ := rh_open h
  have HR := Lib.hid (And.intro (erase_app hk) (List.length_eraseIdx_of_lt hk))
  have c1 := (h2.cell 0 rfl 1 (v := .slice sa L.length cap) rfl).1
  have hbw := lt_of_at (h2.block 0 rfl)
  have hE : Sep F w (w.alloc (.cells #[] 101)) [cellsAt b #[.int .i64 q, .slice sa L.length cap] 46, pgRow (.slice sa L.length cap) L, rowAt 101 36 (.slice (some ⟨w.heap.size, 0, none⟩) 0 0) 0 []] := h2.pushEmpty _ _
  obtain ⟨i0, hi0, ⟨z0, hz0, hz3⟩, hz1, hz2⟩ := infoPg4
  obtain ⟨n, hn⟩ : ∃ n, L.length = n := ⟨_, rfl⟩
  have HN := Lib.hid hn
  unfold pgRow at hE
  rw [hn] at hE c1 hl hk
  have e1 : IntKind.i64.wrap ((k : Int) + 1) = ((k + 1 : Nat) : Int) := by rw [IntKind.wrap_i64]; omega
  clear h h2 hn
  go_enter Tryd.func62, Tryd.ntmps62
  go_wp2_with (refine wpList_head hE 1 rfl (p4row_one L) (by rfl) 44 _ _ (by rfl) Tryd.underlying44 size36 (by rfl) k (by rfl) (by omega) ?_)
  intro v1 hv1
  go_wp2_with (at_builtin; refine wpList_append_src hE 2 rfl (by rfl) _ _ 44 rfl Tryd.underlying44 hi0 hz0 hz1 hz2 hz3 (by decide) (by rfl) _ (by rfl) hv1 (by unfold maxLen; omega) (by omega) ?_)
  intro so co w2 h2
  have h2 : Sep F w w2 [cellsAt b #[.int .i64 q, .slice sa n cap] 46, rowAt 101 36 (.slice sa n cap) n (p4row L), rowAt 101 36 (.slice so k co) k ((p4row L).take (k * 36))] := by simpa using h2
  have c1 := (h2.cell 0 rfl 1 (v := .slice sa n cap) rfl).1
  try rw [Nat.zero_add]
  clear hE hv1
  go_wp2_with (refine wpList_tail h2 1 rfl (p4row_one L) (by rfl) 44 _ _ (by rfl) Tryd.underlying44 size36 (by rfl) (k + 1) (by rfl) (by omega) ?_)
  intro v2 hv2
  go_wp2_with (at_builtin; refine wpList_append_src h2 2 rfl (by rfl) _ _ 44 rfl Tryd.underlying44 hi0 hz0 hz1 hz2 hz3 (by decide) (by rfl) _ (by rfl) hv2 (by unfold maxLen; omega) (by omega) ?_)
  intro s4 c4 w4 h4
  have h4 : Sep F w w4 [cellsAt b #[.int .i64 q, .slice sa n cap] 46, pgRow (.slice sa n cap) L, pgRow (.slice s4 (k + (n - (k + 1))) c4) (L.eraseIdx k)] := by
    unfold pgRow
    rw [HR.out.1, HR.out.2, HN.out, show n - 1 = k + (n - (k + 1)) by omega]
    exact h4
  have q3 := h4.cell 0 rfl 1 (v := .slice sa n cap) rfl
  have q1 := q3.1
  have q2 := q3.2
  have H5 := Lib.hid (rh_shut (rh_store h4))
  clear h2 h4 q3 hv2 hi0 hz0 hz1 hz2 hz3 c1
  go_wp2
  go_end0
  exact ⟨⟨_, rfl⟩, H5.out⟩

section
variable {Ps : List Res} {F0 : Nat → Prop} {P : Program}
theorem wpList_append_sepC {ops : Array Oper} {rest : List Oper} {o : Oper} {a : Act} {Q : Exit → Act → World → Prop} (h : Sep F0 w0 w Ps) (j : Nat) {e size : Nat} {v : Value} {n : Nat} {xs : List Value}
    (hj : Ps[j]? = some (rowAt e size v n xs)) (hgd : o.guard = none) (s x : Operand) (t : TypeId) (ho : o.op = .call { callee := .builtin .append, args := #[s, x], argTypes := #[t, t] })
    {i : TypeInfo} {z : Value} {bytes : Nat} (ht : P.underlying t = some (.slice e)) (hi : P.info? e = some i) (hz : i.zero = some z)
    (hsize : i.size = size) (hby : i.bytes = bytes) (hzs : z.cells.size = size) (hsz : 0 < size)
    (hs : a.eval s = v) (news : List Value) (m : Nat) (hx : a.eval x = .slice (some ⟨m, 0, none⟩) 1 1) (hm : m = w.heap.size) (hl : news.length = size) (h1 : ∀ u ∈ news, u.oneCell' = true) (T : TypeId) (C : Array Value) (hC : C = news.toArray)
    (h63 : n + 1 ≤ maxLen) (hbytes : (n + 1) * bytes ≤ 140737488355328)
    (k : ∀ g cap w', Sep F0 w0 w' (Ps.set j (rowAt e size (.slice (some ⟨g, 0, none⟩) (n + 1) cap) (n + 1) (xs ++ news))) →
      wpList P ops Q rest (a.put o.dst (.slice (some ⟨g, 0, none⟩) (n + 1) cap)) w') : wpList P ops Q (o :: rest) a (w.alloc (.cells C T)) := by
  subst hC
  exact wpList_append_sep h j hj hgd s x t ho ht hi hz hsize hby hzs hsz hs news m hx hm hl h1 T h63 hbytes k
end


theorem fold_set4 : ∀ (l : List Value) (k : Nat) (I : Array Value), I.size = k + l.length → (l.zipIdx k).foldl (fun cs x => cs.setIfInBounds x.2 x.1) I = (I.toList.take k ++ l).toArray
  | [], k, I, h => by
    simp only [List.zipIdx_nil, List.foldl_nil, List.append_nil]
    rw [List.take_of_length_le (by simp at h ⊢; omega)]
  | x :: l, k, I, h => by
    rw [List.zipIdx_cons, List.foldl_cons]
    rw [fold_set4 l (k + 1) _ (by simp at h ⊢; omega)]
    congr 1
    have hk : k < I.toList.length := by simp at h ⊢; omega
    rw [Array.toList_setIfInBounds, List.take_add_one, List.take_set_of_le (Nat.le_refl _), List.getElem?_set_self hk]
    simp
theorem fold_pg4 (I A : Array Value) (hI : I.size = 36) (hA : A.size = 36) : Array.foldl (fun cs x => cs.setIfInBounds x.snd x.fst) I (A.zipIdx 0) 0 36 = A := by
  have h := fold_set4 A.toList 0 I (by simp [hI, hA])
  rw [List.take_zero, List.nil_append] at h
  have e : (A.zipIdx 0).toList = A.toList.zipIdx 0 := Array.toList_zipIdx
  rw [← e] at h
  have e2 : (36 : Nat) = (A.zipIdx 0).size := by simp [hA]
  rw [e2, ← Array.foldl_toList]
  simpa using h
def pgZ : Array Value := #[.int .i64 0, .int .i64 0, .int .i64 0, .int .i64 0, .bool false] ++ Array.replicate 31 (.bool false)
theorem zeroPg4 (W : World) : (zeroValue 101).run Tryd.prog W = .ok (.agg pgZ) W := by kernel_rfl
theorem pg_zero : ∃ Z : Array Value, (∀ W, (zeroValue 101).run Tryd.prog W = .ok (.agg Z) W) ∧ ((Z = #[]) = False) ∧ Z.size = 36 :=
  ⟨_, zeroPg4, by simp [pgZ], rfl⟩
theorem ins_app {P : RPg} {c : Nat} (hc : c ≤ L.length) : p4row (L.take c ++ P :: L.drop c) = (p4row L).take (c * 36) ++ P.cells ++ (p4row L).drop (c * 36) := by
  have : p4row (P :: L.drop c) = P.cells ++ p4row (L.drop c) := by unfold p4row; rw [List.flatMap_cons]
  rw [p4row_app, this, p4row_take _ _ hc, p4row_drop _ _ hc, List.append_assoc]

set_option maxRecDepth 100000 in
set_option maxHeartbeats 2000000 in
theorem rput_call (h : Sep F w w [rheapR b q L]) (hl : L.length ≤ 100000) {P : RPg} {C : Array Value} (hV : PgV P C) {c : Nat} (hc : c ≤ L.length) (hlo : ∀ (j : Nat) Q, j < c → L[j]? = some Q → Q.n < P.n) (hhi : ∀ Q, L[c]? = some Q → ¬ Q.n < P.n) :
    Calls Tryd.prog 59 #[.pointer (some ⟨b, 0, none⟩), .agg C] w fun e w' => e = .returned (.int .i64 (c : Nat)) ∧ Sep F w w' [rheapR b q (L.take c ++ P :: L.drop c)] := by
  obtain ⟨sa, cap, h2⟩ := rh_open h
  have HR := Lib.hid (And.intro (ins_app (P := P) hc) (show (L.take c ++ P :: L.drop c).length = c + 1 + (L.length - c) by rw [List.length_append, List.length_take, List.length_cons, List.length_drop]; omega))
  obtain ⟨hsz, v0, _⟩ := hV.at
  have h3 := h2.pushCells C 101
  obtain ⟨n, hn⟩ : ∃ n, L.length = n := ⟨_, rfl⟩
  have HN := Lib.hid hn
  obtain ⟨m, hm⟩ : ∃ m, w.heap.size = m := ⟨_, rfl⟩
  obtain ⟨W, hW⟩ : ∃ W, w.alloc (.cells C 101) = W := ⟨_, rfl⟩
  rw [hm, hW] at h3
  have H3 : Hid (Sep F w W [cellsAt b #[.int .i64 q, .slice sa n cap] 46, pgRow (.slice sa n cap) L, cellsAt m C 101]) := by rw [← hn]; exact h3
  rw [hn] at hc hl
  have HLO := Lib.hid (And.intro hlo hhi)
  have HV := Lib.hid (And.intro hV v0)
  clear h h2 h3 hn hV v0 hlo hhi
  go_enter Tryd.func59, Tryd.ntmps59
  go_wp2_with fail
  go_loopw [5] (fun kv wr => ∃ j : Nat, j ≤ c ∧ kv = .int .i64 j ∧ Sep F w wr [cellsAt b #[.int .i64 q, .slice sa n cap] 46, pgRow (.slice sa n cap) L, cellsAt m C 101]) (fun kv _ => c + 1 - (RowKit.intOf kv).toNat)
  case atStart => exact ⟨0, Nat.zero_le _, rfl, H3.out⟩
  case round =>
    obtain ⟨j, hj, rfl, h⟩ := hrel
    clear H3
    have c1 := (h.cell 0 rfl 1 (v := .slice sa n cap) rfl).1
    have p0 := (h.cell 2 rfl 0 (v := .int .i64 P.n) HV.out.2).1
    have Hh := Lib.hid h
    by_cases hlt : j < c
    · obtain ⟨Q, hQ⟩ : ∃ Q, L[j]? = some Q := ⟨_, List.getElem?_eq_getElem (by rw [HN.out]; omega)⟩
      have h' : Sep F w wr [cellsAt b #[.int .i64 q, .slice sa n cap] 46, pgRow (.slice sa L.length cap) L, cellsAt m C 101] := by rw [HN.out]; exact h
      obtain ⟨g, rfl, _, _, hA, _⟩ := p4at h' 1 rfl hQ
      have a0 := hA.c0
      have hlo := HLO.out.1 j Q hlt hQ
      have dq : decide ((Q.n : Int) < (P.n : Int)) = true := ltT (by omega)
      have dq2 : decide (Q.n < P.n) = true := decide_eq_true hlo
      have hjn : j < n := by omega
      clear h h' hA hQ hlo
      go_wp2_with fail
      refine wp_region_quiet_lit (by kernel_rfl) (by kernel_rfl) ?_
      repeat (go_big_quiet_step (fail))
      refine wpQuiet_nil ?_
      intro wq hwq
      obtain ⟨nq, hwq⟩ := hwq
      have hq := Mod.of_drewN hwq
      clear hwq nq
      have H4 := Lib.hid (Hh.out.more hq)
      clear hq
      go_wp2
      go_roundw
      case rel => exact ⟨j + 1, by omega, by go_num, H4.out⟩
      case measure => (simp [RowKit.intOf]; try omega)
    · obtain rfl : j = c := by omega
      clear hlt
      have key : ∀ wq : World, Sep F w wq [cellsAt b #[.int .i64 q, .slice sa n cap] 46, pgRow (.slice sa n cap) L, cellsAt m C 101] → True := fun _ _ => trivial
      by_cases hjn : j < n
      · obtain ⟨Q, hQ⟩ : ∃ Q, L[j]? = some Q := ⟨_, List.getElem?_eq_getElem (by rw [HN.out]; omega)⟩
        have h' : Sep F w wr [cellsAt b #[.int .i64 q, .slice sa n cap] 46, pgRow (.slice sa L.length cap) L, cellsAt m C 101] := by rw [HN.out]; exact h
        obtain ⟨g, rfl, _, _, hA, _⟩ := p4at h' 1 rfl hQ
        have a0 := hA.c0
        have hhi := HLO.out.2 Q hQ
        have dq : decide ((Q.n : Int) < (P.n : Int)) = false := ltF (by omega)
        have dq2 : decide (Q.n < P.n) = false := decide_eq_false hhi
        clear h h' hA hQ hhi key
        go_wp2_with fail
        refine wp_region_quiet_lit (by kernel_rfl) (by kernel_rfl) ?_
        repeat (go_big_quiet_step (fail))
        refine wpQuiet_nil ?_
        intro wq hwq
        obtain ⟨nq, hwq⟩ := hwq
        have hq := Mod.of_drewN hwq
        clear hwq nq
        have H4 := Lib.hid (Hh.out.more hq)
        clear hq Hh c1 p0 a0
        have hbw := lt_of_at (H4.out.block 0 rfl)
        have hmw := lt_of_at (H4.out.block 2 rfl)
        have c1 := (H4.out.cell 0 rfl 1 (v := .slice (some ⟨g, 0, none⟩) n cap) rfl).1
        have hE := H4.out.pushEmpty 101 36
        unfold pgRow at hE
        rw [HN.out] at hE
        have hE : Sep F w (wq.alloc (.cells #[] 101)) [cellsAt b #[.int .i64 q, .slice (some ⟨g, 0, none⟩) n cap] 46, rowAt 101 36 (.slice (some ⟨g, 0, none⟩) n cap) n (p4row L), cellsAt m C 101, rowAt 101 36 (.slice (some ⟨wq.heap.size, 0, none⟩) 0 0) 0 []] := hE
        obtain ⟨i0, hi0, ⟨z0, hz0, hz3⟩, hz1, hz2⟩ := infoPg4
        go_wp2_with (refine wpList_head hE 1 rfl (p4row_one L) (by rfl) 44 _ _ (by rfl) Tryd.underlying44 size36 (by rfl) j (by rfl) (by omega) ?_)
        intro v1 hv1
        go_wp2_with (at_builtin; refine wpList_append_src hE 3 rfl (by rfl) _ _ 44 rfl Tryd.underlying44 hi0 hz0 hz1 hz2 hz3 (by decide) (by rfl) _ (by rfl) hv1 (by unfold maxLen; omega) (by omega) ?_)
        intro so co w2 h2
        have h2 : Sep F w w2 [cellsAt b #[.int .i64 q, .slice (some ⟨g, 0, none⟩) n cap] 46, rowAt 101 36 (.slice (some ⟨g, 0, none⟩) n cap) n (p4row L), cellsAt m C 101, rowAt 101 36 (.slice so j co) j ((p4row L).take (j * 36))] := by simpa using h2
        try rw [Nat.zero_add]
        clear hE hv1
        have c1 := (h2.cell 0 rfl 1 (v := .slice (some ⟨g, 0, none⟩) n cap) rfl).1
        obtain ⟨Z, hzv, hZ1, hZ2⟩ := pg_zero
        have hld : Hid (w2.rangeAt m 0 P.cells) := fun jj v hv => (h2.cell 2 rfl (0 + jj) (v := v) (by rw [Nat.zero_add, HV.out.1.cells]; simpa using hv)).1
        have HC : Hid (P.cells.toArray = C) := HV.out.1.cells.symm
        have hzv := hzv w2
        go_wp2_with (first | (refine wpList_load_mid_g (by rfl) 101 _ (by rfl) m 0 (by rfl) P.cells _ hld.out Tryd.underlying101 rfl (p4_size P) ?_; rw [HC.out]) | (at_builtin; refine wpList_append_sepC h2 3 rfl (by rfl) _ _ 44 rfl Tryd.underlying44 hi0 hz0 hz1 hz2 hz3 (by decide) (by rfl) P.cells _ (by rfl) (by simp) P.cells_len P.cells_one _ _ ((fold_pg4 _ _ rfl hsz).trans HV.out.1.cells) (by unfold maxLen; omega) (by omega) ?_))
        intro g3 c3 w3 h3
        clear hzv hld h2 c1
        have h3 : Sep F w w3 [cellsAt b #[.int .i64 q, .slice (some ⟨g, 0, none⟩) n cap] 46, rowAt 101 36 (.slice (some ⟨g, 0, none⟩) n cap) n (p4row L), cellsAt m C 101, rowAt 101 36 (.slice (some ⟨g3, 0, none⟩) (j + 1) c3) (j + 1) ((p4row L).take (j * 36) ++ P.cells)] := h3
        have c1 := (h3.cell 0 rfl 1 (v := .slice (some ⟨g, 0, none⟩) n cap) rfl).1
        go_wp2_with (refine wpList_tail h3 1 rfl (p4row_one L) (by rfl) 44 _ _ (by rfl) Tryd.underlying44 size36 (by rfl) j (by rfl) (by omega) ?_)
        intro v2 hv2
        go_wp2_with (at_builtin; refine wpList_append_src h3 3 rfl (by rfl) _ _ 44 rfl Tryd.underlying44 hi0 hz0 hz1 hz2 hz3 (by decide) (by rfl) _ (by rfl) hv2 (by unfold maxLen; omega) (by omega) ?_)
        intro s4 c4 w4 h4
        have h4 : Sep F w w4 [cellsAt b #[.int .i64 q, .slice (some ⟨g, 0, none⟩) n cap] 46, pgRow (.slice (some ⟨g, 0, none⟩) n cap) L, cellsAt m C 101, pgRow (.slice s4 (j + 1 + (n - j)) c4) (L.take j ++ P :: L.drop j)] := by
          unfold pgRow
          rw [HR.out.1, HR.out.2, HN.out, List.append_assoc]
          exact h4
        have h4 : Sep F w w4 [cellsAt b #[.int .i64 q, .slice (some ⟨g, 0, none⟩) n cap] 46, pgRow (.slice (some ⟨g, 0, none⟩) n cap) L, pgRow (.slice s4 (j + 1 + (n - j)) c4) (L.take j ++ P :: L.drop j)] :=
          h4.pick (fun i => if i = 0 then 0 else if i = 1 then 1 else 3) (fun i hi => by match i, hi with | 0, _ => rfl | 1, _ => rfl | 2, _ => rfl) (fun i k hi hk hik => by match i, k, hi, hk with | 0, 1, _, _ => decide | 0, 2, _, _ => decide | 1, 0, _, _ => decide | 1, 2, _, _ => decide | 2, 0, _, _ => decide | 2, 1, _, _ => decide | 0, 0, _, _ => exact absurd rfl hik | 1, 1, _, _ => exact absurd rfl hik | 2, 2, _, _ => exact absurd rfl hik)
        have q3 := h4.cell 0 rfl 1 (v := .slice (some ⟨g, 0, none⟩) n cap) rfl
        have q1 := q3.1
        have q2 := q3.2
        have H5 := Lib.hid (rh_shut (rh_store h4))
        clear h3 h4 q3 hv2 hi0 hz0 hz1 hz2 hz3 c1
        go_wp2
        go_ret
        exact ⟨rfl, H5.out⟩
      · clear h key
        go_wp2_with fail
        refine wp_region_quiet_lit (by kernel_rfl) (by kernel_rfl) ?_
        repeat (go_big_quiet_step (fail))
        refine wpQuiet_nil ?_
        intro wq hwq
        obtain ⟨nq, hwq⟩ := hwq
        have hq := Mod.of_drewN hwq
        clear hwq nq
        have H4 := Lib.hid (Hh.out.more hq)
        clear hq Hh c1 p0
        have hbw := lt_of_at (H4.out.block 0 rfl)
        have hmw := lt_of_at (H4.out.block 2 rfl)
        have c1 := (H4.out.cell 0 rfl 1 (v := .slice sa n cap) rfl).1
        have hE := H4.out.pushEmpty 101 36
        unfold pgRow at hE
        rw [HN.out] at hE
        have hE : Sep F w (wq.alloc (.cells #[] 101)) [cellsAt b #[.int .i64 q, .slice sa n cap] 46, rowAt 101 36 (.slice sa n cap) n (p4row L), cellsAt m C 101, rowAt 101 36 (.slice (some ⟨wq.heap.size, 0, none⟩) 0 0) 0 []] := hE
        obtain ⟨i0, hi0, ⟨z0, hz0, hz3⟩, hz1, hz2⟩ := infoPg4
        go_wp2_with (refine wpList_head hE 1 rfl (p4row_one L) (by rfl) 44 _ _ (by rfl) Tryd.underlying44 size36 (by rfl) j (by rfl) (by omega) ?_)
        intro v1 hv1
        go_wp2_with (at_builtin; refine wpList_append_src hE 3 rfl (by rfl) _ _ 44 rfl Tryd.underlying44 hi0 hz0 hz1 hz2 hz3 (by decide) (by rfl) _ (by rfl) hv1 (by unfold maxLen; omega) (by omega) ?_)
        intro so co w2 h2
        have h2 : Sep F w w2 [cellsAt b #[.int .i64 q, .slice sa n cap] 46, rowAt 101 36 (.slice sa n cap) n (p4row L), cellsAt m C 101, rowAt 101 36 (.slice so j co) j ((p4row L).take (j * 36))] := by simpa using h2
        try rw [Nat.zero_add]
        clear hE hv1
        have c1 := (h2.cell 0 rfl 1 (v := .slice sa n cap) rfl).1
        obtain ⟨Z, hzv, hZ1, hZ2⟩ := pg_zero
        have hld : Hid (w2.rangeAt m 0 P.cells) := fun jj v hv => (h2.cell 2 rfl (0 + jj) (v := v) (by rw [Nat.zero_add, HV.out.1.cells]; simpa using hv)).1
        have HC : Hid (P.cells.toArray = C) := HV.out.1.cells.symm
        have hzv := hzv w2
        go_wp2_with (first | (refine wpList_load_mid_g (by rfl) 101 _ (by rfl) m 0 (by rfl) P.cells _ hld.out Tryd.underlying101 rfl (p4_size P) ?_; rw [HC.out]) | (at_builtin; refine wpList_append_sepC h2 3 rfl (by rfl) _ _ 44 rfl Tryd.underlying44 hi0 hz0 hz1 hz2 hz3 (by decide) (by rfl) P.cells _ (by rfl) (by simp) P.cells_len P.cells_one _ _ ((fold_pg4 _ _ rfl hsz).trans HV.out.1.cells) (by unfold maxLen; omega) (by omega) ?_))
        intro g3 c3 w3 h3
        clear hzv hld h2 c1
        have h3 : Sep F w w3 [cellsAt b #[.int .i64 q, .slice sa n cap] 46, rowAt 101 36 (.slice sa n cap) n (p4row L), cellsAt m C 101, rowAt 101 36 (.slice (some ⟨g3, 0, none⟩) (j + 1) c3) (j + 1) ((p4row L).take (j * 36) ++ P.cells)] := h3
        have c1 := (h3.cell 0 rfl 1 (v := .slice sa n cap) rfl).1
        go_wp2_with (refine wpList_tail h3 1 rfl (p4row_one L) (by rfl) 44 _ _ (by rfl) Tryd.underlying44 size36 (by rfl) j (by rfl) (by omega) ?_)
        intro v2 hv2
        go_wp2_with (at_builtin; refine wpList_append_src h3 3 rfl (by rfl) _ _ 44 rfl Tryd.underlying44 hi0 hz0 hz1 hz2 hz3 (by decide) (by rfl) _ (by rfl) hv2 (by unfold maxLen; omega) (by omega) ?_)
        intro s4 c4 w4 h4
        have h4 : Sep F w w4 [cellsAt b #[.int .i64 q, .slice sa n cap] 46, pgRow (.slice sa n cap) L, cellsAt m C 101, pgRow (.slice s4 (j + 1 + (n - j)) c4) (L.take j ++ P :: L.drop j)] := by
          unfold pgRow
          rw [HR.out.1, HR.out.2, HN.out, List.append_assoc]
          exact h4
        have h4 : Sep F w w4 [cellsAt b #[.int .i64 q, .slice sa n cap] 46, pgRow (.slice sa n cap) L, pgRow (.slice s4 (j + 1 + (n - j)) c4) (L.take j ++ P :: L.drop j)] :=
          h4.pick (fun i => if i = 0 then 0 else if i = 1 then 1 else 3) (fun i hi => by match i, hi with | 0, _ => rfl | 1, _ => rfl | 2, _ => rfl) (fun i k hi hk hik => by match i, k, hi, hk with | 0, 1, _, _ => decide | 0, 2, _, _ => decide | 1, 0, _, _ => decide | 1, 2, _, _ => decide | 2, 0, _, _ => decide | 2, 1, _, _ => decide | 0, 0, _, _ => exact absurd rfl hik | 1, 1, _, _ => exact absurd rfl hik | 2, 2, _, _ => exact absurd rfl hik)
        have q3 := h4.cell 0 rfl 1 (v := .slice sa n cap) rfl
        have q1 := q3.1
        have q2 := q3.2
        have H5 := Lib.hid (rh_shut (rh_store h4))
        clear h3 h4 q3 hv2 hi0 hz0 hz1 hz2 hz3 c1
        go_wp2
        go_ret
        exact ⟨rfl, H5.out⟩
end Go.Proofs.YtfmkiioahnphbaaDoor
