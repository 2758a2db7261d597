/- The plain law of package bnode: a node's words, by their places. No program stands here. No condition. | slices.All over words, walked: its contract, which tells that each word is the one at its place. Condition: the words lie where the box says. | Package bnode, walked: Get of a node that was put. Conditions: the store's records are as said; the record's words are a node's that fits. -/
import Derived.Test.YtpcomekikeoliaaGreatDoorBnodeA
import Derived.Test.YtpcomekikeoliaaGreatDoorSrc
import Derived.Deep.RegionHeld3
import Derived.Deep.DeepCutAuto
import Derived.Test.YtpcomekikeoliaaGreatDoorBnodeEq
set_option linter.unusedVariables false
set_option linter.unusedSimpArgs false
set_option maxRecDepth 100000
namespace Go.Proofs.YtpcomekikeoliaaGreatDoor
open Go

namespace Nd
theorem setD {l : List Int} {i j : Nat} {v : Int} (hi : i < l.length) : (l.set i v).getD j 0 = if i = j then v else l.getD j 0 := by
  rw [List.getD_eq_getElem?_getD, List.getD_eq_getElem?_getD, List.getElem?_set]
  by_cases h : i = j
  · subst h; rw [if_pos rfl, if_pos rfl, if_pos hi]; rfl
  · rw [if_neg h, if_neg h]
theorem repD (n j : Nat) : (List.replicate n (0 : Int)).getD j 0 = 0 := by
  rw [List.getD_eq_getElem?_getD, List.getElem?_replicate]
  split <;> rfl
section
variable {t : Nat} {x : Nd}
theorem w0_at (ht : 2 ≤ t) (j : Nat) : (w0 t x).getD j 0 = if j = 0 then (x.keys.length : Int) else if j = 1 then x.size else 0 := by
  unfold w0
  rw [setD (by simp; omega), setD (by simp; omega), repD]
  by_cases h0 : j = 0
  · subst h0; simp
  · by_cases h1 : j = 1
    · subst h1; simp
    · rw [if_neg (by omega), if_neg (by omega), if_neg h0, if_neg h1]
theorem wK_at (ht : 2 ≤ t) : ∀ k, 2 + 2 * k ≤ 6 * t → ∀ j, (wK t x k).getD j 0 = if j = 0 then (x.keys.length : Int) else if j = 1 then x.size else if j < 2 + 2 * k then (if j % 2 = 0 then x.keys.getD (j / 2 - 1) 0 else x.vals.getD (j / 2 - 1) 0) else 0
  | 0, _, j => by
    unfold wK
    rw [w0_at ht]
    by_cases h0 : j = 0
    · rw [if_pos h0, if_pos h0]
    · by_cases h1 : j = 1
      · rw [if_neg h0, if_pos h1, if_neg h0, if_pos h1]
      · rw [if_neg h0, if_neg h1, if_neg h0, if_neg h1, if_neg (by omega)]
  | k + 1, hk, j => by
    unfold wK
    rw [setD (by rw [List.length_set, wK_len]; omega), setD (by rw [wK_len]; omega), wK_at ht k (by omega) j]
    by_cases h0 : j = 0
    · rw [if_neg (by omega), if_neg (by omega), if_pos h0, if_pos h0]
    · by_cases h1 : j = 1
      · rw [if_neg (by omega), if_neg (by omega), if_neg h0, if_pos h1, if_neg h0, if_pos h1]
      · rw [if_neg h0, if_neg h1, if_neg h0, if_neg h1]
        by_cases h2 : 2 + 2 * k + 1 = j
        · rw [if_pos h2, if_pos (by omega), if_neg (by omega), show j / 2 - 1 = k by omega]
        · by_cases h3 : 2 + 2 * k = j
          · rw [if_neg h2, if_pos h3, if_pos (by omega), if_pos (by omega), show j / 2 - 1 = k by omega]
          · rw [if_neg h2, if_neg h3]
            by_cases h4 : j < 2 + 2 * k
            · rw [if_pos h4, if_pos (show j < 2 + 2 * (k + 1) by omega)]
            · rw [if_neg h4, if_neg (show ¬ j < 2 + 2 * (k + 1) by omega)]
theorem wC_at (ht : 2 ≤ t) : ∀ k, k ≤ 2 * t → ∀ j, (wC t x k).getD j 0 = if 4 * t ≤ j ∧ j < 4 * t + k then x.kids.getD (j - 4 * t) 0 else (wK t x x.keys.length).getD j 0
  | 0, _, j => by unfold wC; rw [if_neg (by omega)]
  | k + 1, hk, j => by
    unfold wC
    rw [setD (by rw [wC_len]; omega), wC_at ht k (by omega) j]
    by_cases h : 4 * t + k = j
    · rw [if_pos h, if_pos (by omega), show j - 4 * t = k by omega]
    · rw [if_neg h]
      by_cases h2 : 4 * t ≤ j ∧ j < 4 * t + k
      · rw [if_pos h2, if_pos (by omega)]
      · rw [if_neg h2, if_neg (by omega)]
variable (F : Fits t x)
include F
theorem ws_many : (ws t x).getD 0 0 = (x.keys.length : Int) := by
  have := F.t2; have := F.keys; have := F.kids
  unfold ws
  rw [wC_at F.t2 _ (by omega), if_neg (by omega), wK_at F.t2 _ (by omega), if_pos rfl]
theorem ws_size : (ws t x).getD 1 0 = x.size := by
  have := F.t2; have := F.keys; have := F.kids
  unfold ws
  rw [wC_at F.t2 _ (by omega), if_neg (by omega), wK_at F.t2 _ (by omega), if_neg (by omega), if_pos rfl]
theorem ws_key {k : Nat} (hk : k < x.keys.length) : (ws t x).getD (2 + 2 * k) 0 = x.keys.getD k 0 := by
  have := F.t2; have := F.keys; have := F.kids
  unfold ws
  rw [wC_at F.t2 _ (by omega), if_neg (by omega), wK_at F.t2 _ (by omega), if_neg (by omega), if_neg (by omega), if_pos (by omega), if_pos (by omega), show (2 + 2 * k) / 2 - 1 = k by omega]
theorem ws_val {k : Nat} (hk : k < x.keys.length) : (ws t x).getD (2 + 2 * k + 1) 0 = x.vals.getD k 0 := by
  have := F.t2; have := F.keys; have := F.kids
  unfold ws
  rw [wC_at F.t2 _ (by omega), if_neg (by omega), wK_at F.t2 _ (by omega), if_neg (by omega), if_neg (by omega), if_pos (by omega), if_neg (by omega), show (2 + 2 * k + 1) / 2 - 1 = k by omega]
theorem ws_kid {k : Nat} (hk : k < x.kids.length) : (ws t x).getD (4 * t + k) 0 = x.kids.getD k 0 := by
  have := F.t2; have := F.keys; have := F.kids
  unfold ws
  rw [wC_at F.t2 _ (by omega), if_pos (by omega), show 4 * t + k - 4 * t = k by omega]
theorem ws_nokid (hk : x.kids.length = 0) : (ws t x).getD (4 * t) 0 = 0 := by
  have := F.t2; have := F.keys
  unfold ws
  rw [wC_at F.t2 _ (by omega), if_neg (by omega), wK_at F.t2 _ (by omega), if_neg (by omega), if_neg (by omega), if_neg (by omega)]
end
end Nd
end Go.Proofs.YtpcomekikeoliaaGreatDoor

namespace Go.Proofs.YtpcomekikeoliaaGreatDoor
open Go Go.RowKit Go.Shelf

attribute [local go_sem] Oper.semAt_some

/-- A word at its place. -/
abbrev WordOf (xs : List Int) := { p : Nat × Int // xs[p.1]? = some p.2 ∧ 0 ≤ p.2 ∧ p.2 < 18446744073709551616 }
abbrev encK {xs : List Int} (p : WordOf xs) : Array Value := #[.int .i64 (p.1.1 : Nat), .int .u64 p.1.2]

set_option maxRecDepth 100000 in
set_option maxHeartbeats 2000000 in
theorem all_stopsK {B g n : Nat} {xs : List Int} (hn : xs.length = n) (hl : n ≤ 1000000) (hx0 : ∀ v ∈ xs, 0 ≤ v ∧ v < 18446744073709551616) (w : World) (hP : AllAt B g n xs w) (m : Nat) (hm : 1 ≤ m) :
    SeqStopsK Fence.wide m Tryz.prog 118 #[.pointer (some ⟨B, 0, none⟩)] (encK (xs := xs)) (fun X Y => AllAt B g n xs X → AllAt B g n xs Y) (fun ps => ps.map (·.1) = pairs xs n) (fun pre => ∃ k, pre.map (·.1) = pairs xs k) n w := fun l J Jx W hW hJ hJx hY hJ0 => by
  have hA := hP.below hW
  have c0 := hA.box
  have HN := Lib.hid hn
  have HX0 := Lib.hid hx0
  have HY := Lib.hid hY
  have HJ0 := Lib.hid (And.intro hA hJ0)
  clear hP hW hJ hJx hY hJ0 hA hn hx0
  refine callsIn_of_wp Tryz.func118 rfl trivial ?_ rfl
  simp only [Tryz.ntmps118, List.size_toArray, List.length_cons, List.length_nil, Nat.reduceAdd, Nat.reduceSub, Array.replicate_succ, Array.replicate_zero, List.push_toArray, List.append_toArray, List.nil_append, List.cons_append]
  gi_wp2_with fail
  gi_loopw [7] (fun iv wr => ∃ (k : Nat) (pre : List (WordOf xs)), k ≤ n ∧ iv = .int .i64 k ∧ pre.map (·.1) = pairs xs k ∧ J pre wr ∧ AllAt B g n xs wr) (fun iv _ => n - (RowKit.intOf iv).toNat)
  case atStart => exact ⟨0, [], Nat.zero_le _, rfl, rfl, HJ0.out.2, HJ0.out.1⟩
  case round =>
    obtain ⟨k, pre, hk, rfl, hpre, hJr, hA⟩ := hrel
    clear HJ0 c0
    by_cases hlt : k < n
    · obtain ⟨x, hx⟩ : ∃ x, xs[k]? = some x := ⟨_, List.getElem?_eq_getElem (by rw [HN.out]; exact hlt)⟩
      have cx := hA.row k x hx
      have hgd : xs.getD k 0 = x := by rw [List.getD_eq_getElem?_getD, hx]; rfl
      obtain ⟨fn, tmps, assign, body, hy, hR⟩ := HY.out pre ⟨(k, x), hx, HX0.out x (List.mem_of_getElem? hx)⟩ wr hJr (by have := congrArg List.length hpre; rw [List.length_map, pairs_len] at this; omega)
      dsimp only [encK] at hy
      have HA := Lib.hid hA
      have HT : Hid ((pre ++ [(⟨(k, x), hx, HX0.out x (List.mem_of_getElem? hx)⟩ : WordOf xs)]).map (·.1) = pairs xs (k + 1)) := by
        show _ = _
        rw [pairs_succ, hgd, List.map_append, hpre]
        rfl
      have hlt' : (k : Int) < (n : Int) := by omega
      clear hJr hA hgd hpre
      gi_wp2
      refine hR.mono ?_
      rintro e W5 (⟨rfl, hJ5, hK5⟩ | ⟨rfl, hx5⟩)
      · have H5 := Lib.hid (And.intro hJ5 (hK5 HA.out))
        clear hJ5 hK5
        gi_wp2
        go_roundw
        case rel => exact ⟨k + 1, _, by omega, by go_num, HT.out, H5.out.1, H5.out.2⟩
        case measure => simp [RowKit.intOf]; omega
      · have H5 := Lib.hid hx5
        clear hx5
        gi_wp2
        refine bodyPost_ret (results_none rfl _ _ _) rfl ?_
        exact ⟨⟨_, rfl⟩, .inr ⟨_, ⟨k + 1, HT.out⟩, H5.out⟩⟩
    · obtain rfl : k = n := by omega
      have HQ := Lib.hid (And.intro hpre hJr)
      clear hJr hA hlt hpre
      gi_wp2
      go_end0
      exact ⟨⟨_, rfl⟩, .inl ⟨_, HQ.out.1, HQ.out.2⟩⟩
end Go.Proofs.YtpcomekikeoliaaGreatDoor

namespace Go.Proofs.YtpcomekikeoliaaGreatDoor
open Go Go.RowKit Go.Shelf

section
variable {F0 : Nat → Prop} {w0 w : World} {Ps : List Res} {b : Nat} {m la : Int} {S : Slb} {T : HTbl} {H : List Ent} {R : List Rc}
theorem get1_call {W : World} {bs bh : Nat} {hh k v : Int} (c0 : W.cell? ⟨bs, 0, none⟩ = some (.pointer (some ⟨b, 0, none⟩))) (c1 : W.cell? ⟨bh, 0, none⟩ = some (.int .u64 hh))
    (hg : Calls Tryz.prog 49 #[.pointer (some ⟨b, 0, none⟩), .int .u64 hh, .int .i64 k] W fun e w' => e = .returned (.tuple #[.int .u64 v, .int .i64 0]) ∧ W = w') :
    Calls Tryz.prog 59 #[.int .i64 k, .pointer (some ⟨bs, 0, none⟩), .pointer (some ⟨bh, 0, none⟩)] W fun e w' => e = .returned (.int .u64 v) ∧ W = w' := by
  go_enter Tryz.func59, Tryz.ntmps59
  go_wp2_with fail
  refine hg.mono ?_
  rintro e w' ⟨rfl, rfl⟩
  go_wp2
  go_ret
  exact ⟨rfl, rfl⟩

theorem run_store_fn {P : Program} {W : World} {a : Addr} {f : Fn} {x c : Array Value} {md : Mode} : (store a (.func f x c) md).run P W = stored P W a (.func f x c) md := run_store P W a _ md rfl
attribute [local go_sem] run_store_fn Oper.semAt_some

theorem src_one (W : World) (v : Int) : SrcOf (W.alloc (.cells #[.int .u64 v] 55)) 1 (.slice (some ⟨W.heap.size, 0, none⟩) 1 1) 1 [.int .u64 v] :=
  srcOf_row (e := 55) (World.ownsRow_lit (base := 0) W #[.int .u64 v] 1 (Nat.zero_le _) (by unfold maxLen; omega) rfl) (fun u hu => by
    simp only [List.mem_cons, List.not_mem_nil, or_false] at hu
    rcases hu with rfl
    rfl)
theorem takeD_succ {l : List Int} {k n : Nat} (hn : l.length = n) (hk : k < n) : l.take (k + 1) = l.take k ++ [l.getD k 0] := by
  have h : l[k]? = some (l[k]'(by omega)) := List.getElem?_eq_getElem _
  rw [List.take_add_one, h, List.getD_eq_getElem?_getD, h]
  rfl

abbrev hR (v : Value) (n : Nat) (ls : List Int) : Res := rowAt 55 1 v n (ls.map (Value.int .u64))
abbrev bnC (kv vv cv : Value) (sz : Int) : Array Value := #[kv, vv, cv, .int .u64 sz]
theorem infoHnd : (Tryz.prog.info? 55).map (fun i => (i.zero, i.size, i.bytes)) = some (some (.int .u64 0), 1, 8) := by kernel_rfl

theorem row_has {F0 : Nat → Prop} {w0 w : World} {Ps : List Res} (h : Sep F0 w0 w Ps) (i : Nat) {s : Option Addr} {n c : Nat} {l : List Int} (hi : Ps[i]? = some (hR (.slice s n c) n l)) : HasR w s l := fun k v hk => by
  obtain ⟨g, e, hc, -⟩ := h.item i hi (o := k) (x := .int .u64 v) (by rw [List.getElem?_map, hk]; rfl)
  exact ⟨g, 0, e, by rw [Nat.zero_add]; exact hc⟩

abbrev GPs (B C D b : Nat) (hh : Int) (kv vv cv : Value) (sz : Int) (n1 n2 n3 : Nat) (l1 l2 l3 : List Int) : List Res := [cellsAt B #[.pointer (some ⟨b, 0, none⟩)] 46, cellsAt (B + 1) #[.int .u64 hh] 55, cellsAt (B + 1 + 1) #[.slice none 0 0, .slice none 0 0, .slice none 0 0, .int .u64 0] 54, cellsAt (B + 1 + 1 + 1) #[.int .i64 0] 39,
  cellsAt C #[.func (.func 59) #[] #[.pointer (some ⟨B, 0, none⟩), .pointer (some ⟨B + 1, 0, none⟩)]] 98, cellsAt D (bnC kv vv cv sz) 54, hR kv n1 l1, hR vv n2 l2, hR cv n3 l3]





set_option maxRecDepth 100000 in
set_option maxHeartbeats 8000000 in
theorem bnget_ok (h : Sep F0 w0 w Ps) (i : Nat) (hi : Ps[i]? = some (stR b m la S T)) (I : StInv S T H R) {hh : Int} (h0 : 0 ≤ hh ∧ hh < 18446744073709551616) {j : Nat} {r : Rc} (L : Rec R hh j r)
    {x : Nd} (hxo : x.Ok) {t : Nat} (hf : Nd.fitB (t : Int) x = true) (hw : r.w = Nd.ws t x) :
    Calls Tryz.prog 22 #[.pointer (some ⟨b, 0, none⟩), .int .i64 (t : Nat), .int .u64 hh] w fun e w' => ∃ sk ck sv cv sc cc, e = .returned (.tuple #[ndV sk ck sv cv sc cc x, .int .i64 0]) ∧ NdAt w' sk sv sc x ∧ Mod No w w' := by
  have F := Nd.Fits.of hf
  obtain ⟨ws, hws⟩ : ∃ l, Nd.ws t x = l := ⟨_, rfl⟩
  obtain ⟨n6, hn6⟩ : ∃ n, 6 * t = n := ⟨_, rfl⟩
  have hwl : ws.length = n6 := by rw [← hws, Nd.ws_len, hn6]
  obtain ⟨nk, hnk⟩ : ∃ n, x.keys.length = n := ⟨_, rfl⟩
  have ht2 := F.t2
  have ht16 := F.t16
  have hkk : nk ≤ 2 * t - 1 := by rw [← hnk]; exact F.keys
  have hq := h.mod
  have HG : Hid (∀ (W : World) (bs bh : Nat), Mod No w W → W.cell? ⟨bs, 0, none⟩ = some (.pointer (some ⟨b, 0, none⟩)) → W.cell? ⟨bh, 0, none⟩ = some (.int .u64 hh) → ∀ k : Nat, k < n6 →
      Calls Tryz.prog 59 #[.int .i64 (k : Nat), .pointer (some ⟨bs, 0, none⟩), .pointer (some ⟨bh, 0, none⟩)] W fun e w' => e = .returned (.int .u64 (ws.getD k 0)) ∧ W = w') := Lib.hid (fun W bs bh hm c0 c1 k hk => by
    have hx : ws[k]? = some (ws[k]'(by rw [hwl]; exact hk)) := List.getElem?_eq_getElem _
    have e : ws.getD k 0 = ws[k]'(by rw [hwl]; exact hk) := by rw [List.getD_eq_getElem?_getD, hx]; rfl
    rw [e]
    exact get1_call c0 c1 (stget_call (h.more hm) i hi I h0 (.ok j r L k rfl _ (by rw [hw, hws]; exact hx))))
  have hl1 : ∀ W, Mod No w W → Calls Tryz.prog 48 #[.pointer (some ⟨b, 0, none⟩), .int .u64 0] W fun e w' => e = .returned (.tuple #[.int .i64 0, .int .i64 7]) ∧ W = w' := fun W hm => stlen_call (h.more hm) i hi I (hh := 0) (by omega) (.stale T.at_zero)
  have hl2 : ∀ W, Mod No w W → Calls Tryz.prog 48 #[.pointer (some ⟨b, 0, none⟩), .int .u64 hh] W fun e w' => e = .returned (.tuple #[.int .i64 (n6 : Nat), .int .i64 0]) ∧ W = w' := fun W hm => by
    have := stlen_call (h.more hm) i hi I h0 (.ok j r L)
    rw [hw, Nd.ws_len, hn6] at this
    exact this
  have hs := fun W => is_call (t : Int) W
  rw [show Nd.degB (t : Int) = true by unfold Nd.degB; simp; omega] at hs
  have HS := Lib.hid hs
  have HL1 := Lib.hid hl1
  have HL2 := Lib.hid hl2
  have HF := Lib.hid (And.intro F (And.intro hf (And.intro hws (And.intro hwl (And.intro hxo hnk)))))
  have e0 : ws.getD 0 0 = (nk : Int) := by rw [← hws, Nd.ws_many F, hnk]
  have e1 : ws.getD 1 0 = x.size := by rw [← hws, Nd.ws_size F]
  have h1 := (((((Sep.nil w).pushCells #[.pointer (some ⟨b, 0, none⟩)] 46).pushCells #[.int .u64 hh] 55).pushCells #[.slice none 0 0, .slice none 0 0, .slice none 0 0, .int .u64 0] 54).pushCells #[.int .i64 0] 39)
  simp only [World.size_alloc] at h1
  obtain ⟨B, hB⟩ : ∃ B, w.heap.size = B := ⟨_, rfl⟩
  rw [hB] at h1
  obtain ⟨W1, hW1⟩ : ∃ W, (((w.alloc (.cells #[.pointer (some ⟨b, 0, none⟩)] 46)).alloc (.cells #[.int .u64 hh] 55)).alloc (.cells #[.slice none 0 0, .slice none 0 0, .slice none 0 0, .int .u64 0] 54)).alloc (.cells #[.int .i64 0] 39) = W := ⟨_, rfl⟩
  rw [hW1] at h1
  have h1 : Sep No w W1 [cellsAt B #[.pointer (some ⟨b, 0, none⟩)] 46, cellsAt (B + 1) #[.int .u64 hh] 55, cellsAt (B + 1 + 1) #[.slice none 0 0, .slice none 0 0, .slice none 0 0, .int .u64 0] 54, cellsAt (B + 1 + 1 + 1) #[.int .i64 0] 39] := h1
  have H1 := Lib.hid h1
  have m1 := Lib.hid h1.mod
  have hq1 := HL1.out W1 h1.mod
  have hq2 := HL2.out W1 h1.mod
  have c3 := (h1.cell 0 rfl 0 (v := .pointer (some ⟨b, 0, none⟩)) rfl).1
  have c5 := (h1.cell 1 rfl 0 (v := .int .u64 hh) rfl).1
  have e6 : IntKind.i64.wrap (6 * (t : Int)) = (n6 : Int) := by rw [IntKind.wrap_i64]; omega
  have e6' : 6 * (t : Int) = (n6 : Int) := by omega
  have dn : ((n6 : Int) != (n6 : Int)) = false := bneF rfl
  have e7 : IntKind.i64.wrap (2 * (t : Int)) = 2 * (t : Int) := by rw [IntKind.wrap_i64]; omega
  have e8 : IntKind.i64.wrap (2 * (t : Int) - 1) = 2 * (t : Int) - 1 := by rw [IntKind.wrap_i64]; omega
  have e9 : IntKind.u64.wrap (2 * (t : Int) - 1) = 2 * (t : Int) - 1 := by rw [IntKind.wrap_u64]; omega
  have dg : decide (2 * (t : Int) - 1 < (nk : Int)) = false := ltF (by omega)
  have hg0 := fun W bs bh hm c0 c1 => HG.out W bs bh hm c0 c1 0 (by omega)
  have hg1 := fun W bs bh hm c0 c1 => HG.out W bs bh hm c0 c1 1 (by omega)
  rw [e0] at hg0
  rw [e1] at hg1
  have HG0 := Lib.hid hg0
  have HG1 := Lib.hid hg1
  clear h hi I h0 L hf hw F hq hl1 hl2 hs hws hwl hnk hxo h1 e0 e1 hg0 hg1 hn6
  refine (callsIn_wide (n := 4)).1 ?_
  refine callsIn_of_wp_marks Tryz.func22 rfl trivial ?_ rfl
  simp only [Tryz.ntmps22, List.size_toArray, List.length_cons, List.length_nil, Nat.reduceAdd, Nat.reduceSub, Array.replicate_succ, Array.replicate_zero, List.push_toArray, List.append_toArray, List.nil_append, List.cons_append]
  refine wpIn_wide.2 ?_
  go_wp2_with fail
  refine hq1.mono ?_
  rintro e w' ⟨rfl, rfl⟩
  clear hq1
  go_wp2_with fail
  refine (HS.out _).mono ?_
  rintro e w' ⟨rfl, rfl⟩
  go_wp2_with fail
  refine hq2.mono ?_
  rintro e w' ⟨rfl, rfl⟩
  clear hq2
  have h2 := H1.out.pushCells #[.nilFunc] 98
  obtain ⟨C, hC⟩ : ∃ C, W1.heap.size = C := ⟨_, rfl⟩
  obtain ⟨W2, hW2⟩ : ∃ W, W1.alloc (.cells #[.nilFunc] 98) = W := ⟨_, rfl⟩
  rw [hC, hW2] at h2
  obtain ⟨k12, f12⟩ := h2.cell 4 rfl 0 (v := .nilFunc) rfl
  have h3 := h2.set 4 rfl 0 (.func (.func 59) #[] #[.pointer (some ⟨B, 0, none⟩), .pointer (some ⟨B + 1, 0, none⟩)])
  obtain ⟨W3, hW3⟩ : ∃ W, W2.setCell ⟨C, 0, none⟩ (.func (.func 59) #[] #[.pointer (some ⟨B, 0, none⟩), .pointer (some ⟨B + 1, 0, none⟩)]) = W := ⟨_, rfl⟩
  rw [hW3] at h3
  have h3 : Sep No w W3 [cellsAt B #[.pointer (some ⟨b, 0, none⟩)] 46, cellsAt (B + 1) #[.int .u64 hh] 55, cellsAt (B + 1 + 1) #[.slice none 0 0, .slice none 0 0, .slice none 0 0, .int .u64 0] 54, cellsAt (B + 1 + 1 + 1) #[.int .i64 0] 39, cellsAt C #[.func (.func 59) #[] #[.pointer (some ⟨B, 0, none⟩), .pointer (some ⟨B + 1, 0, none⟩)]] 98] := h3
  have hc0 := HG0.out W3 B (B + 1) h3.mod (h3.cell 0 rfl 0 (v := .pointer (some ⟨b, 0, none⟩)) rfl).1 (h3.cell 1 rfl 0 (v := .int .u64 hh) rfl).1
  have hc1 := HG1.out W3 B (B + 1) h3.mod (h3.cell 0 rfl 0 (v := .pointer (some ⟨b, 0, none⟩)) rfl).1 (h3.cell 1 rfl 0 (v := .int .u64 hh) rfl).1
  have k12' := (h3.cell 4 rfl 0 (v := .func (.func 59) #[] #[.pointer (some ⟨B, 0, none⟩), .pointer (some ⟨B + 1, 0, none⟩)]) rfl).1
  have H3 := Lib.hid h3
  clear h2 h3
  go_wp2_with fail
  refine hc0.mono ?_
  rintro e w' ⟨rfl, rfl⟩
  go_wp2_with fail
  refine hc1.mono ?_
  rintro e w' ⟨rfl, rfl⟩
  clear hc1
  have h4 := H3.out.pushCells (bnC (.slice none 0 0) (.slice none 0 0) (.slice none 0 0) x.size) 54
  obtain ⟨D, hD⟩ : ∃ D, W3.heap.size = D := ⟨_, rfl⟩
  obtain ⟨W4, hW4⟩ : ∃ W, W3.alloc (.cells #[.slice none 0 0, .slice none 0 0, .slice none 0 0, .int .u64 x.size] 54) = W := ⟨_, rfl⟩
  rw [hD, hW4] at h4
  have h4 : Sep No w W4 (GPs B C D b hh (.slice none 0 0) (.slice none 0 0) (.slice none 0 0) x.size 0 0 0 [] [] []) := ((h4.pushNil 55 1).pushNil 55 1).pushNil 55 1
  have hc0 := HG0.out W4 B (B + 1) h4.mod (h4.cell 0 rfl 0 (v := .pointer (some ⟨b, 0, none⟩)) rfl).1 (h4.cell 1 rfl 0 (v := .int .u64 hh) rfl).1
  have k13 := (h4.cell 4 rfl 0 (v := .func (.func 59) #[] #[.pointer (some ⟨B, 0, none⟩), .pointer (some ⟨B + 1, 0, none⟩)]) rfl).1
  have H4 := Lib.hid h4
  have e10 : IntKind.i64.wrap (nk : Int) = (nk : Int) := by rw [IntKind.wrap_i64]; omega
  clear h4
  go_wp2_with fail
  refine hc0.mono ?_
  rintro e w' ⟨rfl, rfl⟩
  clear hc0 k12 k12' f12 k13 c3 c5
  go_wp2_with fail
  go_loopw [63] (fun kv wr => ∃ k : Nat, kv = .int .i64 k ∧ k ≤ nk ∧ ∃ sk ck sv cv, Sep No w wr (GPs B C D b hh (.slice sk k ck) (.slice sv k cv) (.slice none 0 0) x.size k k 0 (x.keys.take k) (x.vals.take k) [])) (fun kv _ => nk - (RowKit.intOf kv).toNat)
  case atStart => exact ⟨0, rfl, Nat.zero_le _, none, 0, none, 0, H4.out⟩
  case round =>
    obtain ⟨k, rfl, hk, sk, ck, sv, cv, h⟩ := hrel
    clear H4
    by_cases hlt : k < nk
    · have hkl : (k : Int) < (nk : Int) := by omega
      have hg1 : IntKind.i64.wrap (2 * (k : Int)) = 2 * (k : Int) := by rw [IntKind.wrap_i64]; omega
      have hg2 : IntKind.i64.wrap (2 + 2 * (k : Int)) = 2 + 2 * (k : Int) := by rw [IntKind.wrap_i64]; omega
      have hg3 : IntKind.i64.wrap (2 + 2 * (k : Int) + 1) = 2 + 2 * (k : Int) + 1 := by rw [IntKind.wrap_i64]; omega
      have HK1 : Hid (k + 1 ≤ nk ∧ nk - (k + 1) < nk - k) := by exact Lib.hid ⟨by omega, by omega⟩
      obtain ⟨i0, hi0, hz0, hz1, hz2⟩ := info_parts infoHnd
      have Hh := Lib.hid h
      clear h
      go_upto_region 18 with fail
      go_cut [] from 66 to 75 (fun wx => ∃ s' c', Sep No w wx (GPs B C D b hh (.slice s' (k + 1) c') (.slice sv k cv) (.slice none 0 0) x.size (k + 1) k 0 (x.keys.take (k + 1)) (x.vals.take k) []))
      case first =>
        obtain ⟨y, hy⟩ : ∃ y, ws.getD (2 + 2 * k) 0 = y := ⟨_, rfl⟩
        have h := Hh.out.drew
        have hg := HG.out _ B (B + 1) h.mod (h.cell 0 rfl 0 (v := .pointer (some ⟨b, 0, none⟩)) rfl).1 (h.cell 1 rfl 0 (v := .int .u64 hh) rfl).1 (2 + 2 * k) (by omega)
        rw [hy, show ((2 + 2 * k : Nat) : Int) = 2 + 2 * (k : Int) by omega] at hg
        have HY : Hid (x.keys.take (k + 1) = x.keys.take k ++ [y]) := by exact Lib.hid (by rw [takeD_succ HF.out.2.2.2.2.2 hlt, ← Nd.ws_key HF.out.1 (by rw [HF.out.2.2.2.2.2]; exact hlt), HF.out.2.2.1, hy])
        have k12 := (h.cell 4 rfl 0 (v := .func (.func 59) #[] #[.pointer (some ⟨B, 0, none⟩), .pointer (some ⟨B + 1, 0, none⟩)]) rfl).1
        have k12w := (Hh.out.cell 4 rfl 0 (v := .func (.func 59) #[] #[.pointer (some ⟨B, 0, none⟩), .pointer (some ⟨B + 1, 0, none⟩)]) rfl).1
        have kd := (h.cell 5 rfl 0 (v := .slice sk k ck) rfl).1
        have hA := h.alloc (.cells #[.int .u64 y] 55)
        have hHA := (hA.cell 4 rfl 0 (v := .func (.func 59) #[] #[.pointer (some ⟨B, 0, none⟩), .pointer (some ⟨B + 1, 0, none⟩)]) rfl).1
        have kdA := (hA.cell 5 rfl 0 (v := .slice sk k ck) rfl).1
        have hsrc := src_one (World.drew wr) y
        have kdB := (((Hh.out.alloc (.cells #[.int .u64 y] 55)).drew).cell 5 rfl 0 (v := .slice sk k ck) rfl).1
        clear hy
        refine region_only ?_
        refine wp_region_held_drew (S := fun w' => w'.cell? ⟨C, 0, none⟩ = some (.func (.func 59) #[] #[.pointer (some ⟨B, 0, none⟩), .pointer (some ⟨B + 1, 0, none⟩)])) (by kernel_rfl) k12w (fun hHeld => ?_)
        refine wpAnyH_takeD (i := 0) (v := ?_) (some 66) rfl (by rfl) (by kernel_rfl) (by kernel_rfl) (by kernel_rfl) (fun _ _ _ h => h) (Or.inl ⟨by rfl, ?_⟩) (by assumption) ?_
        rotate_left
        · intro w hSw
          try dsimp only at hSw
          go_simp
          try with_reducible rfl
        simp only [Act.put, List.setIfInBounds_toArray, List.set_cons_zero, List.set_cons_succ]
        refine wpAnyH_takeD (i := 2) (v := ?_) (some 68) rfl (by rfl) (by kernel_rfl) (by kernel_rfl) (by kernel_rfl) (fun _ _ _ h => h) (Or.inl ⟨by rfl, ?_⟩) (by assumption) ?_
        rotate_left
        · intro w hSw
          try dsimp only at hSw
          go_simp
          try with_reducible rfl
        simp only [Act.put, List.setIfInBounds_toArray, List.set_cons_zero, List.set_cons_succ]
        refine wpAnyH_takeD (i := 3) (v := ?_) (some 69) rfl (by rfl) (by kernel_rfl) (by kernel_rfl) (by kernel_rfl) (fun _ _ _ h => h) (Or.inl ⟨by rfl, ?_⟩) (by assumption) ?_
        rotate_left
        · intro w hSw
          try dsimp only at hSw
          go_simp
          try with_reducible rfl
        simp only [Act.put, List.setIfInBounds_toArray, List.set_cons_zero, List.set_cons_succ]
        refine wpAnyH_takeD (i := 4) (v := ?_) (some 70) rfl (by rfl) (by kernel_rfl) (by kernel_rfl) (by kernel_rfl) (fun _ _ _ h => h) (Or.inl ⟨by rfl, ?_⟩) (by assumption) ?_
        rotate_left
        · intro w hSw
          try dsimp only at hSw
          go_simp
          try with_reducible rfl
        simp only [Act.put, List.setIfInBounds_toArray, List.set_cons_zero, List.set_cons_succ]
        refine wpAnyH_takeD (i := 5) (v := ?_) (some 71) rfl (by rfl) (by kernel_rfl) (by kernel_rfl) (by kernel_rfl) (fun _ _ _ h => h) (Or.inl ⟨by rfl, ?_⟩) (by assumption) ?_
        rotate_left
        · intro w hSw
          try dsimp only at hSw
          go_simp
          try with_reducible rfl
        simp only [Act.put, List.setIfInBounds_toArray, List.set_cons_zero, List.set_cons_succ]
        refine wpAnyH_ready (rs := [1, 6]) (by kernel_rfl) (by simp) ?_
        refine AllReadyH.cons rfl (fun K hK => ?_) (AllReadyH.cons rfl (fun K hK => ?_) AllReadyH.nil)
        · skip
          go_simp
          refine hK.out _ _ hHeld (fun _ => ?_)
          clear hK K
          try simp only [Act.put, List.setIfInBounds_toArray, List.set_cons_zero, List.set_cons_succ]
          refine wpAnyH_ready (rs := [6]) (by kernel_rfl) (by simp) ?_
          refine AllReadyH.cons rfl (fun K hK => ?_) AllReadyH.nil
          go_simp
          refine hg.mono ?_
          rintro e wq ⟨rfl, rfl⟩
          refine hK.out _ _ hHeld (fun _ => ?_)
          clear hK K
          try simp only [Act.put, List.setIfInBounds_toArray, List.set_cons_zero, List.set_cons_succ]
          refine wpAnyH_ready (rs := [7]) (by kernel_rfl) (by simp) ?_
          refine AllReadyH.cons rfl (fun K hK => ?_) AllReadyH.nil
          go_simp
          have hHeld := hHA
          refine hK.out _ _ hHeld (fun _ => ?_)
          clear hK K
          try simp only [Act.put, List.setIfInBounds_toArray, List.set_cons_zero, List.set_cons_succ]
          refine wpAnyH_ready (rs := [8]) (by kernel_rfl) (by simp) ?_
          refine AllReadyH.cons rfl (fun K hK => ?_) AllReadyH.nil
          refine oper_append_src hA 6 rfl _ _ 50 (by rfl) Tryz.underlying50 hi0 hz0 hz1 hz2 rfl (by decide) (by rfl) _ (by rfl) hsrc (by unfold maxLen; omega) (by omega) ?_
          intro s9 c9 w9 h9
          have hHeld := (h9.cell 4 rfl 0 (v := .func (.func 59) #[] #[.pointer (some ⟨B, 0, none⟩), .pointer (some ⟨B + 1, 0, none⟩)]) rfl).1
          refine hK.out _ _ hHeld (fun _ => ?_)
          clear hK K
          try simp only [Act.put, List.setIfInBounds_toArray, List.set_cons_zero, List.set_cons_succ]
          refine wpAnyH_takeD (i := 9) (v := ?_) (some 75) rfl (by rfl) (by kernel_rfl) (by kernel_rfl) (by kernel_rfl) (fun _ _ _ h => h) (Or.inl ⟨by rfl, ?_⟩) (by assumption) ?_
          rotate_left
          · intro w hSw
            try dsimp only at hSw
            go_simp
            try with_reducible rfl
          simp only [Act.put, List.setIfInBounds_toArray, List.set_cons_zero, List.set_cons_succ]
          obtain ⟨kd9, fd9⟩ := h9.cell 5 rfl 0 (v := .slice sk k ck) rfl
          have hx := h9.set 5 rfl 0 (.slice s9 (k + 1) c9)
          have HX := Lib.hid hx
          refine wpAnyH_ready (rs := [10]) (by kernel_rfl) (by simp) ?_
          refine AllReadyH.cons rfl (fun K hK => ?_) AllReadyH.nil
          go_simp
          have hHeld := (hx.cell 4 rfl 0 (v := .func (.func 59) #[] #[.pointer (some ⟨B, 0, none⟩), .pointer (some ⟨B + 1, 0, none⟩)]) rfl).1
          refine hK.out _ _ hHeld (fun _ => ?_)
          clear hK K
          clear hx h9
          refine wpAnyH_done (by kernel_rfl) ?_ _
          try dsimp only
          go_wp2_with fail
          go_meet
          case rel => exact ⟨s9, c9, by rw [HY.out]; unfold GPs hR; rw [List.map_append]; exact HX.out⟩
        · skip
          go_simp
          refine hg.mono ?_
          rintro e wq ⟨rfl, rfl⟩
          refine hK.out _ _ hHeld (fun _ => ?_)
          clear hK K
          try simp only [Act.put, List.setIfInBounds_toArray, List.set_cons_zero, List.set_cons_succ]
          refine wpAnyH_ready (rs := [1, 7]) (by kernel_rfl) (by simp) ?_
          refine AllReadyH.cons rfl (fun K hK => ?_) (AllReadyH.cons rfl (fun K hK => ?_) AllReadyH.nil)
          · skip
            go_simp
            refine hK.out _ _ hHeld (fun _ => ?_)
            clear hK K
            try simp only [Act.put, List.setIfInBounds_toArray, List.set_cons_zero, List.set_cons_succ]
            refine wpAnyH_ready (rs := [7]) (by kernel_rfl) (by simp) ?_
            refine AllReadyH.cons rfl (fun K hK => ?_) AllReadyH.nil
            go_simp
            have hHeld := hHA
            refine hK.out _ _ hHeld (fun _ => ?_)
            clear hK K
            try simp only [Act.put, List.setIfInBounds_toArray, List.set_cons_zero, List.set_cons_succ]
            refine wpAnyH_ready (rs := [8]) (by kernel_rfl) (by simp) ?_
            refine AllReadyH.cons rfl (fun K hK => ?_) AllReadyH.nil
            refine oper_append_src hA 6 rfl _ _ 50 (by rfl) Tryz.underlying50 hi0 hz0 hz1 hz2 rfl (by decide) (by rfl) _ (by rfl) hsrc (by unfold maxLen; omega) (by omega) ?_
            intro s9 c9 w9 h9
            have hHeld := (h9.cell 4 rfl 0 (v := .func (.func 59) #[] #[.pointer (some ⟨B, 0, none⟩), .pointer (some ⟨B + 1, 0, none⟩)]) rfl).1
            refine hK.out _ _ hHeld (fun _ => ?_)
            clear hK K
            try simp only [Act.put, List.setIfInBounds_toArray, List.set_cons_zero, List.set_cons_succ]
            refine wpAnyH_takeD (i := 9) (v := ?_) (some 75) rfl (by rfl) (by kernel_rfl) (by kernel_rfl) (by kernel_rfl) (fun _ _ _ h => h) (Or.inl ⟨by rfl, ?_⟩) (by assumption) ?_
            rotate_left
            · intro w hSw
              try dsimp only at hSw
              go_simp
              try with_reducible rfl
            simp only [Act.put, List.setIfInBounds_toArray, List.set_cons_zero, List.set_cons_succ]
            obtain ⟨kd9, fd9⟩ := h9.cell 5 rfl 0 (v := .slice sk k ck) rfl
            have hx := h9.set 5 rfl 0 (.slice s9 (k + 1) c9)
            have HX := Lib.hid hx
            refine wpAnyH_ready (rs := [10]) (by kernel_rfl) (by simp) ?_
            refine AllReadyH.cons rfl (fun K hK => ?_) AllReadyH.nil
            go_simp
            have hHeld := (hx.cell 4 rfl 0 (v := .func (.func 59) #[] #[.pointer (some ⟨B, 0, none⟩), .pointer (some ⟨B + 1, 0, none⟩)]) rfl).1
            refine hK.out _ _ hHeld (fun _ => ?_)
            clear hK K
            clear hx h9
            refine wpAnyH_done (by kernel_rfl) ?_ _
            try dsimp only
            go_wp2_with fail
            go_meet
            case rel => exact ⟨s9, c9, by rw [HY.out]; unfold GPs hR; rw [List.map_append]; exact HX.out⟩
          · skip
            go_simp
            have hHeld := hHA
            refine hK.out _ _ hHeld (fun _ => ?_)
            clear hK K
            try simp only [Act.put, List.setIfInBounds_toArray, List.set_cons_zero, List.set_cons_succ]
            refine wpAnyH_ready (rs := [1]) (by kernel_rfl) (by simp) ?_
            refine AllReadyH.cons rfl (fun K hK => ?_) AllReadyH.nil
            go_simp
            refine hK.out _ _ hHeld (fun _ => ?_)
            clear hK K
            try simp only [Act.put, List.setIfInBounds_toArray, List.set_cons_zero, List.set_cons_succ]
            refine wpAnyH_ready (rs := [8]) (by kernel_rfl) (by simp) ?_
            refine AllReadyH.cons rfl (fun K hK => ?_) AllReadyH.nil
            refine oper_append_src hA 6 rfl _ _ 50 (by rfl) Tryz.underlying50 hi0 hz0 hz1 hz2 rfl (by decide) (by rfl) _ (by rfl) hsrc (by unfold maxLen; omega) (by omega) ?_
            intro s9 c9 w9 h9
            have hHeld := (h9.cell 4 rfl 0 (v := .func (.func 59) #[] #[.pointer (some ⟨B, 0, none⟩), .pointer (some ⟨B + 1, 0, none⟩)]) rfl).1
            refine hK.out _ _ hHeld (fun _ => ?_)
            clear hK K
            try simp only [Act.put, List.setIfInBounds_toArray, List.set_cons_zero, List.set_cons_succ]
            refine wpAnyH_takeD (i := 9) (v := ?_) (some 75) rfl (by rfl) (by kernel_rfl) (by kernel_rfl) (by kernel_rfl) (fun _ _ _ h => h) (Or.inl ⟨by rfl, ?_⟩) (by assumption) ?_
            rotate_left
            · intro w hSw
              try dsimp only at hSw
              go_simp
              try with_reducible rfl
            simp only [Act.put, List.setIfInBounds_toArray, List.set_cons_zero, List.set_cons_succ]
            obtain ⟨kd9, fd9⟩ := h9.cell 5 rfl 0 (v := .slice sk k ck) rfl
            have hx := h9.set 5 rfl 0 (.slice s9 (k + 1) c9)
            have HX := Lib.hid hx
            refine wpAnyH_ready (rs := [10]) (by kernel_rfl) (by simp) ?_
            refine AllReadyH.cons rfl (fun K hK => ?_) AllReadyH.nil
            go_simp
            have hHeld := (hx.cell 4 rfl 0 (v := .func (.func 59) #[] #[.pointer (some ⟨B, 0, none⟩), .pointer (some ⟨B + 1, 0, none⟩)]) rfl).1
            refine hK.out _ _ hHeld (fun _ => ?_)
            clear hK K
            clear hx h9
            refine wpAnyH_done (by kernel_rfl) ?_ _
            try dsimp only
            go_wp2_with fail
            go_meet
            case rel => exact ⟨s9, c9, by rw [HY.out]; unfold GPs hR; rw [List.map_append]; exact HX.out⟩
      case rest =>
        clear Hh
        obtain ⟨s1, c1, h⟩ := hcut
        have Hh := Lib.hid h
        clear h
        go_upto_region 19 with fail
        obtain ⟨y, hy⟩ : ∃ y, ws.getD (2 + 2 * k + 1) 0 = y := ⟨_, rfl⟩
        have h := Hh.out.drew
        have hg := HG.out _ B (B + 1) h.mod (h.cell 0 rfl 0 (v := .pointer (some ⟨b, 0, none⟩)) rfl).1 (h.cell 1 rfl 0 (v := .int .u64 hh) rfl).1 (2 + 2 * k + 1) (by omega)
        rw [hy, show ((2 + 2 * k + 1 : Nat) : Int) = 2 + 2 * (k : Int) + 1 by omega] at hg
        have HY : Hid (x.vals.take (k + 1) = x.vals.take k ++ [y]) := by exact Lib.hid (by rw [takeD_succ (HF.out.1.vals.trans HF.out.2.2.2.2.2) hlt, ← Nd.ws_val HF.out.1 (by rw [HF.out.2.2.2.2.2]; exact hlt), HF.out.2.2.1, hy])
        have k12 := (h.cell 4 rfl 0 (v := .func (.func 59) #[] #[.pointer (some ⟨B, 0, none⟩), .pointer (some ⟨B + 1, 0, none⟩)]) rfl).1
        have k12w := (Hh.out.cell 4 rfl 0 (v := .func (.func 59) #[] #[.pointer (some ⟨B, 0, none⟩), .pointer (some ⟨B + 1, 0, none⟩)]) rfl).1
        have kd := (h.cell 5 rfl 1 (v := .slice sv k cv) rfl).1
        have hA := h.alloc (.cells #[.int .u64 y] 55)
        have hHA := (hA.cell 4 rfl 0 (v := .func (.func 59) #[] #[.pointer (some ⟨B, 0, none⟩), .pointer (some ⟨B + 1, 0, none⟩)]) rfl).1
        have kdA := (hA.cell 5 rfl 1 (v := .slice sv k cv) rfl).1
        have hsrc := src_one (World.drew wc) y
        have kdB := (((Hh.out.alloc (.cells #[.int .u64 y] 55)).drew).cell 5 rfl 1 (v := .slice sv k cv) rfl).1
        clear hy
        refine region_only ?_
        refine wp_region_held_drew (S := fun w' => w'.cell? ⟨C, 0, none⟩ = some (.func (.func 59) #[] #[.pointer (some ⟨B, 0, none⟩), .pointer (some ⟨B + 1, 0, none⟩)])) (by kernel_rfl) k12w (fun hHeld => ?_)
        refine wpAnyH_takeD (i := 0) (v := ?_) (some 76) rfl (by rfl) (by kernel_rfl) (by kernel_rfl) (by kernel_rfl) (fun _ _ _ h => h) (Or.inl ⟨by rfl, ?_⟩) (by assumption) ?_
        rotate_left
        · intro w hSw
          try dsimp only at hSw
          go_simp
          try with_reducible rfl
        simp only [Act.put, List.setIfInBounds_toArray, List.set_cons_zero, List.set_cons_succ]
        refine wpAnyH_takeD (i := 2) (v := ?_) (some 78) rfl (by rfl) (by kernel_rfl) (by kernel_rfl) (by kernel_rfl) (fun _ _ _ h => h) (Or.inl ⟨by rfl, ?_⟩) (by assumption) ?_
        rotate_left
        · intro w hSw
          try dsimp only at hSw
          go_simp
          try with_reducible rfl
        simp only [Act.put, List.setIfInBounds_toArray, List.set_cons_zero, List.set_cons_succ]
        refine wpAnyH_takeD (i := 3) (v := ?_) (some 79) rfl (by rfl) (by kernel_rfl) (by kernel_rfl) (by kernel_rfl) (fun _ _ _ h => h) (Or.inl ⟨by rfl, ?_⟩) (by assumption) ?_
        rotate_left
        · intro w hSw
          try dsimp only at hSw
          go_simp
          try with_reducible rfl
        simp only [Act.put, List.setIfInBounds_toArray, List.set_cons_zero, List.set_cons_succ]
        refine wpAnyH_takeD (i := 4) (v := ?_) (some 80) rfl (by rfl) (by kernel_rfl) (by kernel_rfl) (by kernel_rfl) (fun _ _ _ h => h) (Or.inl ⟨by rfl, ?_⟩) (by assumption) ?_
        rotate_left
        · intro w hSw
          try dsimp only at hSw
          go_simp
          try with_reducible rfl
        simp only [Act.put, List.setIfInBounds_toArray, List.set_cons_zero, List.set_cons_succ]
        refine wpAnyH_takeD (i := 5) (v := ?_) (some 81) rfl (by rfl) (by kernel_rfl) (by kernel_rfl) (by kernel_rfl) (fun _ _ _ h => h) (Or.inl ⟨by rfl, ?_⟩) (by assumption) ?_
        rotate_left
        · intro w hSw
          try dsimp only at hSw
          go_simp
          try with_reducible rfl
        simp only [Act.put, List.setIfInBounds_toArray, List.set_cons_zero, List.set_cons_succ]
        refine wpAnyH_takeD (i := 6) (v := ?_) (some 82) rfl (by rfl) (by kernel_rfl) (by kernel_rfl) (by kernel_rfl) (fun _ _ _ h => h) (Or.inl ⟨by rfl, ?_⟩) (by assumption) ?_
        rotate_left
        · intro w hSw
          try dsimp only at hSw
          go_simp
          try with_reducible rfl
        simp only [Act.put, List.setIfInBounds_toArray, List.set_cons_zero, List.set_cons_succ]
        refine wpAnyH_ready (rs := [1, 7]) (by kernel_rfl) (by simp) ?_
        refine AllReadyH.cons rfl (fun K hK => ?_) (AllReadyH.cons rfl (fun K hK => ?_) AllReadyH.nil)
        · skip
          go_simp
          refine hK.out _ _ hHeld (fun _ => ?_)
          clear hK K
          try simp only [Act.put, List.setIfInBounds_toArray, List.set_cons_zero, List.set_cons_succ]
          refine wpAnyH_ready (rs := [7]) (by kernel_rfl) (by simp) ?_
          refine AllReadyH.cons rfl (fun K hK => ?_) AllReadyH.nil
          go_simp
          refine hg.mono ?_
          rintro e wq ⟨rfl, rfl⟩
          refine hK.out _ _ hHeld (fun _ => ?_)
          clear hK K
          try simp only [Act.put, List.setIfInBounds_toArray, List.set_cons_zero, List.set_cons_succ]
          refine wpAnyH_ready (rs := [8]) (by kernel_rfl) (by simp) ?_
          refine AllReadyH.cons rfl (fun K hK => ?_) AllReadyH.nil
          go_simp
          have hHeld := hHA
          refine hK.out _ _ hHeld (fun _ => ?_)
          clear hK K
          try simp only [Act.put, List.setIfInBounds_toArray, List.set_cons_zero, List.set_cons_succ]
          refine wpAnyH_ready (rs := [9]) (by kernel_rfl) (by simp) ?_
          refine AllReadyH.cons rfl (fun K hK => ?_) AllReadyH.nil
          refine oper_append_src hA 7 rfl _ _ 50 (by rfl) Tryz.underlying50 hi0 hz0 hz1 hz2 rfl (by decide) (by rfl) _ (by rfl) hsrc (by unfold maxLen; omega) (by omega) ?_
          intro s9 c9 w9 h9
          have hHeld := (h9.cell 4 rfl 0 (v := .func (.func 59) #[] #[.pointer (some ⟨B, 0, none⟩), .pointer (some ⟨B + 1, 0, none⟩)]) rfl).1
          refine hK.out _ _ hHeld (fun _ => ?_)
          clear hK K
          try simp only [Act.put, List.setIfInBounds_toArray, List.set_cons_zero, List.set_cons_succ]
          refine wpAnyH_takeD (i := 10) (v := ?_) (some 86) rfl (by rfl) (by kernel_rfl) (by kernel_rfl) (by kernel_rfl) (fun _ _ _ h => h) (Or.inl ⟨by rfl, ?_⟩) (by assumption) ?_
          rotate_left
          · intro w hSw
            try dsimp only at hSw
            go_simp
            try with_reducible rfl
          simp only [Act.put, List.setIfInBounds_toArray, List.set_cons_zero, List.set_cons_succ]
          obtain ⟨kd9, fd9⟩ := h9.cell 5 rfl 1 (v := .slice sv k cv) rfl
          have hx := h9.set 5 rfl 1 (.slice s9 (k + 1) c9)
          have HX := Lib.hid hx
          refine wpAnyH_ready (rs := [11]) (by kernel_rfl) (by simp) ?_
          refine AllReadyH.cons rfl (fun K hK => ?_) AllReadyH.nil
          go_simp
          have hHeld := (hx.cell 4 rfl 0 (v := .func (.func 59) #[] #[.pointer (some ⟨B, 0, none⟩), .pointer (some ⟨B + 1, 0, none⟩)]) rfl).1
          refine hK.out _ _ hHeld (fun _ => ?_)
          clear hK K
          clear hx h9
          refine wpAnyH_done (by kernel_rfl) ?_ _
          try dsimp only
          have H5 : Hid (Sep No w _ (GPs B C D b hh (.slice s1 (k + 1) c1) (.slice s9 (k + 1) c9) (.slice none 0 0) x.size (k + 1) (k + 1) 0 (x.keys.take (k + 1)) (x.vals.take (k + 1)) [])) := Lib.hid (by rw [HY.out]; unfold GPs hR; rw [List.map_append]; exact HX.out)
          clear HX HY
          go_wp2_with fail
          go_roundw
          case rel => exact ⟨k + 1, by go_num, HK1.out.1, _, _, _, _, H5.out⟩
          case measure => (have := HK1.out.2; simp [RowKit.intOf]; omega)
        · skip
          go_simp
          refine hg.mono ?_
          rintro e wq ⟨rfl, rfl⟩
          refine hK.out _ _ hHeld (fun _ => ?_)
          clear hK K
          try simp only [Act.put, List.setIfInBounds_toArray, List.set_cons_zero, List.set_cons_succ]
          refine wpAnyH_ready (rs := [1, 8]) (by kernel_rfl) (by simp) ?_
          refine AllReadyH.cons rfl (fun K hK => ?_) (AllReadyH.cons rfl (fun K hK => ?_) AllReadyH.nil)
          · skip
            go_simp
            refine hK.out _ _ hHeld (fun _ => ?_)
            clear hK K
            try simp only [Act.put, List.setIfInBounds_toArray, List.set_cons_zero, List.set_cons_succ]
            refine wpAnyH_ready (rs := [8]) (by kernel_rfl) (by simp) ?_
            refine AllReadyH.cons rfl (fun K hK => ?_) AllReadyH.nil
            go_simp
            have hHeld := hHA
            refine hK.out _ _ hHeld (fun _ => ?_)
            clear hK K
            try simp only [Act.put, List.setIfInBounds_toArray, List.set_cons_zero, List.set_cons_succ]
            refine wpAnyH_ready (rs := [9]) (by kernel_rfl) (by simp) ?_
            refine AllReadyH.cons rfl (fun K hK => ?_) AllReadyH.nil
            refine oper_append_src hA 7 rfl _ _ 50 (by rfl) Tryz.underlying50 hi0 hz0 hz1 hz2 rfl (by decide) (by rfl) _ (by rfl) hsrc (by unfold maxLen; omega) (by omega) ?_
            intro s9 c9 w9 h9
            have hHeld := (h9.cell 4 rfl 0 (v := .func (.func 59) #[] #[.pointer (some ⟨B, 0, none⟩), .pointer (some ⟨B + 1, 0, none⟩)]) rfl).1
            refine hK.out _ _ hHeld (fun _ => ?_)
            clear hK K
            try simp only [Act.put, List.setIfInBounds_toArray, List.set_cons_zero, List.set_cons_succ]
            refine wpAnyH_takeD (i := 10) (v := ?_) (some 86) rfl (by rfl) (by kernel_rfl) (by kernel_rfl) (by kernel_rfl) (fun _ _ _ h => h) (Or.inl ⟨by rfl, ?_⟩) (by assumption) ?_
            rotate_left
            · intro w hSw
              try dsimp only at hSw
              go_simp
              try with_reducible rfl
            simp only [Act.put, List.setIfInBounds_toArray, List.set_cons_zero, List.set_cons_succ]
            obtain ⟨kd9, fd9⟩ := h9.cell 5 rfl 1 (v := .slice sv k cv) rfl
            have hx := h9.set 5 rfl 1 (.slice s9 (k + 1) c9)
            have HX := Lib.hid hx
            refine wpAnyH_ready (rs := [11]) (by kernel_rfl) (by simp) ?_
            refine AllReadyH.cons rfl (fun K hK => ?_) AllReadyH.nil
            go_simp
            have hHeld := (hx.cell 4 rfl 0 (v := .func (.func 59) #[] #[.pointer (some ⟨B, 0, none⟩), .pointer (some ⟨B + 1, 0, none⟩)]) rfl).1
            refine hK.out _ _ hHeld (fun _ => ?_)
            clear hK K
            clear hx h9
            refine wpAnyH_done (by kernel_rfl) ?_ _
            try dsimp only
            have H5 : Hid (Sep No w _ (GPs B C D b hh (.slice s1 (k + 1) c1) (.slice s9 (k + 1) c9) (.slice none 0 0) x.size (k + 1) (k + 1) 0 (x.keys.take (k + 1)) (x.vals.take (k + 1)) [])) := Lib.hid (by rw [HY.out]; unfold GPs hR; rw [List.map_append]; exact HX.out)
            clear HX HY
            go_wp2_with fail
            go_roundw
            case rel => exact ⟨k + 1, by go_num, HK1.out.1, _, _, _, _, H5.out⟩
            case measure => (have := HK1.out.2; simp [RowKit.intOf]; omega)
          · skip
            go_simp
            have hHeld := hHA
            refine hK.out _ _ hHeld (fun _ => ?_)
            clear hK K
            try simp only [Act.put, List.setIfInBounds_toArray, List.set_cons_zero, List.set_cons_succ]
            refine wpAnyH_ready (rs := [1]) (by kernel_rfl) (by simp) ?_
            refine AllReadyH.cons rfl (fun K hK => ?_) AllReadyH.nil
            go_simp
            refine hK.out _ _ hHeld (fun _ => ?_)
            clear hK K
            try simp only [Act.put, List.setIfInBounds_toArray, List.set_cons_zero, List.set_cons_succ]
            refine wpAnyH_ready (rs := [9]) (by kernel_rfl) (by simp) ?_
            refine AllReadyH.cons rfl (fun K hK => ?_) AllReadyH.nil
            refine oper_append_src hA 7 rfl _ _ 50 (by rfl) Tryz.underlying50 hi0 hz0 hz1 hz2 rfl (by decide) (by rfl) _ (by rfl) hsrc (by unfold maxLen; omega) (by omega) ?_
            intro s9 c9 w9 h9
            have hHeld := (h9.cell 4 rfl 0 (v := .func (.func 59) #[] #[.pointer (some ⟨B, 0, none⟩), .pointer (some ⟨B + 1, 0, none⟩)]) rfl).1
            refine hK.out _ _ hHeld (fun _ => ?_)
            clear hK K
            try simp only [Act.put, List.setIfInBounds_toArray, List.set_cons_zero, List.set_cons_succ]
            refine wpAnyH_takeD (i := 10) (v := ?_) (some 86) rfl (by rfl) (by kernel_rfl) (by kernel_rfl) (by kernel_rfl) (fun _ _ _ h => h) (Or.inl ⟨by rfl, ?_⟩) (by assumption) ?_
            rotate_left
            · intro w hSw
              try dsimp only at hSw
              go_simp
              try with_reducible rfl
            simp only [Act.put, List.setIfInBounds_toArray, List.set_cons_zero, List.set_cons_succ]
            obtain ⟨kd9, fd9⟩ := h9.cell 5 rfl 1 (v := .slice sv k cv) rfl
            have hx := h9.set 5 rfl 1 (.slice s9 (k + 1) c9)
            have HX := Lib.hid hx
            refine wpAnyH_ready (rs := [11]) (by kernel_rfl) (by simp) ?_
            refine AllReadyH.cons rfl (fun K hK => ?_) AllReadyH.nil
            go_simp
            have hHeld := (hx.cell 4 rfl 0 (v := .func (.func 59) #[] #[.pointer (some ⟨B, 0, none⟩), .pointer (some ⟨B + 1, 0, none⟩)]) rfl).1
            refine hK.out _ _ hHeld (fun _ => ?_)
            clear hK K
            clear hx h9
            refine wpAnyH_done (by kernel_rfl) ?_ _
            try dsimp only
            have H5 : Hid (Sep No w _ (GPs B C D b hh (.slice s1 (k + 1) c1) (.slice s9 (k + 1) c9) (.slice none 0 0) x.size (k + 1) (k + 1) 0 (x.keys.take (k + 1)) (x.vals.take (k + 1)) [])) := Lib.hid (by rw [HY.out]; unfold GPs hR; rw [List.map_append]; exact HX.out)
            clear HX HY
            go_wp2_with fail
            go_roundw
            case rel => exact ⟨k + 1, by go_num, HK1.out.1, _, _, _, _, H5.out⟩
            case measure => (have := HK1.out.2; simp [RowKit.intOf]; omega)
    · obtain rfl : nk = k := by omega
      have dI : decide ((nk : Int) < (nk : Int)) = false := ltF (by omega)
      have ek : x.keys.take nk = x.keys := List.take_of_length_le (by rw [HF.out.2.2.2.2.2]; exact Nat.le_refl _)
      have ev : x.vals.take nk = x.vals := List.take_of_length_le (by rw [HF.out.1.vals, HF.out.2.2.2.2.2]; exact Nat.le_refl _)
      rw [ek, ev] at h
      have H5 := Lib.hid h
      obtain ⟨nc, hnc⟩ : ∃ n, x.kids.length = n := ⟨_, rfl⟩
      have hkd : nc = 0 ∨ nc = nk + 1 := by have := HF.out.1.kids; rw [HF.out.2.2.2.2.2, hnc] at this; exact this
      have HNC := Lib.hid hnc
      clear h ek ev hlt hk hnc
      go_wp2_with fail
      go_loopw [15] (fun kv wr => ∃ k : Nat, kv = .int .i64 k ∧ k ≤ nc ∧ ∃ sc cc, Sep No w wr (GPs B C D b hh (.slice sk nk ck) (.slice sv nk cv) (.slice sc k cc) x.size nk nk k x.keys x.vals (x.kids.take k))) (fun kv _ => nc - (RowKit.intOf kv).toNat)
      case atStart => exact ⟨0, rfl, Nat.zero_le _, none, 0, H5.out⟩
      case round =>
        obtain ⟨k, rfl, hk, sc, cc, h⟩ := hrel
        clear H5
        have k12 := (h.cell 4 rfl 0 (v := .func (.func 59) #[] #[.pointer (some ⟨B, 0, none⟩), .pointer (some ⟨B + 1, 0, none⟩)]) rfl).1
        have kd0 := (h.cell 5 rfl 0 (v := .slice sk nk ck) rfl).1
        have e11 : IntKind.i64.wrap (4 * (t : Int)) = 4 * (t : Int) := by rw [IntKind.wrap_i64]; omega
        have hg := HG.out _ B (B + 1) h.mod (h.cell 0 rfl 0 (v := .pointer (some ⟨b, 0, none⟩)) rfl).1 (h.cell 1 rfl 0 (v := .int .u64 hh) rfl).1 (4 * t) (by omega)
        rw [show ((4 * t : Nat) : Int) = 4 * (t : Int) by omega] at hg
        by_cases hlt : k < nc
        · have dK : decide ((k : Int) ≤ (nk : Int)) = true := decide_eq_true (by omega)
          obtain ⟨y0, hy0⟩ : ∃ y, ws.getD (4 * t) 0 = y := ⟨_, rfl⟩
          have hy1 : y0 ≠ 0 := by
            have h1 := Nd.ws_kid HF.out.1 (k := 0) (by rw [HNC.out]; omega)
            rw [HF.out.2.2.1, Nat.add_zero, hy0] at h1
            rw [h1]
            exact Nd.kid_ne (Nd.fitB_kids HF.out.2.1) (by rw [HNC.out]; omega)
          have dy : (y0 != 0) = true := bneT hy1
          rw [hy0] at hg
          have e12 : IntKind.i64.wrap (4 * (t : Int) + (k : Int)) = 4 * (t : Int) + (k : Int) := by rw [IntKind.wrap_i64]; omega
          have HK1 : Hid (k + 1 ≤ nc ∧ nc - (k + 1) < nc - k) := by exact Lib.hid ⟨by omega, by omega⟩
          obtain ⟨i0, hi0, hz0, hz1, hz2⟩ := info_parts infoHnd
          have Hh := Lib.hid h
          clear h hy0 hy1
          go_wp2_with fail
          refine hg.mono ?_
          rintro e w' ⟨rfl, rfl⟩
          clear hg k12 kd0
          go_upto_region 24 with fail
          obtain ⟨y, hy⟩ : ∃ y, ws.getD (4 * t + k) 0 = y := ⟨_, rfl⟩
          have h := Hh.out.drew
          have hg := HG.out _ B (B + 1) h.mod (h.cell 0 rfl 0 (v := .pointer (some ⟨b, 0, none⟩)) rfl).1 (h.cell 1 rfl 0 (v := .int .u64 hh) rfl).1 (4 * t + k) (by omega)
          rw [hy, show ((4 * t + k : Nat) : Int) = 4 * (t : Int) + (k : Int) by omega] at hg
          have HY : Hid (x.kids.take (k + 1) = x.kids.take k ++ [y]) := by exact Lib.hid (by rw [takeD_succ HNC.out hlt, ← Nd.ws_kid HF.out.1 (by rw [HNC.out]; exact hlt), HF.out.2.2.1, hy])
          have k12 := (h.cell 4 rfl 0 (v := .func (.func 59) #[] #[.pointer (some ⟨B, 0, none⟩), .pointer (some ⟨B + 1, 0, none⟩)]) rfl).1
          have k12w := (Hh.out.cell 4 rfl 0 (v := .func (.func 59) #[] #[.pointer (some ⟨B, 0, none⟩), .pointer (some ⟨B + 1, 0, none⟩)]) rfl).1
          have kd := (h.cell 5 rfl 2 (v := .slice sc k cc) rfl).1
          have hA := h.alloc (.cells #[.int .u64 y] 55)
          have hHA := (hA.cell 4 rfl 0 (v := .func (.func 59) #[] #[.pointer (some ⟨B, 0, none⟩), .pointer (some ⟨B + 1, 0, none⟩)]) rfl).1
          have kdA := (hA.cell 5 rfl 2 (v := .slice sc k cc) rfl).1
          have hsrc := src_one (World.drew wr) y
          have kdB := (((Hh.out.alloc (.cells #[.int .u64 y] 55)).drew).cell 5 rfl 2 (v := .slice sc k cc) rfl).1
          clear hy
          refine region_only ?_
          refine wp_region_held_drew (S := fun w' => w'.cell? ⟨C, 0, none⟩ = some (.func (.func 59) #[] #[.pointer (some ⟨B, 0, none⟩), .pointer (some ⟨B + 1, 0, none⟩)])) (by kernel_rfl) k12w (fun hHeld => ?_)
          refine wpAnyH_takeD (i := 0) (v := ?_) (some 102) rfl (by rfl) (by kernel_rfl) (by kernel_rfl) (by kernel_rfl) (fun _ _ _ h => h) (Or.inl ⟨by rfl, ?_⟩) (by assumption) ?_
          rotate_left
          · intro w hSw
            try dsimp only at hSw
            go_simp
            try with_reducible rfl
          simp only [Act.put, List.setIfInBounds_toArray, List.set_cons_zero, List.set_cons_succ]
          refine wpAnyH_takeD (i := 2) (v := ?_) (some 104) rfl (by rfl) (by kernel_rfl) (by kernel_rfl) (by kernel_rfl) (fun _ _ _ h => h) (Or.inl ⟨by rfl, ?_⟩) (by assumption) ?_
          rotate_left
          · intro w hSw
            try dsimp only at hSw
            go_simp
            try with_reducible rfl
          simp only [Act.put, List.setIfInBounds_toArray, List.set_cons_zero, List.set_cons_succ]
          refine wpAnyH_takeD (i := 3) (v := ?_) (some 105) rfl (by rfl) (by kernel_rfl) (by kernel_rfl) (by kernel_rfl) (fun _ _ _ h => h) (Or.inl ⟨by rfl, ?_⟩) (by assumption) ?_
          rotate_left
          · intro w hSw
            try dsimp only at hSw
            go_simp
            try with_reducible rfl
          simp only [Act.put, List.setIfInBounds_toArray, List.set_cons_zero, List.set_cons_succ]
          refine wpAnyH_takeD (i := 4) (v := ?_) (some 106) rfl (by rfl) (by kernel_rfl) (by kernel_rfl) (by kernel_rfl) (fun _ _ _ h => h) (Or.inl ⟨by rfl, ?_⟩) (by assumption) ?_
          rotate_left
          · intro w hSw
            try dsimp only at hSw
            go_simp
            try with_reducible rfl
          simp only [Act.put, List.setIfInBounds_toArray, List.set_cons_zero, List.set_cons_succ]
          refine wpAnyH_takeD (i := 5) (v := ?_) (some 107) rfl (by rfl) (by kernel_rfl) (by kernel_rfl) (by kernel_rfl) (fun _ _ _ h => h) (Or.inl ⟨by rfl, ?_⟩) (by assumption) ?_
          rotate_left
          · intro w hSw
            try dsimp only at hSw
            go_simp
            try with_reducible rfl
          simp only [Act.put, List.setIfInBounds_toArray, List.set_cons_zero, List.set_cons_succ]
          refine wpAnyH_takeD (i := 6) (v := ?_) (some 108) rfl (by rfl) (by kernel_rfl) (by kernel_rfl) (by kernel_rfl) (fun _ _ _ h => h) (Or.inl ⟨by rfl, ?_⟩) (by assumption) ?_
          rotate_left
          · intro w hSw
            try dsimp only at hSw
            go_simp
            try with_reducible rfl
          simp only [Act.put, List.setIfInBounds_toArray, List.set_cons_zero, List.set_cons_succ]
          refine wpAnyH_ready (rs := [1, 7]) (by kernel_rfl) (by simp) ?_
          refine AllReadyH.cons rfl (fun K hK => ?_) (AllReadyH.cons rfl (fun K hK => ?_) AllReadyH.nil)
          · skip
            go_simp
            refine hK.out _ _ hHeld (fun _ => ?_)
            clear hK K
            try simp only [Act.put, List.setIfInBounds_toArray, List.set_cons_zero, List.set_cons_succ]
            refine wpAnyH_ready (rs := [7]) (by kernel_rfl) (by simp) ?_
            refine AllReadyH.cons rfl (fun K hK => ?_) AllReadyH.nil
            go_simp
            refine hg.mono ?_
            rintro e wq ⟨rfl, rfl⟩
            refine hK.out _ _ hHeld (fun _ => ?_)
            clear hK K
            try simp only [Act.put, List.setIfInBounds_toArray, List.set_cons_zero, List.set_cons_succ]
            refine wpAnyH_ready (rs := [8]) (by kernel_rfl) (by simp) ?_
            refine AllReadyH.cons rfl (fun K hK => ?_) AllReadyH.nil
            go_simp
            have hHeld := hHA
            refine hK.out _ _ hHeld (fun _ => ?_)
            clear hK K
            try simp only [Act.put, List.setIfInBounds_toArray, List.set_cons_zero, List.set_cons_succ]
            refine wpAnyH_ready (rs := [9]) (by kernel_rfl) (by simp) ?_
            refine AllReadyH.cons rfl (fun K hK => ?_) AllReadyH.nil
            refine oper_append_src hA 8 rfl _ _ 50 (by rfl) Tryz.underlying50 hi0 hz0 hz1 hz2 rfl (by decide) (by rfl) _ (by rfl) hsrc (by unfold maxLen; omega) (by omega) ?_
            intro s9 c9 w9 h9
            have hHeld := (h9.cell 4 rfl 0 (v := .func (.func 59) #[] #[.pointer (some ⟨B, 0, none⟩), .pointer (some ⟨B + 1, 0, none⟩)]) rfl).1
            refine hK.out _ _ hHeld (fun _ => ?_)
            clear hK K
            try simp only [Act.put, List.setIfInBounds_toArray, List.set_cons_zero, List.set_cons_succ]
            refine wpAnyH_takeD (i := 10) (v := ?_) (some 112) rfl (by rfl) (by kernel_rfl) (by kernel_rfl) (by kernel_rfl) (fun _ _ _ h => h) (Or.inl ⟨by rfl, ?_⟩) (by assumption) ?_
            rotate_left
            · intro w hSw
              try dsimp only at hSw
              go_simp
              try with_reducible rfl
            simp only [Act.put, List.setIfInBounds_toArray, List.set_cons_zero, List.set_cons_succ]
            obtain ⟨kd9, fd9⟩ := h9.cell 5 rfl 2 (v := .slice sc k cc) rfl
            have hx := h9.set 5 rfl 2 (.slice s9 (k + 1) c9)
            have HX := Lib.hid hx
            refine wpAnyH_ready (rs := [11]) (by kernel_rfl) (by simp) ?_
            refine AllReadyH.cons rfl (fun K hK => ?_) AllReadyH.nil
            go_simp
            have hHeld := (hx.cell 4 rfl 0 (v := .func (.func 59) #[] #[.pointer (some ⟨B, 0, none⟩), .pointer (some ⟨B + 1, 0, none⟩)]) rfl).1
            refine hK.out _ _ hHeld (fun _ => ?_)
            clear hK K
            clear hx h9
            refine wpAnyH_done (by kernel_rfl) ?_ _
            try dsimp only
            have H5 : Hid (Sep No w _ (GPs B C D b hh (.slice sk nk ck) (.slice sv nk cv) (.slice s9 (k + 1) c9) x.size nk nk (k + 1) x.keys x.vals (x.kids.take (k + 1)))) := Lib.hid (by rw [HY.out]; unfold GPs hR; rw [List.map_append]; exact HX.out)
            clear HX HY
            go_wp2_with fail
            go_roundw
            case rel => exact ⟨k + 1, by go_num, HK1.out.1, _, _, H5.out⟩
            case measure => (have := HK1.out.2; simp [RowKit.intOf]; omega)
          · skip
            go_simp
            refine hg.mono ?_
            rintro e wq ⟨rfl, rfl⟩
            refine hK.out _ _ hHeld (fun _ => ?_)
            clear hK K
            try simp only [Act.put, List.setIfInBounds_toArray, List.set_cons_zero, List.set_cons_succ]
            refine wpAnyH_ready (rs := [1, 8]) (by kernel_rfl) (by simp) ?_
            refine AllReadyH.cons rfl (fun K hK => ?_) (AllReadyH.cons rfl (fun K hK => ?_) AllReadyH.nil)
            · skip
              go_simp
              refine hK.out _ _ hHeld (fun _ => ?_)
              clear hK K
              try simp only [Act.put, List.setIfInBounds_toArray, List.set_cons_zero, List.set_cons_succ]
              refine wpAnyH_ready (rs := [8]) (by kernel_rfl) (by simp) ?_
              refine AllReadyH.cons rfl (fun K hK => ?_) AllReadyH.nil
              go_simp
              have hHeld := hHA
              refine hK.out _ _ hHeld (fun _ => ?_)
              clear hK K
              try simp only [Act.put, List.setIfInBounds_toArray, List.set_cons_zero, List.set_cons_succ]
              refine wpAnyH_ready (rs := [9]) (by kernel_rfl) (by simp) ?_
              refine AllReadyH.cons rfl (fun K hK => ?_) AllReadyH.nil
              refine oper_append_src hA 8 rfl _ _ 50 (by rfl) Tryz.underlying50 hi0 hz0 hz1 hz2 rfl (by decide) (by rfl) _ (by rfl) hsrc (by unfold maxLen; omega) (by omega) ?_
              intro s9 c9 w9 h9
              have hHeld := (h9.cell 4 rfl 0 (v := .func (.func 59) #[] #[.pointer (some ⟨B, 0, none⟩), .pointer (some ⟨B + 1, 0, none⟩)]) rfl).1
              refine hK.out _ _ hHeld (fun _ => ?_)
              clear hK K
              try simp only [Act.put, List.setIfInBounds_toArray, List.set_cons_zero, List.set_cons_succ]
              refine wpAnyH_takeD (i := 10) (v := ?_) (some 112) rfl (by rfl) (by kernel_rfl) (by kernel_rfl) (by kernel_rfl) (fun _ _ _ h => h) (Or.inl ⟨by rfl, ?_⟩) (by assumption) ?_
              rotate_left
              · intro w hSw
                try dsimp only at hSw
                go_simp
                try with_reducible rfl
              simp only [Act.put, List.setIfInBounds_toArray, List.set_cons_zero, List.set_cons_succ]
              obtain ⟨kd9, fd9⟩ := h9.cell 5 rfl 2 (v := .slice sc k cc) rfl
              have hx := h9.set 5 rfl 2 (.slice s9 (k + 1) c9)
              have HX := Lib.hid hx
              refine wpAnyH_ready (rs := [11]) (by kernel_rfl) (by simp) ?_
              refine AllReadyH.cons rfl (fun K hK => ?_) AllReadyH.nil
              go_simp
              have hHeld := (hx.cell 4 rfl 0 (v := .func (.func 59) #[] #[.pointer (some ⟨B, 0, none⟩), .pointer (some ⟨B + 1, 0, none⟩)]) rfl).1
              refine hK.out _ _ hHeld (fun _ => ?_)
              clear hK K
              clear hx h9
              refine wpAnyH_done (by kernel_rfl) ?_ _
              try dsimp only
              have H5 : Hid (Sep No w _ (GPs B C D b hh (.slice sk nk ck) (.slice sv nk cv) (.slice s9 (k + 1) c9) x.size nk nk (k + 1) x.keys x.vals (x.kids.take (k + 1)))) := Lib.hid (by rw [HY.out]; unfold GPs hR; rw [List.map_append]; exact HX.out)
              clear HX HY
              go_wp2_with fail
              go_roundw
              case rel => exact ⟨k + 1, by go_num, HK1.out.1, _, _, H5.out⟩
              case measure => (have := HK1.out.2; simp [RowKit.intOf]; omega)
            · skip
              go_simp
              have hHeld := hHA
              refine hK.out _ _ hHeld (fun _ => ?_)
              clear hK K
              try simp only [Act.put, List.setIfInBounds_toArray, List.set_cons_zero, List.set_cons_succ]
              refine wpAnyH_ready (rs := [1]) (by kernel_rfl) (by simp) ?_
              refine AllReadyH.cons rfl (fun K hK => ?_) AllReadyH.nil
              go_simp
              refine hK.out _ _ hHeld (fun _ => ?_)
              clear hK K
              try simp only [Act.put, List.setIfInBounds_toArray, List.set_cons_zero, List.set_cons_succ]
              refine wpAnyH_ready (rs := [9]) (by kernel_rfl) (by simp) ?_
              refine AllReadyH.cons rfl (fun K hK => ?_) AllReadyH.nil
              refine oper_append_src hA 8 rfl _ _ 50 (by rfl) Tryz.underlying50 hi0 hz0 hz1 hz2 rfl (by decide) (by rfl) _ (by rfl) hsrc (by unfold maxLen; omega) (by omega) ?_
              intro s9 c9 w9 h9
              have hHeld := (h9.cell 4 rfl 0 (v := .func (.func 59) #[] #[.pointer (some ⟨B, 0, none⟩), .pointer (some ⟨B + 1, 0, none⟩)]) rfl).1
              refine hK.out _ _ hHeld (fun _ => ?_)
              clear hK K
              try simp only [Act.put, List.setIfInBounds_toArray, List.set_cons_zero, List.set_cons_succ]
              refine wpAnyH_takeD (i := 10) (v := ?_) (some 112) rfl (by rfl) (by kernel_rfl) (by kernel_rfl) (by kernel_rfl) (fun _ _ _ h => h) (Or.inl ⟨by rfl, ?_⟩) (by assumption) ?_
              rotate_left
              · intro w hSw
                try dsimp only at hSw
                go_simp
                try with_reducible rfl
              simp only [Act.put, List.setIfInBounds_toArray, List.set_cons_zero, List.set_cons_succ]
              obtain ⟨kd9, fd9⟩ := h9.cell 5 rfl 2 (v := .slice sc k cc) rfl
              have hx := h9.set 5 rfl 2 (.slice s9 (k + 1) c9)
              have HX := Lib.hid hx
              refine wpAnyH_ready (rs := [11]) (by kernel_rfl) (by simp) ?_
              refine AllReadyH.cons rfl (fun K hK => ?_) AllReadyH.nil
              go_simp
              have hHeld := (hx.cell 4 rfl 0 (v := .func (.func 59) #[] #[.pointer (some ⟨B, 0, none⟩), .pointer (some ⟨B + 1, 0, none⟩)]) rfl).1
              refine hK.out _ _ hHeld (fun _ => ?_)
              clear hK K
              clear hx h9
              refine wpAnyH_done (by kernel_rfl) ?_ _
              try dsimp only
              have H5 : Hid (Sep No w _ (GPs B C D b hh (.slice sk nk ck) (.slice sv nk cv) (.slice s9 (k + 1) c9) x.size nk nk (k + 1) x.keys x.vals (x.kids.take (k + 1)))) := Lib.hid (by rw [HY.out]; unfold GPs hR; rw [List.map_append]; exact HX.out)
              clear HX HY
              go_wp2_with fail
              go_roundw
              case rel => exact ⟨k + 1, by go_num, HK1.out.1, _, _, H5.out⟩
              case measure => (have := HK1.out.2; simp [RowKit.intOf]; omega)
        · obtain rfl : nc = k := by omega
          have ec : x.kids.take nc = x.kids := List.take_of_length_le (by rw [HNC.out]; exact Nat.le_refl _)
          rw [ec] at h
          have hN : NdAt wr sk sv sc x := ⟨row_has h 6 rfl, row_has h 7 rfl, row_has h 8 rfl⟩
          have hV : ndV sk ck sv cv sc cc x = .agg #[.slice sk nk ck, .slice sv nk cv, .slice sc nc cc, .int .u64 x.size] := by unfold ndV; rw [HF.out.2.2.2.2.2, HF.out.1.vals, HF.out.2.2.2.2.2, HNC.out]
          have hfi := fits_call (sk := sk) (sv := sv) (ck := ck) (cv := cv) (cc := cc) hN.kids (by rw [HF.out.2.2.2.2.2]; unfold maxLen; omega) (by rw [HNC.out]; unfold maxLen; omega) (t : Int)
          rw [HF.out.2.1, hV] at hfi
          have HN := Lib.hid (And.intro hN hV)
          have kd1 := (h.cell 5 rfl 1 (v := .slice sv nk cv) rfl).1
          have kd2 := (h.cell 5 rfl 2 (v := .slice sc nc cc) rfl).1
          have kd3 := (h.cell 5 rfl 3 (v := .int .u64 x.size) rfl).1
          have H5 := Lib.hid h
          clear h ec hlt hk hN hV
          rcases hkd with rfl | rfl
          · have dK : decide ((0 : Int) ≤ (nk : Int)) = true := decide_eq_true (by omega)
            rw [← HF.out.2.2.1, Nd.ws_nokid HF.out.1 HNC.out] at hg
            go_wp2_with fail
            refine hg.mono ?_
            rintro e w' ⟨rfl, rfl⟩
            clear hg
            go_wp2_with fail
            refine hfi.mono ?_
            rintro e W5 ⟨rfl, m5⟩
            clear hfi k12 kd0 kd1 kd2 kd3
            have h6 := H5.out.more m5
            have kd0 := (h6.cell 5 rfl 0 (v := .slice sk nk ck) rfl).1
            have kd1 := (h6.cell 5 rfl 1 (v := .slice sv nk cv) rfl).1
            have kd2 := (h6.cell 5 rfl 2 (v := .slice sc 0 cc) rfl).1
            have kd3 := (h6.cell 5 rfl 3 (v := .int .u64 x.size) rfl).1
            have hnw := nwords_call (ck := ck) (cv := cv) (cc := cc) (HN.out.1.mod m5) ⟨HF.out.1.t2, HF.out.1.t16⟩ HF.out.1.keys HF.out.1.vals HF.out.1.kids
            rw [HN.out.2] at hnw
            have H6 := Lib.hid h6
            clear h6 m5 H5
            go_wp2_with fail
            refine hnw.mono ?_
            rintro e W6 ⟨BW, gw, rfl, hj⟩
            have h7 := H6.out.join hj
            clear hnw hj kd0 kd1 kd2 kd3 H6
            go_wp2_with fail
            have h6t : 6 * t = n6 := by omega
            have hws := HF.out.2.2.1
            have hlw := HF.out.2.2.2.1
            rw [h6t, hws] at h7
            have h7 : Sep No w W6 (GPs B C D b hh (.slice sk nk ck) (.slice sv nk cv) (.slice sc 0 cc) x.size nk nk 0 x.keys x.vals x.kids ++ [u64Row (.slice (some ⟨gw, 0, none⟩) n6 n6) n6 ws, cellsAt BW #[.slice (some ⟨gw, 0, none⟩) n6 n6] 154]) := h7
            have hok : ∀ v ∈ ws, 0 ≤ v ∧ v < 18446744073709551616 := by rw [← hws]; exact Nd.ws_ok (t := t) HF.out.2.2.2.2.1 (by have := HF.out.1.keys; omega)
            have hAt : AllAt BW gw n6 ws W6 := ⟨(h7.cell 10 rfl 0 (v := .slice (some ⟨gw, 0, none⟩) n6 n6) rfl).1, fun k v hv => by
              obtain ⟨g1, eg, c, _⟩ := h7.item 9 rfl (o := k) (x := .int .u64 v) (by rw [List.getElem?_map, hv]; rfl)
              cases eg
              exact c⟩
            have hsq := all_stopsK hlw (by omega) hok W6 hAt 3 (by omega)
            have hsz := h7.size
            have H7 := Lib.hid h7
            clear h7 hok hAt hws hlw h6t
            refine (wpIn_wide (n := 4)).1 ?_
            refine wpIn_rangeFunc_ownF rfl (by omega) (gf := 118) (lb := #[.pointer (some ⟨BW, 0, none⟩)]) rfl trivial (enters_of Tryz.func118 (by kernel_rfl) rfl) hsq (fun h k a => k (h a)) (fun W l o o' hl h hc hw hA => hA.own h hc) (Below.refl _ _) (fun _ => rfl)
              (fun pre W => SepB W6.heap.size No w W (GPs B C D b hh (.slice sk nk ck) (.slice sv nk cv) (.slice sc 0 cc) x.size nk nk 0 x.keys x.vals x.kids ++ [u64Row (.slice (some ⟨gw, 0, none⟩) n6 n6) n6 ws, cellsAt BW #[.slice (some ⟨gw, 0, none⟩) n6 n6] 154]))
              (fun _ _ _ => False)
              (fun s A B' row hs hg hr => hs.grown hsz hg (fun r e => (hr r e).1))
              (fun _ _ _ _ _ hs _ _ => hs)
              (SepB.of H7.out)
              ?frameA ?assignA ?bodyA ?doneA ?stopA
            case assignA =>
              intro l p W K hK
              gi_wp2
              exact hK
            case bodyA =>
              rintro l pre ⟨⟨k, v⟩, hkv, hv0, hv1⟩ W hB hlen
              have hs := hB.sep
              have hk : k < n6 := by have := (List.getElem?_eq_some_iff.1 hkv).1; rw [HF.out.2.2.2.1] at this; exact this
              have hg := HG.out W B (B + 1) hs.mod (hs.cell 0 rfl 0 (v := .pointer (some ⟨b, 0, none⟩)) rfl).1 (hs.cell 1 rfl 0 (v := .int .u64 hh) rfl).1 k hk
              rw [show ws.getD k 0 = v by rw [List.getD_eq_getElem?_getD, hkv]; rfl] at hg
              have k12 := (hs.cell 4 rfl 0 (v := .func (.func 59) #[] #[.pointer (some ⟨B, 0, none⟩), .pointer (some ⟨B + 1, 0, none⟩)]) rfl).1
              have dv : (v != v) = false := bneF rfl
              have HB := Lib.hid hB
              clear hs hB hlen hk
              gi_wp2_with fail
              refine ⟨trivial, ?_⟩
              refine (CallsIn.inRound l (callsIn_wide.2 hg)).mono ?_
              rintro e w3 ⟨rfl, rfl⟩
              clear hg
              gi_wp2
              exact ⟨KeepsOthers.refl _, fun h => h, HB.out⟩
            case doneA =>
              rintro D2 xs W hD hxs hB hK
              have h8 := hB.sep
              have kd0 := (h8.cell 5 rfl 0 (v := .slice sk nk ck) rfl).1
              have kd1 := (h8.cell 5 rfl 1 (v := .slice sv nk cv) rfl).1
              have kd2 := (h8.cell 5 rfl 2 (v := .slice sc 0 cc) rfl).1
              have kd3 := (h8.cell 5 rfl 3 (v := .int .u64 x.size) rfl).1
              obtain ⟨r0, f0⟩ := h8.cell 2 rfl 0 (v := .slice none 0 0) rfl
              obtain ⟨r1, f1⟩ := h8.cell 2 rfl 1 (v := .slice none 0 0) rfl
              obtain ⟨r2, f2⟩ := h8.cell 2 rfl 2 (v := .slice none 0 0) rfl
              obtain ⟨r3, f3⟩ := h8.cell 2 rfl 3 (v := .int .u64 0) rfl
              obtain ⟨r4, f4⟩ := h8.cell 3 rfl 0 (v := .int .i64 0) rfl
              obtain ⟨F2, hs, back⟩ := hB.step
              have hx := ((((hs.set 2 rfl 0 (.slice sk nk ck)).set 2 rfl 1 (.slice sv nk cv)).set 2 rfl 2 (.slice sc 0 cc)).set 2 rfl 3 (.int .u64 x.size)).set 3 rfl 0 (.int .i64 0)
              have hB9 := back _ _ hx (by simp only [World.size_setCell])
              have hlB : B + 1 + 1 + 1 < W6.heap.size := by
                have := World.block_lt_of_cell? W6 ⟨B + 1 + 1 + 1, 0, none⟩ (H7.out.cell 3 rfl 0 (v := .int .i64 0) rfl).1
                exact this
              have hK9 := ((((at_setCell_ne ⟨B + 1 + 1 + 1, 0, none⟩ (.int .i64 0) (b := D2) (show D2 ≠ B + 1 + 1 + 1 by omega)).trans (at_setCell_ne ⟨B + 1 + 1, 3, none⟩ (.int .u64 x.size) (b := D2) (show D2 ≠ B + 1 + 1 by omega))).trans (at_setCell_ne ⟨B + 1 + 1, 2, none⟩ (.slice sc 0 cc) (b := D2) (show D2 ≠ B + 1 + 1 by omega))).trans (at_setCell_ne ⟨B + 1 + 1, 1, none⟩ (.slice sv nk cv) (b := D2) (show D2 ≠ B + 1 + 1 by omega))).trans (at_setCell_ne ⟨B + 1 + 1, 0, none⟩ (.slice sk nk ck) (w := W) (b := D2) (show D2 ≠ B + 1 + 1 by omega))
              rw [hK] at hK9
              have HK := Lib.hid hK9
              have h10 := (hB9.grown hsz (grownBy_putObj' _ D2 (.deferred none)) (fun r e => by cases e; exact hD)).sep
              have h10 : Sep No w _ ([cellsAt B #[.pointer (some ⟨b, 0, none⟩)] 46, cellsAt (B + 1) #[.int .u64 hh] 55, cellsAt (B + 1 + 1) (bnC (.slice sk nk ck) (.slice sv nk cv) (.slice sc 0 cc) x.size) 54, cellsAt (B + 1 + 1 + 1) #[.int .i64 0] 39,
                cellsAt C #[.func (.func 59) #[] #[.pointer (some ⟨B, 0, none⟩), .pointer (some ⟨B + 1, 0, none⟩)]] 98, cellsAt D (bnC (.slice sk nk ck) (.slice sv nk cv) (.slice sc 0 cc) x.size) 54, hR (.slice sk nk ck) nk x.keys, hR (.slice sv nk cv) nk x.vals, hR (.slice sc 0 cc) 0 x.kids, u64Row (.slice (some ⟨gw, 0, none⟩) n6 n6) n6 ws, cellsAt BW #[.slice (some ⟨gw, 0, none⟩) n6 n6] 154]) := h10
              have H10 := Lib.hid h10
              clear hB hxs h8 hK hs back hx hB9 hK9 h10
              go_wp2
              clear HG HS HL1 HL2 HG0 HG1 H1 m1 H3 HNC H7
              refine ⟨by simp, .inl ⟨_, _, rfl, run_takeDeferred HK.out, ?_⟩⟩
              have q0 := (H10.out.cell 2 rfl 0 (v := .slice sk nk ck) rfl).1
              have q1 := (H10.out.cell 2 rfl 1 (v := .slice sv nk cv) rfl).1
              have q2 := (H10.out.cell 2 rfl 2 (v := .slice sc 0 cc) rfl).1
              have q3 := (H10.out.cell 2 rfl 3 (v := .int .u64 x.size) rfl).1
              have q4 := (H10.out.cell 3 rfl 0 (v := .int .i64 0) rfl).1
              have hN10 : NdAt _ sk sv sc x := ⟨row_has H10.out 6 rfl, row_has H10.out 7 rfl, row_has H10.out 8 rfl⟩
              have hm10 := H10.out.mod
              have hV := HN.out.2
              clear H10 HK r0 r1 r2 r3 r4 f0 f1 f2 f3 f4 kd0 kd1 kd2 kd3
              refine ⟨.tuple #[ndV sk ck sv cv sc cc x, .int .i64 0], ?_, sk, ck, sv, cv, sc, ⟨cc, rfl⟩, hN10, hm10⟩
              rw [hV]
              clear hN10 hm10
              generalize World.putObj _ D2 (.deferred none) = WF at *
              simp [results, Tryz.f22, go_sem, q0, q1, q2, q3, q4]
            case stopA =>
              rintro D2 c pre W hD _ h _
              exact h.elim
          · have dK : decide (((nk + 1 : Nat) : Int) ≤ (nk : Int)) = false := decide_eq_false (by omega)
            clear hg
            go_wp2_with fail
            refine hfi.mono ?_
            rintro e W5 ⟨rfl, m5⟩
            clear hfi k12 kd0 kd1 kd2 kd3
            have h6 := H5.out.more m5
            have kd0 := (h6.cell 5 rfl 0 (v := .slice sk nk ck) rfl).1
            have kd1 := (h6.cell 5 rfl 1 (v := .slice sv nk cv) rfl).1
            have kd2 := (h6.cell 5 rfl 2 (v := .slice sc (nk + 1) cc) rfl).1
            have kd3 := (h6.cell 5 rfl 3 (v := .int .u64 x.size) rfl).1
            have hnw := nwords_call (ck := ck) (cv := cv) (cc := cc) (HN.out.1.mod m5) ⟨HF.out.1.t2, HF.out.1.t16⟩ HF.out.1.keys HF.out.1.vals HF.out.1.kids
            rw [HN.out.2] at hnw
            have H6 := Lib.hid h6
            clear h6 m5 H5
            go_wp2_with fail
            refine hnw.mono ?_
            rintro e W6 ⟨BW, gw, rfl, hj⟩
            have h7 := H6.out.join hj
            clear hnw hj kd0 kd1 kd2 kd3 H6
            go_wp2_with fail
            have h6t : 6 * t = n6 := by omega
            have hws := HF.out.2.2.1
            have hlw := HF.out.2.2.2.1
            rw [h6t, hws] at h7
            have h7 : Sep No w W6 (GPs B C D b hh (.slice sk nk ck) (.slice sv nk cv) (.slice sc (nk + 1) cc) x.size nk nk (nk + 1) x.keys x.vals x.kids ++ [u64Row (.slice (some ⟨gw, 0, none⟩) n6 n6) n6 ws, cellsAt BW #[.slice (some ⟨gw, 0, none⟩) n6 n6] 154]) := h7
            have hok : ∀ v ∈ ws, 0 ≤ v ∧ v < 18446744073709551616 := by rw [← hws]; exact Nd.ws_ok (t := t) HF.out.2.2.2.2.1 (by have := HF.out.1.keys; omega)
            have hAt : AllAt BW gw n6 ws W6 := ⟨(h7.cell 10 rfl 0 (v := .slice (some ⟨gw, 0, none⟩) n6 n6) rfl).1, fun k v hv => by
              obtain ⟨g1, eg, c, _⟩ := h7.item 9 rfl (o := k) (x := .int .u64 v) (by rw [List.getElem?_map, hv]; rfl)
              cases eg
              exact c⟩
            have hsq := all_stopsK hlw (by omega) hok W6 hAt 3 (by omega)
            have hsz := h7.size
            have H7 := Lib.hid h7
            clear h7 hok hAt hws hlw h6t
            refine (wpIn_wide (n := 4)).1 ?_
            refine wpIn_rangeFunc_ownF rfl (by omega) (gf := 118) (lb := #[.pointer (some ⟨BW, 0, none⟩)]) rfl trivial (enters_of Tryz.func118 (by kernel_rfl) rfl) hsq (fun h k a => k (h a)) (fun W l o o' hl h hc hw hA => hA.own h hc) (Below.refl _ _) (fun _ => rfl)
              (fun pre W => SepB W6.heap.size No w W (GPs B C D b hh (.slice sk nk ck) (.slice sv nk cv) (.slice sc (nk + 1) cc) x.size nk nk (nk + 1) x.keys x.vals x.kids ++ [u64Row (.slice (some ⟨gw, 0, none⟩) n6 n6) n6 ws, cellsAt BW #[.slice (some ⟨gw, 0, none⟩) n6 n6] 154]))
              (fun _ _ _ => False)
              (fun s A B' row hs hg hr => hs.grown hsz hg (fun r e => (hr r e).1))
              (fun _ _ _ _ _ hs _ _ => hs)
              (SepB.of H7.out)
              ?frameB ?assignB ?bodyB ?doneB ?stopB
            case assignB =>
              intro l p W K hK
              gi_wp2
              exact hK
            case bodyB =>
              rintro l pre ⟨⟨k, v⟩, hkv, hv0, hv1⟩ W hB hlen
              have hs := hB.sep
              have hk : k < n6 := by have := (List.getElem?_eq_some_iff.1 hkv).1; rw [HF.out.2.2.2.1] at this; exact this
              have hg := HG.out W B (B + 1) hs.mod (hs.cell 0 rfl 0 (v := .pointer (some ⟨b, 0, none⟩)) rfl).1 (hs.cell 1 rfl 0 (v := .int .u64 hh) rfl).1 k hk
              rw [show ws.getD k 0 = v by rw [List.getD_eq_getElem?_getD, hkv]; rfl] at hg
              have k12 := (hs.cell 4 rfl 0 (v := .func (.func 59) #[] #[.pointer (some ⟨B, 0, none⟩), .pointer (some ⟨B + 1, 0, none⟩)]) rfl).1
              have dv : (v != v) = false := bneF rfl
              have HB := Lib.hid hB
              clear hs hB hlen hk
              gi_wp2_with fail
              refine ⟨trivial, ?_⟩
              refine (CallsIn.inRound l (callsIn_wide.2 hg)).mono ?_
              rintro e w3 ⟨rfl, rfl⟩
              clear hg
              gi_wp2
              exact ⟨KeepsOthers.refl _, fun h => h, HB.out⟩
            case doneB =>
              rintro D2 xs W hD hxs hB hK
              have h8 := hB.sep
              have kd0 := (h8.cell 5 rfl 0 (v := .slice sk nk ck) rfl).1
              have kd1 := (h8.cell 5 rfl 1 (v := .slice sv nk cv) rfl).1
              have kd2 := (h8.cell 5 rfl 2 (v := .slice sc (nk + 1) cc) rfl).1
              have kd3 := (h8.cell 5 rfl 3 (v := .int .u64 x.size) rfl).1
              obtain ⟨r0, f0⟩ := h8.cell 2 rfl 0 (v := .slice none 0 0) rfl
              obtain ⟨r1, f1⟩ := h8.cell 2 rfl 1 (v := .slice none 0 0) rfl
              obtain ⟨r2, f2⟩ := h8.cell 2 rfl 2 (v := .slice none 0 0) rfl
              obtain ⟨r3, f3⟩ := h8.cell 2 rfl 3 (v := .int .u64 0) rfl
              obtain ⟨r4, f4⟩ := h8.cell 3 rfl 0 (v := .int .i64 0) rfl
              obtain ⟨F2, hs, back⟩ := hB.step
              have hx := ((((hs.set 2 rfl 0 (.slice sk nk ck)).set 2 rfl 1 (.slice sv nk cv)).set 2 rfl 2 (.slice sc (nk + 1) cc)).set 2 rfl 3 (.int .u64 x.size)).set 3 rfl 0 (.int .i64 0)
              have hB9 := back _ _ hx (by simp only [World.size_setCell])
              have hlB : B + 1 + 1 + 1 < W6.heap.size := by
                have := World.block_lt_of_cell? W6 ⟨B + 1 + 1 + 1, 0, none⟩ (H7.out.cell 3 rfl 0 (v := .int .i64 0) rfl).1
                exact this
              have hK9 := ((((at_setCell_ne ⟨B + 1 + 1 + 1, 0, none⟩ (.int .i64 0) (b := D2) (show D2 ≠ B + 1 + 1 + 1 by omega)).trans (at_setCell_ne ⟨B + 1 + 1, 3, none⟩ (.int .u64 x.size) (b := D2) (show D2 ≠ B + 1 + 1 by omega))).trans (at_setCell_ne ⟨B + 1 + 1, 2, none⟩ (.slice sc (nk + 1) cc) (b := D2) (show D2 ≠ B + 1 + 1 by omega))).trans (at_setCell_ne ⟨B + 1 + 1, 1, none⟩ (.slice sv nk cv) (b := D2) (show D2 ≠ B + 1 + 1 by omega))).trans (at_setCell_ne ⟨B + 1 + 1, 0, none⟩ (.slice sk nk ck) (w := W) (b := D2) (show D2 ≠ B + 1 + 1 by omega))
              rw [hK] at hK9
              have HK := Lib.hid hK9
              have h10 := (hB9.grown hsz (grownBy_putObj' _ D2 (.deferred none)) (fun r e => by cases e; exact hD)).sep
              have h10 : Sep No w _ ([cellsAt B #[.pointer (some ⟨b, 0, none⟩)] 46, cellsAt (B + 1) #[.int .u64 hh] 55, cellsAt (B + 1 + 1) (bnC (.slice sk nk ck) (.slice sv nk cv) (.slice sc (nk + 1) cc) x.size) 54, cellsAt (B + 1 + 1 + 1) #[.int .i64 0] 39,
                cellsAt C #[.func (.func 59) #[] #[.pointer (some ⟨B, 0, none⟩), .pointer (some ⟨B + 1, 0, none⟩)]] 98, cellsAt D (bnC (.slice sk nk ck) (.slice sv nk cv) (.slice sc (nk + 1) cc) x.size) 54, hR (.slice sk nk ck) nk x.keys, hR (.slice sv nk cv) nk x.vals, hR (.slice sc (nk + 1) cc) (nk + 1) x.kids, u64Row (.slice (some ⟨gw, 0, none⟩) n6 n6) n6 ws, cellsAt BW #[.slice (some ⟨gw, 0, none⟩) n6 n6] 154]) := h10
              have H10 := Lib.hid h10
              clear hB hxs h8 hK hs back hx hB9 hK9 h10
              go_wp2
              clear HG HS HL1 HL2 HG0 HG1 H1 m1 H3 HNC H7
              refine ⟨by simp, .inl ⟨_, _, rfl, run_takeDeferred HK.out, ?_⟩⟩
              have q0 := (H10.out.cell 2 rfl 0 (v := .slice sk nk ck) rfl).1
              have q1 := (H10.out.cell 2 rfl 1 (v := .slice sv nk cv) rfl).1
              have q2 := (H10.out.cell 2 rfl 2 (v := .slice sc (nk + 1) cc) rfl).1
              have q3 := (H10.out.cell 2 rfl 3 (v := .int .u64 x.size) rfl).1
              have q4 := (H10.out.cell 3 rfl 0 (v := .int .i64 0) rfl).1
              have hN10 : NdAt _ sk sv sc x := ⟨row_has H10.out 6 rfl, row_has H10.out 7 rfl, row_has H10.out 8 rfl⟩
              have hm10 := H10.out.mod
              have hV := HN.out.2
              clear H10 HK r0 r1 r2 r3 r4 f0 f1 f2 f3 f4 kd0 kd1 kd2 kd3
              refine ⟨.tuple #[ndV sk ck sv cv sc cc x, .int .i64 0], ?_, sk, ck, sv, cv, sc, ⟨cc, rfl⟩, hN10, hm10⟩
              rw [hV]
              clear hN10 hm10
              generalize World.putObj _ D2 (.deferred none) = WF at *
              simp [results, Tryz.f22, go_sem, q0, q1, q2, q3, q4]
            case stopB =>
              rintro D2 c pre W hD _ h _
              exact h.elim
end
end Go.Proofs.YtpcomekikeoliaaGreatDoor
