/- Package store, walked: New, All. Conditions: the quota, the slots, the last generation are in the document's ranges; the store's records are as said. -/
import Derived.Test.YtpcomekikeoliaaGreatDoorStoreWalk
set_option linter.unusedVariables false
set_option linter.unusedSimpArgs false
set_option maxRecDepth 100000
namespace Go.Proofs.YtpcomekikeoliaaGreatDoor
open Go Go.RowKit

variable {F F0 : Nat → Prop} {w0 w : World} {Ps : List Res}

set_option maxRecDepth 100000 in
theorem stnew_in (w : World) (q m la : Int) (q0 : 0 ≤ q) (q1 : q ≤ 262144) (m1 : 1 ≤ m) (m2 : m ≤ 65536) (l1 : 1 ≤ la) (l2 : la ≤ 4294967295) :
    Calls Tryz.prog 17 #[.int .i64 q, .int .i64 m, .int .u32 la] w fun e w' => ∃ b : Nat, e = .returned (.tuple #[.pointer (some ⟨b, 0, none⟩), .int .i64 0]) ∧ Sep No w w' [stR b m la (Slb.empty q) ⟨m, la, []⟩] := by
  have hc := (Sep.nil w).sNew q q0 q1
  have hau := (Slb.Rep.empty q0 q1).audit
  have HT := Lib.hid (fun W => new_ok W m la m1 m2 l1 l2)
  go_enter Tryz.func17, Tryz.ntmps17
  go_wp2_with fail
  refine hc.mono ?_
  rintro e w1 ⟨rfl, h1⟩
  have h1 : Sep No w w1 [slabR (w.heap.size + 1) (Slb.empty q)] := h1
  obtain ⟨s, hs⟩ : ∃ s, w.heap.size + 1 = s := ⟨_, rfl⟩
  rw [hs] at h1 ⊢
  have hn := HT.out w1
  clear hc hs
  go_wp2_with fail
  refine hn.mono ?_
  rintro e w2 ⟨rfl, ht, hm⟩
  have h2 : Sep No w w2 [slabR s (Slb.empty q), tabR w1.heap.size ⟨m, la, []⟩] := h1.tNew ht hm
  obtain ⟨t, ht⟩ : ∃ t, w1.heap.size = t := ⟨_, rfl⟩
  rw [ht] at h2 ⊢
  have hh := h2.hNew 0 rfl hau
  clear hn h1 hm ht
  go_wp2_with fail
  refine hh.mono ?_
  rintro e w3 ⟨rfl, h3⟩
  have h3 : Sep No w w3 [slabR s (Slb.empty q), tabR t ⟨m, la, []⟩, hpAt w2.heap.size s] := h3
  obtain ⟨hp, ht⟩ : ∃ t, w2.heap.size = t := ⟨_, rfl⟩
  rw [ht] at h3 ⊢
  have h4 : Sep No w (w3.alloc (.cells #[.int .i64 m, .int .u32 la, .pointer (some ⟨s, 0, none⟩), .pointer (some ⟨hp, 0, none⟩), .pointer (some ⟨t, 0, none⟩)] 110)) [slabR s (Slb.empty q), tabR t ⟨m, la, []⟩, hpAt hp s, stAt w3.heap.size m la s hp t] := h3.pushCells _ _
  have h5 : Sep No w (w3.alloc (.cells #[.int .i64 m, .int .u32 la, .pointer (some ⟨s, 0, none⟩), .pointer (some ⟨hp, 0, none⟩), .pointer (some ⟨t, 0, none⟩)] 110)) [stAt w3.heap.size m la s hp t, slabR s (Slb.empty q), hpAt hp s, tabR t ⟨m, la, []⟩] :=
    h4.pick (fun i => if i = 0 then 3 else if i = 1 then 0 else if i = 2 then 2 else 1) (fun i hi => by match i, hi with | 0, _ => rfl | 1, _ => rfl | 2, _ => rfl | 3, _ => rfl) (fun i j hi hj hij => by
      simp only [List.length_cons, List.length_nil] at hi hj
      split <;> split <;> (repeat' split) <;> omega)
  have H5 := Lib.hid (st_shut h5)
  clear hh h2 h3 h4 h5 ht
  go_wp2
  go_ret2
  exact ⟨_, rfl, H5.out⟩
theorem stnew_call (h : Sep F0 w0 w Ps) (q m la : Int) (q0 : 0 ≤ q) (q1 : q ≤ 262144) (m1 : 1 ≤ m) (m2 : m ≤ 65536) (l1 : 1 ≤ la) (l2 : la ≤ 4294967295) :
    Calls Tryz.prog 17 #[.int .i64 q, .int .i64 m, .int .u32 la] w fun e w' => ∃ b : Nat, e = .returned (.tuple #[.pointer (some ⟨b, 0, none⟩), .int .i64 0]) ∧ Sep F0 w0 w' (Ps ++ [stR b m la (Slb.empty q) ⟨m, la, []⟩]) :=
  (stnew_in w q m la q0 q1 m1 m2 l1 l2).mono fun _ _ ⟨b, he, h1⟩ => ⟨b, he, h.join h1⟩

theorem heads_len (S : Slb) : S.heads.length ≤ S.pg.length := by
  have : ∀ (L : List Nat) (nx : Int), (S.hgo L nx).length ≤ L.length := by
    intro L
    induction L with
    | nil => intro nx; simp [Slb.hgo]
    | cons p L ih =>
      intro nx
      unfold Slb.hgo
      split
      · exact Nat.le_succ_of_le (ih _)
      · exact Nat.succ_le_succ (ih _)
  exact this _ _
theorem live_len {S : Slb} (hS : S.Ok) : S.live.length ≤ 126976 := by
  have h1 := liveL_len S.heads
  have h2 := heads_len S
  have h3 := hS.fit
  have h4 := hS.q1
  show (S.heads.flatMap liveE).length ≤ _
  omega

theorem stAll_len (S : Slb) : (stAll S).length = S.live.length := List.length_map _

section
variable {b s hp t : Nat} {m la : Int} {S S' : Slb} {T T' : HTbl}

def AllRel (F : Nat → Prop) (w : World) (b : Nat) (m la : Int) (s hp t : Nat) (S : Slb) (T : HTbl) (vl : Value) (j : Nat) (v : Value) (wr : World) : Prop :=
  Sep F w wr [stAt b m la s hp t, slabR s S, hpAt hp s, tabR t T, intsAt 3 .i64 vl S.live, rowAt 55 1 v j (((stAll S).take j).map (Value.int .u64))]

end
end Go.Proofs.YtpcomekikeoliaaGreatDoor
