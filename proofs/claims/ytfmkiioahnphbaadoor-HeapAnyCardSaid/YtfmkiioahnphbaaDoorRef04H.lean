/- The reference of layer 4 (loftref04): Free, Alloc, walked. Conditions: the pages in memory are as said. -/
import Derived.Test.YtfmkiioahnphbaaDoorRef04G
set_option linter.unusedVariables false
set_option linter.unusedSimpArgs false
set_option maxRecDepth 100000
namespace Go.Proofs.YtfmkiioahnphbaaDoor
open Go Go.RowKit

variable {F : Nat → Prop} {w0 w : World} {b : Nat} {q : Int} {L : List RPg}
theorem RPg.Ok.bits_lt {P : RPg} (h : P.Ok) : P.bits < 2 ^ P.slots := by
  cases hl : P.lg with
  | true => rw [h.lg hl]; unfold slots; rw [if_pos hl]; decide
  | false => unfold slots; rw [if_neg (by rw [hl]; decide)]; exact (h.cls8 hl).2.2
theorem RPg.Ok.bits64 {P : RPg} (h : P.Ok) : P.bits < 18446744073709551616 := by
  have h1 := h.bits_lt
  have h2 : 2 ^ P.slots ≤ 2 ^ 64 := Nat.pow_le_pow_right (by decide) (by have := h.slots_le; omega)
  exact Nat.lt_of_lt_of_le h1 h2
/-- The pages behind a slot's leaving. -/
def leaveL (L : List RPg) (i : Nat) (P : RPg) (k : Nat) : List RPg := if Bt.clear P.bits k = 0 then L.eraseIdx i else L.set i { P with bits := Bt.clear P.bits k }
theorem rleave2_call (h : Sep F w w [rheapR b q L]) (hF : Fit4 L) (hO : ∀ P ∈ L, P.Ok) {i k : Nat} {P : RPg} (hP : L[i]? = some P) (hk : k < P.slots) :
    Calls Tryd.prog 61 #[.pointer (some ⟨b, 0, none⟩), .int .i64 (i : Nat), .int .i64 (k : Nat)] w fun e w' => (∃ v, e = .returned v) ∧ Sep F w w' [rheapR b q (leaveL L i P k)] := by
  have hPO := hO P (List.mem_of_getElem? hP)
  have h64 := hPO.bits64
  have hsl := hPO.slots_le
  have hlt := hPO.bits_lt
  have ht : ∀ j, (Bt.clear P.bits (k : Int)).testBit j = if j = k then false else P.bits.testBit j := fun j => by
    rw [Bt.clear_testBit k (by omega) j h64]
    by_cases e : j = k
    · subst e; simp
    · simp [e]
  have := rleave_call h hF hO hP hk (N' := Bt.clear P.bits k) ht (E := decide (Bt.clear P.bits k = 0)) (fun e j _ => by rw [of_decide_eq_true e]; exact Nat.zero_testBit j) (fun hj => by
    refine decide_eq_true (Nat.eq_of_testBit_eq fun j => ?_)
    rw [Nat.zero_testBit]
    by_cases hjs : j < P.slots
    · exact hj j hjs
    · rw [ht j]
      split
      · rfl
      · exact Nat.testBit_lt_two_pow (Nat.lt_of_lt_of_le hlt (Nat.pow_le_pow_right (by decide) (by omega))))
  refine this.mono fun e w' ⟨he, hs⟩ => ⟨he, ?_⟩
  unfold leaveL
  simpa using hs

theorem h4_size {x y : Value} : (Tryd.prog.info? 46).map (·.size) = some [x, y].length := by
  show _ = some 2
  kernel_rfl
theorem hld4 {F0 : Nat → Prop} {v : Value} {Ps : List Res} (h : Sep F0 w0 w Ps) (i : Nat) (hi : Ps[i]? = some (cellsAt b #[.int .i64 q, v] 46)) : w.rangeAt b 0 [.int .i64 q, v] := fun j u hu =>
  (h.cell i hi (0 + j) (v := u) (by rw [Nat.zero_add]; simpa using hu)).1


set_option maxRecDepth 100000 in
set_option maxHeartbeats 2000000 in
theorem rfree4_call (h : Sep F w w [rheapR b q L]) (hF : Fit4 L) (hO : ∀ P ∈ L, P.Ok) (a : Int) :
    Calls Tryd.prog 32 #[.pointer (some ⟨b, 0, none⟩), .int .i64 a] w fun e w' =>
      (∃ (i k : Nat) (P : RPg), FindY L a i k ∧ L[i]? = some P ∧ e = .returned (.int .i64 0) ∧ Sep F w w' [rheapR b q (leaveL L i P k)]) ∨ (FindN L a ∧ e = .returned (.int .i64 5) ∧ Sep F w w' [rheapR b q L]) := by
  obtain ⟨sa, cap, h2⟩ := rh_open h
  have hldH := Lib.hid (hld4 h2 0 rfl)
  have hc := rfind_call h2 1 q rfl hF hO a
  have H2 := Lib.hid h2
  have HF := Lib.hid (And.intro hF hO)
  obtain ⟨n, hn⟩ : ∃ n, L.length = n := ⟨_, rfl⟩
  rw [hn] at hldH hc
  have HN := Lib.hid hn
  clear h h2 hF hO hn
  go_enter Tryd.func32, Tryd.ntmps32
  go_wp2_with (first | (refine wpList_load_mid_g (by rfl) 46 _ (by rfl) b 0 (by rfl) [.int .i64 q, .slice sa n cap] _ hldH.out Tryd.underlying46 rfl h4_size ?_))
  refine hc.mono ?_
  rintro e w2 ⟨hcs, hm2⟩
  have HS : Hid (Sep F w w2 [rheapR b q L]) := rh_shut (H2.out.more hm2)
  clear hc hm2 hldH
  rcases hcs with ⟨i, k, rfl, hY⟩ | ⟨rfl, hNo⟩
  · have HY := Lib.hid hY
    obtain ⟨P, hP, hks, _⟩ := hY
    have hd := liftC HS.out 0 (R' := rheapR b q (leaveL L i P k)) rfl fun F hs => rleave2_call hs HF.out.1 HF.out.2 hP hks
    have HP := Lib.hid hP
    have hi0 : decide ((i : Int) < 0) = false := ltF (by omega)
    clear hP hks
    go_wp2_with fail
    refine hd.mono ?_
    rintro e w4 ⟨⟨v, rfl⟩, h4⟩
    have H4 : Hid (Sep F w w4 [rheapR b q (leaveL L i P k)]) := h4
    clear hd h4
    go_wp2
    go_ret
    exact .inl ⟨i, k, P, HY.out, HP.out, rfl, H4.out⟩
  · have HNo := Lib.hid hNo
    clear hNo
    go_wp2
    go_ret
    exact .inr ⟨HNo.out, rfl, HS.out⟩
end Go.Proofs.YtfmkiioahnphbaaDoor
