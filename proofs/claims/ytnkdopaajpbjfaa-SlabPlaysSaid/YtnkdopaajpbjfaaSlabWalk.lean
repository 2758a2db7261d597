/- slab.Slab: none, at, Read, Write, Is, Quota, New, Claim, walked. Conditions: the arena is as said; arguments are 64-bit. -/
import Derived.Test.YtnkdopaajpbjfaaSlabMem
import Derived.WalkSpells
import Derived.BigQuiet
import Derived.Deep.QuietTactic
namespace Go.Proofs.Ytnkdopaajpbjfaa
open Go Go.RowKit

variable {F0 : Nat → Prop} {w0 w : World} {Ps : List Res}

theorem none_some (w : World) (s b : Nat) (c1 : w.cell? ⟨s, 1, none⟩ = some (.map (some b))) :
    Calls Try.prog 26 #[.pointer (some ⟨s, 0, none⟩)] w fun e w' => e = .returned (.bool false) ∧ w = w' := by
  have hm := run_eql_map_nil (P := Try.prog) w 60 3 65 (some b) Try.underlying60
  go_enter Try.func26, Try.ntmps26
  go_wp2
  go_ret
  exact ⟨rfl, rfl⟩
theorem none_zero (w : World) (s : Nat) (c1 : w.cell? ⟨s, 1, none⟩ = some (.map none)) :
    Calls Try.prog 26 #[.pointer (some ⟨s, 0, none⟩)] w fun e w' => e = .returned (.bool true) ∧ w = w' := by
  have hm := run_eql_map_nil (P := Try.prog) w 60 3 65 none Try.underlying60
  go_enter Try.func26, Try.ntmps26
  go_wp2
  go_ret
  exact ⟨rfl, rfl⟩
theorem none_nil (w : World) :
    Calls Try.prog 26 #[.pointer none] w fun e w' => e = .returned (.bool true) ∧ w = w' := by
  go_enter Try.func26, Try.ntmps26
  go_wp2
  go_ret
  exact ⟨rfl, rfl⟩

section
variable {s b : Nat} {quota : Int} {L : List Nat} {p : Nat → Nat} {wd : Nat → Int}

theorem SlabM.there (h : SlabM w s b quota L p wd) :
    Calls Try.prog 26 #[.pointer (some ⟨s, 0, none⟩)] w fun e w' => e = .returned (.bool false) ∧ w = w' := none_some w s b h.c1

/-- What a page's place in the map is. -/
theorem SlabM.at_bad (h : SlabM w s b quota L p wd) (a : Int) (ha : a < 0 ∨ 67108863 < a) :
    Calls Try.prog 27 #[.pointer (some ⟨s, 0, none⟩), .int .i64 a] w fun e w' => e = .returned (.tuple #[.pointer none, .int .i64 2]) ∧ w = w' := by
  have hN := h.there
  clear h
  rcases ha with ha | ha
  · have d1 : decide (a < 0) = true := ltT ha
    clear ha
    go_enter Try.func27, Try.ntmps27
    go_wp2_with ((with_reducible refine hN.mono ?_); rintro e w' ⟨rfl, rfl⟩)
    go_ret2
    exact ⟨rfl, rfl⟩
  · have d1 : decide (a < 0) = false := ltF (by omega)
    have d2 : decide (67108863 < a) = true := ltT ha
    clear ha
    go_enter Try.func27, Try.ntmps27
    go_wp2_with ((with_reducible refine hN.mono ?_); rintro e w' ⟨rfl, rfl⟩)
    go_ret2
    exact ⟨rfl, rfl⟩

theorem SlabM.at_none (h : SlabM w s b quota L p wd) (a : Int) (h0 : 0 ≤ a) (h1 : a ≤ 67108863) (hn : (a / 64).toNat ∉ L) :
    Calls Try.prog 27 #[.pointer (some ⟨s, 0, none⟩), .int .i64 a] w fun e w' => e = .returned (.tuple #[.pointer none, .int .i64 5]) ∧ w = w' := by
  have hN := h.there
  have c1 := h.c1
  have hl := h.miss (n := a / 64) (fun k hk e => hn (by rw [show (a / 64).toNat = k by omega]; exact hk)) (by omega) (by omega)
  have d1 : decide (a < 0) = false := ltF h0
  have d2 : decide (67108863 < a) = false := ltF h1
  clear h hn
  go_enter Try.func27, Try.ntmps27
  go_wp2_with ((with_reducible refine hN.mono ?_); rintro e w' ⟨rfl, rfl⟩)
  go_ret2
  exact ⟨rfl, rfl⟩

theorem SlabM.at_some (h : SlabM w s b quota L p wd) (k j : Nat) (hk : k ∈ L) (hj : j < 64) (h1 : 64 * k + j ≤ 67108863) :
    Calls Try.prog 27 #[.pointer (some ⟨s, 0, none⟩), .int .i64 ((64 * k + j : Nat) : Int)] w fun e w' => e = .returned (.tuple #[.pointer (some ⟨p k, j, none⟩), .int .i64 0]) ∧ w = w' := by
  have hN := h.there
  have c1 := h.c1
  have hl := h.look hk
  obtain ⟨a, ha⟩ : ∃ a : Int, ((64 * k + j : Nat) : Int) = a := ⟨_, rfl⟩
  have e1 : a / 64 = (k : Int) := by omega
  have e2 : a % 64 = (j : Int) := by omega
  have h0 : 0 ≤ a := by omega
  have h2 : a ≤ 67108863 := by omega
  rw [ha]
  have d1 : decide (a < 0) = false := ltF h0
  have d2 : decide (67108863 < a) = false := ltF h2
  clear h hk ha h1
  go_enter Try.func27, Try.ntmps27
  go_wp2_with ((with_reducible refine hN.mono ?_); rintro e w' ⟨rfl, rfl⟩)
  go_ret2
  exact ⟨rfl, rfl⟩
end

/-- What is known of an arena. -/
theorem Sep.sGet (h : Sep F0 w0 w Ps) (i : Nat) {s : Nat} {S : Slb} (hi : Ps[i]? = some (slabR s S)) : ∃ b p, SlabM w s b S.quota S.pg p S.wd ∧ S.Ok ∧
    ∀ (w' : World) (b' : Nat) (p' : Nat → Nat) (S' : Slb), SlabM w' s b' S'.quota S'.pg p' S'.wd → S'.Ok → Mod (SFoot s b S.pg p) w w' → (∀ k, SFoot s b' S'.pg p' k → SFoot s b S.pg p k ∨ w.heap.size ≤ k) → Sep F0 w0 w' (Ps.set i (slabR s S')) := by
  obtain ⟨F, ⟨b, p, hM, hS, hF⟩, _, back⟩ := h.at_ i hi
  exact ⟨b, p, hM, hS, fun w' b' p' S' h1 h2 h3 h4 => back (slabR s S') w' (SFoot s b' S'.pg p') ⟨b', p', h1, h2, rfl⟩ (by rw [hF]; exact h3) (by rw [hF]; exact h4)⟩

theorem Sep.sOk (h : Sep F0 w0 w Ps) (i : Nat) {s : Nat} {S : Slb} (hi : Ps[i]? = some (slabR s S)) : S.Ok := by
  obtain ⟨_, _, _, hS, _⟩ := h.sGet i hi
  exact hS

theorem Sep.sThere (h : Sep F0 w0 w Ps) (i : Nat) {s : Nat} {S : Slb} (hi : Ps[i]? = some (slabR s S)) :
    Calls Try.prog 26 #[.pointer (some ⟨s, 0, none⟩)] w fun e w' => e = .returned (.bool false) ∧ w = w' := by
  obtain ⟨_, _, hM, _⟩ := h.sGet i hi
  exact hM.there

theorem SlabM.at_err {s b : Nat} {S : Slb} {p : Nat → Nat} (h : SlabM w s b S.quota S.pg p S.wd) (a : Int) {er : Int} (he : S.err a = er) (hne : er ≠ 0) :
    Calls Try.prog 27 #[.pointer (some ⟨s, 0, none⟩), .int .i64 a] w fun e w' => e = .returned (.tuple #[.pointer none, .int .i64 er]) ∧ w = w' := by
  unfold Slb.err at he
  split at he
  · rename_i hc
    subst he
    exact h.at_bad a hc
  split at he
  · exact absurd he.symm hne
  · rename_i hc hh
    subst he
    refine h.at_none a (by omega) (by omega) fun hin => hh (Slb.has_iff.2 ⟨by omega, hin⟩)

/-- Read. -/
theorem Sep.sRead (h : Sep F0 w0 w Ps) (i : Nat) {s : Nat} {S : Slb} (hi : Ps[i]? = some (slabR s S)) (a : Int) {x er : Int} (r : S.read a = (x, er)) :
    Calls Try.prog 12 #[.pointer (some ⟨s, 0, none⟩), .int .i64 a] w fun e w' => e = .returned (.tuple #[.int .u64 x, .int .i64 er]) ∧ w = w' := by
  obtain ⟨b, p, hM, hS, _⟩ := h.sGet i hi
  clear h hi
  unfold Slb.read at r
  split at r
  · rename_i he
    cases r
    obtain ⟨h0, h1, hin⟩ := Slb.err_zero he
    have ha : ((64 * (a.toNat / 64) + a.toNat % 64 : Nat) : Int) = a := by omega
    have hc := hM.at_some (a.toNat / 64) (a.toNat % 64) hin (Nat.mod_lt _ (by omega)) (by omega)
    have hw := hM.word hin (Nat.mod_lt a.toNat (show 0 < 64 by omega))
    rw [ha] at hc
    rw [show 64 * (a.toNat / 64) + a.toNat % 64 = a.toNat by omega] at hw
    generalize S.wd a.toNat = x at *
    generalize p (a.toNat / 64) = q at *
    generalize a.toNat % 64 = j at *
    clear hM hS he hin ha h0 h1
    go_enter Try.func12, Try.ntmps12
    go_wp2_with ((with_reducible refine hc.mono ?_); rintro e w' ⟨rfl, rfl⟩)
    go_ret2
    exact ⟨rfl, rfl⟩
  · rename_i he
    cases r
    have hc := hM.at_err a rfl he
    have hb : (S.err a != 0) = true := bneT he
    generalize S.err a = er at *
    clear hM hS he
    go_enter Try.func12, Try.ntmps12
    go_wp2_with ((with_reducible refine hc.mono ?_); rintro e w' ⟨rfl, rfl⟩)
    go_ret2
    exact ⟨rfl, rfl⟩

/-- Write. -/
theorem Sep.sWrite (h : Sep F0 w0 w Ps) (i : Nat) {s : Nat} {S : Slb} (hi : Ps[i]? = some (slabR s S)) (a v : Int) (v0 : 0 ≤ v) (v1 : v < 18446744073709551616) {er : Int} {S' : Slb} (r : S.write a v = (er, S')) :
    Calls Try.prog 13 #[.pointer (some ⟨s, 0, none⟩), .int .i64 a, .int .u64 v] w fun e w' => e = .returned (.int .i64 er) ∧ Sep F0 w0 w' (Ps.set i (slabR s S')) := by
  obtain ⟨b, p, hM, hS, back⟩ := h.sGet i hi
  have hok := Slb.write_ok hS a v v0 v1
  rw [r] at hok
  unfold Slb.write at r
  split at r
  · rename_i he
    cases r
    obtain ⟨h0, h1, hin⟩ := Slb.err_zero he
    have ha : ((64 * (a.toNat / 64) + a.toNat % 64 : Nat) : Int) = a := by omega
    have hj := Nat.mod_lt a.toNat (show 0 < 64 by omega)
    have hc := hM.at_some (a.toNat / 64) (a.toNat % 64) hin hj (by omega)
    have hw := hM.word hin hj
    have hf := hM.fz hin (a.toNat % 64)
    have hp := hM.put hin hj v
    rw [show 64 * (a.toNat / 64) + a.toNat % 64 = a.toNat by omega] at hp
    rw [ha] at hc
    have hfin := Lib.hid (back _ b p { S with wd := fun x => if x = a.toNat then v else S.wd x } hp hok ((Mod.refl _ w).setCell _ _ (.inl (.inr (.inr ⟨_, hin, rfl⟩)))) (fun k hk => .inl hk))
    generalize S.wd (64 * (a.toNat / 64) + a.toNat % 64) = x at *
    generalize p (a.toNat / 64) = q at *
    generalize a.toNat % 64 = j at *
    clear hM hS he hin ha h0 h1 hp hj h hi back hok
    go_enter Try.func13, Try.ntmps13
    go_wp2_with ((with_reducible refine hc.mono ?_); rintro e w' ⟨rfl, rfl⟩)
    go_ret
    exact ⟨rfl, hfin.out⟩
  · rename_i he
    cases r
    have hc := hM.at_err a rfl he
    have hb : (S.err a == 0) = false := beqF he
    have hfin := Lib.hid (back w b p S hM hS (Mod.refl _ w) (fun k hk => .inl hk))
    generalize S.err a = er at *
    clear hM hS he h hi back hok
    go_enter Try.func13, Try.ntmps13
    go_wp2_with ((with_reducible refine hc.mono ?_); rintro e w' ⟨rfl, rfl⟩)
    go_ret
    exact ⟨rfl, hfin.out⟩

/-- Is. -/
theorem Sep.sIs (h : Sep F0 w0 w Ps) (i : Nat) {s : Nat} {S : Slb} (hi : Ps[i]? = some (slabR s S)) (n : Int) (n0 : -9223372036854775808 ≤ n) (n1 : n ≤ 9223372036854775807) :
    Calls Try.prog 10 #[.pointer (some ⟨s, 0, none⟩), .int .i64 n] w fun e w' => e = .returned (.bool (S.has n)) ∧ w = w' := by
  obtain ⟨b, p, hM, hS, _⟩ := h.sGet i hi
  have hN := hM.there
  have c1 := hM.c1
  cases hh : S.has n with
  | true =>
    obtain ⟨h0, hin⟩ := Slb.has_iff.1 hh
    have hl := hM.look hin
    rw [show ((n.toNat : Nat) : Int) = n by omega] at hl
    generalize p n.toNat = q at *
    clear h hi hM hS hh hin
    go_enter Try.func10, Try.ntmps10
    go_wp2_with ((with_reducible refine hN.mono ?_); rintro e w' ⟨rfl, rfl⟩)
    go_ret
    exact ⟨rfl, rfl⟩
  | false =>
    have hl := hM.miss (n := n) (fun k hk e => by
      have : S.has n = true := Slb.has_iff.2 ⟨by omega, by rw [show n.toNat = k by omega]; exact hk⟩
      rw [hh] at this
      cases this) n0 n1
    clear h hi hM hS hh
    go_enter Try.func10, Try.ntmps10
    go_wp2_with ((with_reducible refine hN.mono ?_); rintro e w' ⟨rfl, rfl⟩)
    go_ret
    exact ⟨rfl, rfl⟩

/-- New. -/
theorem snew_no (q : Int) (h : q < 0 ∨ 262144 < q) (w : World) :
    Calls Try.prog 9 #[.int .i64 q] w fun e w' => e = .returned (.tuple #[.pointer none, .int .i64 2]) ∧ w = w' := by
  rcases h with h | h
  · have d1 : decide (q < 0) = true := ltT h
    clear h
    go_enter Try.func9, Try.ntmps9
    go_wp2
    go_ret2
    exact ⟨rfl, rfl⟩
  · have d1 : decide (q < 0) = false := ltF (by omega)
    have d2 : decide (262144 < q) = true := ltT h
    clear h
    go_enter Try.func9, Try.ntmps9
    go_wp2
    go_ret2
    exact ⟨rfl, rfl⟩

/-- An arena without pages. -/
def Slb.empty (q : Int) : Slb := ⟨q, [], fun _ => 0⟩
theorem Slb.empty_ok {q : Int} (h0 : 0 ≤ q) (h1 : q ≤ 262144) : (Slb.empty q).Ok :=
  ⟨h0, h1, by show 64 * ((0 : Nat) : Int) ≤ q; omega, List.Pairwise.nil, by simp [Slb.empty], fun a => ⟨Int.le_refl 0, by show (0 : Int) < _; omega⟩, fun _ _ => rfl⟩

theorem Sep.sNew (h : Sep F0 w0 w Ps) (q : Int) (h0 : 0 ≤ q) (h1 : q ≤ 262144) :
    Calls Try.prog 9 #[.int .i64 q] w fun e w' => e = .returned (.tuple #[.pointer (some ⟨w.heap.size + 1, 0, none⟩), .int .i64 0]) ∧ Sep F0 w0 w' (Ps ++ [slabR (w.heap.size + 1) (Slb.empty q)]) := by
  have d1 : decide (q < 0) = false := ltF h0
  have d2 : decide (262144 < q) = false := ltF h1
  have hmm := @run_makeMap Try.prog
  have hfin := Lib.hid (show Sep F0 w0 ((w.alloc (.map #[] 0)).alloc (.cells #[.int .i64 q, .map (some w.heap.size)] 62)) (Ps ++ [slabR (w.heap.size + 1) (Slb.empty q)]) from by
    refine h.push (slabR (w.heap.size + 1) (Slb.empty q)) (SFoot (w.heap.size + 1) w.heap.size [] (fun _ => 0)) ⟨w.heap.size, fun _ => 0, ?_, Slb.empty_ok h0 h1, rfl⟩ (((Mod.refl _ w).alloc _).alloc _) (fun k hk => ?_)
    · refine ⟨by have := heap_alloc_new (w.alloc (.map #[] 0)) (.cells #[.int .i64 q, .map (some w.heap.size)] 62); rw [World.size_alloc] at this; exact this, ⟨.map [], ?_, MapIs.nil _⟩, by simp [Slb.empty], by simp [Slb.empty], List.nodup_nil, by simp [Slb.empty]⟩
      exact (World.ownsMap_made w Try.prog 3 ptrElem).alloc _
    · rcases hk with rfl | rfl | ⟨k, hk, _⟩
      · omega
      · exact Nat.le_refl _
      · simp at hk)
  clear h h0 h1
  go_enter Try.func9, Try.ntmps9
  go_wp2
  go_ret2
  exact ⟨rfl, hfin.out⟩
end Go.Proofs.Ytnkdopaajpbjfaa
