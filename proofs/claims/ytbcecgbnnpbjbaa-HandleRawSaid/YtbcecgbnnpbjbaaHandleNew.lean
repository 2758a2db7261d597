/- A table that the law itself made (NT): its calls keep what was there before; the law's own check 'awake', walked. No condition. -/
import Derived.Test.YtbcecgbnnpbjbaaHandleLive
namespace Go.Proofs.Ytbcecgbnnpbjbaa
open Go Go.RowKit

/-- A table made since w0: nothing of w0 has changed. -/
structure NT (w0 w : World) (t : Nat) (v : Value) (T : HTbl) : Prop where
  tab : Tab w t v T
  mod : Mod (fun _ => False) w0 w
  ht : w0.heap.size ≤ t
  hv : ∀ k, v.ownBlock = some k → w0.heap.size ≤ k

theorem NT.new {w0 w w' : World} {m l : Int} (hw : Mod (fun _ => False) w0 w) (h : Tab w' w.heap.size (.slice none 0 0) ⟨m, l, []⟩) (hm : Mod (fun _ => False) w w') : NT w0 w' w.heap.size (.slice none 0 0) ⟨m, l, []⟩ :=
  ⟨h, hw.trans' hm, hw.size, by simp [Value.ownBlock]⟩

theorem NT.step {w0 w w' : World} {t : Nat} {v v' : Value} {T T' : HTbl} (h : NT w0 w t v T) (hT : Tab w' t v' T') (hm : Mod (Own t v) w w') (hv : v'.ownBlock = v.ownBlock ∨ ∀ k, v'.ownBlock = some k → w.heap.size ≤ k) : NT w0 w' t v' T' :=
  ⟨hT, h.mod.trans (hm.mono fun k _ hk => .inr (hk.elim (fun e => e ▸ h.ht) (h.hv k))), h.ht, fun k hk => hv.elim (fun e => h.hv k (e ▸ hk)) (fun e => Nat.le_trans h.mod.size (e k hk))⟩

theorem NT.open_eq {w0 w : World} {t : Nat} {v : Value} {T : HTbl} (h : NT w0 w t v T) (a : Int) (a1 : a ≤ 9223372036854775807) {hd er : Int} {T' : HTbl} (r : T.open' a = (hd, er, T')) :
    Calls Try.prog 13 #[.pointer (some ⟨t, 0, none⟩), .int .i64 a] w fun e w' => e = .returned (.tuple #[.int .u64 hd, .int .i64 er]) ∧ ∃ v', NT w0 w' t v' T' ∧ Mod (Own t v) w w' :=
  (h.tab.open_call a a1).mono fun e w' ⟨he, v', hT, hm, hv⟩ => by
    rw [r] at he hT
    exact ⟨he, v', h.step hT hm hv, hm⟩

theorem NT.close_eq {w0 w : World} {t : Nat} {v : Value} {T : HTbl} (h : NT w0 w t v T) (n : Int) (n0 : 0 ≤ n) (n1 : n < 18446744073709551616) {er : Int} {T' : HTbl} (r : T.close n = (er, T')) :
    Calls Try.prog 14 #[.pointer (some ⟨t, 0, none⟩), .int .u64 n] w fun e w' => e = .returned (.int .i64 er) ∧ NT w0 w' t v T' ∧ Mod (Own t v) w w' :=
  (h.tab.close_call n n0 n1).mono fun e w' ⟨he, hT, hm⟩ => by
    rw [r] at he hT
    exact ⟨he, h.step hT hm (.inl rfl), hm⟩

theorem NT.move_eq {w0 w : World} {t : Nat} {v : Value} {T : HTbl} (h : NT w0 w t v T) (n a : Int) (n0 : 0 ≤ n) (n1 : n < 18446744073709551616) (a1 : a ≤ 9223372036854775807) {er : Int} {T' : HTbl} (r : T.move n a = (er, T')) :
    Calls Try.prog 16 #[.pointer (some ⟨t, 0, none⟩), .int .u64 n, .int .i64 a] w fun e w' => e = .returned (.int .i64 er) ∧ NT w0 w' t v T' ∧ Mod (Own t v) w w' :=
  (h.tab.move_call n a n0 n1 a1).mono fun e w' ⟨he, hT, hm⟩ => by
    rw [r] at he hT
    exact ⟨he, h.step hT hm (.inl rfl), hm⟩

theorem NT.at_eq {w0 w : World} {t : Nat} {v : Value} {T : HTbl} (h : NT w0 w t v T) (n : Int) (n0 : 0 ≤ n) (n1 : n < 18446744073709551616) {a er : Int} (r : T.at' n = (a, er)) :
    Calls Try.prog 17 #[.pointer (some ⟨t, 0, none⟩), .int .u64 n] w fun e w' => e = .returned (.tuple #[.int .i64 a, .int .i64 er]) ∧ w = w' :=
  (h.tab.at_call n n0 n1).mono fun e w' ⟨he, hw⟩ => by rw [r] at he; exact ⟨he, hw⟩

theorem NT.live_eq {w0 w : World} {t : Nat} {v : Value} {T : HTbl} (h : NT w0 w t v T) :
    Calls Try.prog 18 #[.pointer (some ⟨t, 0, none⟩)] w fun e w' => ∃ sa cap, e = .returned (.slice sa T.live.length cap) ∧ NT w0 w' t v T ∧
      w'.ownsRow 0 31 1 (.slice sa T.live.length cap) T.live.length (T.live.map (Value.int .u64)) ∧ Mod (fun _ => False) w w' :=
  h.tab.live_call.mono fun e w' ⟨v', he, hr, hm, hn⟩ => by
    obtain ⟨rfl, hz⟩ | ⟨g, cap, rfl⟩ := Joins.ownsRow_forms hr
    · rw [hz] at hr
      exact ⟨none, 0, by rw [he, hz], h.step (h.tab.mod hm (fun x => x) (fun _ _ x => x)) (hm.mono fun _ _ x => x.elim) (.inl rfl), by rw [hz]; exact hr, hm⟩
    · exact ⟨_, _, he, h.step (h.tab.mod hm (fun x => x) (fun _ _ x => x)) (hm.mono fun _ _ x => x.elim) (.inl rfl), hr, hm⟩

theorem NT.used_eq {w0 w : World} {t : Nat} {v : Value} {T : HTbl} (h : NT w0 w t v T) :
    Calls Try.prog 15 #[.pointer (some ⟨t, 0, none⟩)] w fun e w' => e = .returned (.int .i64 T.l.length) ∧ w = w' := h.tab.used_call

theorem awake_call (w : World) : Calls Try.prog 11 #[] w fun e w' => e = .returned (.bool true) ∧ Mod (fun _ => False) w w' := by
  go_enter Try.func11, Try.ntmps11
  go_wp2_with fail
  refine (new_ok w 2 2 (by omega) (by omega) (by omega) (by omega)).mono ?_
  rintro e w0 ⟨rfl, hT0, hM0⟩
  have h0 := NT.new (Mod.refl _ w) hT0 hM0
  clear hT0 hM0
  go_wp2_with fail
  refine (h0.open_eq 10 (by omega) (hd := 4294967297) (er := 0) (T' := ⟨2, 2, [⟨1, 1, 10⟩]⟩) rfl).mono ?_
  rintro e w1 ⟨rfl, v1, h1, _⟩
  clear h0
  go_wp2_with fail
  refine (h1.open_eq 20 (by omega) (hd := 4294967298) (er := 0) (T' := ⟨2, 2, [⟨1, 1, 10⟩, ⟨1, 1, 20⟩]⟩) rfl).mono ?_
  rintro e w2 ⟨rfl, v2, h2, _⟩
  clear h1
  go_wp2_with fail
  refine (h2.open_eq 30 (by omega) (hd := 0) (er := 10) (T' := ⟨2, 2, [⟨1, 1, 10⟩, ⟨1, 1, 20⟩]⟩) rfl).mono ?_
  rintro e w3 ⟨rfl, v3, h3, _⟩
  clear h2
  go_wp2_with fail
  refine (h3.close_eq 4294967297 (by omega) (by omega) (er := 0) (T' := ⟨2, 2, [⟨0, 1, 10⟩, ⟨1, 1, 20⟩]⟩) rfl).mono ?_
  rintro e w4 ⟨rfl, h4, _⟩
  clear h3
  go_wp2_with fail
  refine (h4.open_eq 30 (by omega) (hd := 8589934593) (er := 0) (T' := ⟨2, 2, [⟨1, 2, 30⟩, ⟨1, 1, 20⟩]⟩) rfl).mono ?_
  rintro e w5 ⟨rfl, v5, h5, _⟩
  clear h4
  go_wp2_with fail
  refine (h5.at_eq 4294967297 (by omega) (by omega) (a := 0) (er := 7) rfl).mono ?_
  rintro e w6 ⟨rfl, rfl⟩
  go_wp2
  go_ret
  exact ⟨rfl, h5.mod⟩
end Go.Proofs.Ytbcecgbnnpbjbaa
