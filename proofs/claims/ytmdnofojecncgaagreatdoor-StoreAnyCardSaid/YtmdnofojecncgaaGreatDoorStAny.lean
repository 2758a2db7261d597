/- The plain law of package store: what Audit tells of any arena and table; where it tells OK there are records. No program stands here. No condition. -/
import Derived.Test.YtmdnofojecncgaaGreatDoorStoreAudit
set_option linter.unusedVariables false
set_option linter.unusedSimpArgs false
set_option maxRecDepth 100000
namespace Go.Proofs.YtmdnofojecncgaaGreatDoor
open Go

/-- Is a block a record that the table names? -/
def okRec (S : Slb) (T : HTbl) (a : Int) : Bool :=
  decide (T.at' (S.read a).1 = (a, 0)) && decide ((S.read (a + 1)).1 ≤ 3998) && decide ((S.room a).1 = ((Slb.roomOf ((S.read (a + 1)).1 + 2) : Nat) : Int))
def stAudit (S : Slb) (T : HTbl) : Int := if S.audit = 0 then (if S.live.all (okRec S T) = true ∧ S.live.length = T.live.length then 0 else 8) else S.audit

theorem okRec_iff {S : Slb} {T : HTbl} {a : Int} : okRec S T a = true ↔ T.at' (S.read a).1 = (a, 0) ∧ (S.read (a + 1)).1 ≤ 3998 ∧ (S.room a).1 = ((Slb.roomOf ((S.read (a + 1)).1 + 2) : Nat) : Int) := by
  unfold okRec
  simp only [Bool.and_eq_true, decide_eq_true_eq, and_assoc]
theorem stAudit_bad {S : Slb} {T : HTbl} (h0 : S.audit = 0) {j : Nat} {a : Int} (hj : S.live[j]? = some a) (hb : okRec S T a = false) : stAudit S T = 8 := by
  unfold stAudit
  rw [if_pos h0, if_neg]
  rintro ⟨h, _⟩
  have := List.all_eq_true.1 h a (List.mem_of_getElem? hj)
  rw [hb] at this
  cases this
theorem stAudit_len {S : Slb} {T : HTbl} (h0 : S.audit = 0) (hl : S.live.length ≠ T.live.length) : stAudit S T = 8 := by
  unfold stAudit
  rw [if_pos h0, if_neg (fun h => hl h.2)]
theorem stAudit_ok {S : Slb} {T : HTbl} (h0 : S.audit = 0) (hl : S.live.length = T.live.length) (h : ∀ (j : Nat) a, S.live[j]? = some a → okRec S T a = true) : stAudit S T = 0 := by
  unfold stAudit
  have hall : S.live.all (okRec S T) = true := List.all_eq_true.2 fun a ha => by
    obtain ⟨j, hj⟩ := List.mem_iff_getElem?.1 ha
    exact h j a hj
  rw [if_pos h0, if_pos ⟨hall, hl⟩]
theorem audit_08 (S : Slb) : S.audit = 0 ∨ S.audit = 8 := by
  unfold Slb.audit
  split
  · exact .inl rfl
  · exact .inr rfl
theorem stAudit_08 (S : Slb) (T : HTbl) : stAudit S T = 0 ∨ stAudit S T = 8 := by
  unfold stAudit
  split
  · split
    · exact .inl rfl
    · exact .inr rfl
  · exact audit_08 S

/-- Records of a store as it should be: Audit tells OK. -/
theorem StInv.audit0 {S : Slb} {T : HTbl} {H : List Ent} {R : List Rc} (I : StInv S T H R) : stAudit S T = 0 := by
  refine stAudit_ok I.rep.audit ?_ fun j a hj => ?_
  · rw [I.rep.live, List.length_map, HTbl.live_count, I.live, I.perm.length_eq, List.length_map]
  · obtain ⟨i, r, hi, h0, rfl⟩ := I.live_rec hj
    have hr := List.mem_of_getElem? hi
    rw [okRec_iff, I.hd_eq hr h0, I.len_eq hr h0]
    refine ⟨by rw [I.at_eq hi, if_pos h0], by have := (I.words r hr h0).1; dsimp only; omega, ?_⟩
    have h1 := I.rep.room_blk (I.mem hr h0)
    dsimp only at h1
    rw [(I.adr hr h0).2.2] at h1
    rw [h1]

/-- The record of a block. -/
def recAt (S : Slb) (a : Int) : Rc := ⟨(S.read a).1, a, (List.range (S.read (a + 1)).1.toNat).map fun k => S.wd (a.toNat + 2 + k)⟩

theorem blk_reads {S : Slb} {H : List Ent} (P : Slb.Rep S H) {x : Nat × Nat} (hb : x ∈ blks H) : S.read (x.1 : Int) = (S.wd x.1, 0) ∧ S.read ((x.1 : Int) + 1) = (S.wd (x.1 + 1), 0) ∧ S.room (x.1 : Int) = ((x.2 : Int), 0) := by
  have hr := P.blk_range hb
  have h1 := P.rdB hb (i := 0) (by omega)
  have h2 := P.rdB hb (i := 1) (by omega)
  rw [Nat.add_zero] at h1
  refine ⟨h1, ?_, P.room_blk hb⟩
  rw [← h2]; rfl

/-- Where Audit tells OK there are records. -/
theorem stAudit_inv {S : Slb} {T : HTbl} (hS : S.Ok) (hlow : ∀ k ∈ S.pg, k < 1048576) (hT : T.Ok) (h : stAudit S T = 0) : StInv S T S.heads (S.live.map (recAt S)) := by
  unfold stAudit at h
  have h0 : S.audit = 0 := by
    rcases audit_08 S with e | e
    · exact e
    · rw [if_neg (by omega)] at h; omega
  rw [if_pos h0] at h
  split at h
  case isFalse => cases h
  case isTrue hall =>
  obtain ⟨hall, hlen⟩ := hall
  have hall : ∀ a ∈ S.live, okRec S T a = true := List.all_eq_true.1 hall
  have P := Slb.audit_rep hS hlow h0
  have hlv := P.live
  have hb : ∀ x ∈ blks S.heads, T.at' (S.wd x.1) = ((x.1 : Int), 0) ∧ S.wd (x.1 + 1) ≤ 3998 ∧ x.2 = Slb.roomOf (S.wd (x.1 + 1) + 2) := fun x hx => by
    obtain ⟨e1, e2, e3⟩ := blk_reads P hx
    have := okRec_iff.1 (hall (x.1 : Int) (by rw [hlv]; exact List.mem_map.2 ⟨x, hx, rfl⟩))
    rw [e1, e2, e3] at this
    exact ⟨this.1, this.2.1, by have := this.2.2; dsimp only at this; omega⟩
  have hR : S.live.map (recAt S) = (blks S.heads).map fun x => recAt S (x.1 : Int) := by rw [hlv, List.map_map]; rfl
  have hrec : ∀ x ∈ blks S.heads, (recAt S (x.1 : Int)).h = S.wd x.1 ∧ (recAt S (x.1 : Int)).a = (x.1 : Int) ∧ (((recAt S (x.1 : Int)).w.length : Nat) : Int) = S.wd (x.1 + 1) ∧ ∀ (k : Nat) y, (recAt S (x.1 : Int)).w[k]? = some y → S.wd (x.1 + 2 + k) = y := fun x hx => by
    obtain ⟨e1, e2, e3⟩ := blk_reads P hx
    have hw := hS.words (x.1 + 1)
    refine ⟨by unfold recAt; dsimp only; rw [e1], rfl, ?_, fun k y hk => ?_⟩
    · unfold recAt
      dsimp only
      rw [List.length_map, List.length_range, e2]
      dsimp only
      omega
    · unfold recAt at hk
      dsimp only at hk
      rw [List.getElem?_map, Int.toNat_natCast] at hk
      obtain ⟨i, hi, he⟩ := Option.map_eq_some_iff.1 hk
      have hi2 := (List.getElem?_eq_some_iff.1 hi)
      obtain ⟨hi3, hi4⟩ := hi2
      rw [List.getElem_range] at hi4
      subst hi4
      exact he
  have hlive : liveR (S.live.map (recAt S)) = S.live.map (recAt S) := List.filter_eq_self.2 fun r hr => by
    rw [hR] at hr
    obtain ⟨x, hx, rfl⟩ := List.mem_map.1 hr
    exact decide_eq_true (show (0 : Int) ≤ (x.1 : Int) from Int.natCast_nonneg x.1)
  have hget : ∀ (n : Nat) r, (S.live.map (recAt S))[n]? = some r → ∃ x, (blks S.heads)[n]? = some x ∧ x ∈ blks S.heads ∧ r = recAt S (x.1 : Int) := fun n r hn => by
    rw [hR, List.getElem?_map] at hn
    obtain ⟨x, hx, rfl⟩ := Option.map_eq_some_iff.1 hn
    exact ⟨x, hx, List.mem_of_getElem? hx, rfl⟩
  have hat : ∀ (h a : Int), T.at' h = (a, 0) → ∃ s, 0 ≤ HTbl.place h ∧ T.l[(HTbl.place h).toNat]? = some s ∧ s.is = 1 ∧ s.gen = h / 4294967296 ∧ s.addr = a := fun h a e => by
    unfold HTbl.at' at e
    cases hk : T.okB h with
    | false => rw [hk] at e; simp at e
    | true =>
      rw [hk] at e
      obtain ⟨p0, s, hs, h1, h2⟩ := HTbl.okB_place hk
      rw [hs] at e
      simp at e
      exact ⟨s, p0, hs, h1, h2, e⟩
  refine ⟨P, hT, ⟨by simp, ?_, ?_⟩, ?_, ?_, ?_⟩
  · intro n m hh hn hm
    rw [List.getElem?_map] at hn hm
    obtain ⟨r, hr, e1⟩ := Option.map_eq_some_iff.1 hn
    obtain ⟨q, hq, e2⟩ := Option.map_eq_some_iff.1 hm
    obtain ⟨x, hx, hxm, rfl⟩ := hget n r hr
    obtain ⟨y, hy, hym, rfl⟩ := hget m q hq
    have a1 := (hb x hxm).1
    have a2 := (hb y hym).1
    rw [(hrec x hxm).1] at e1
    rw [(hrec y hym).1] at e2
    rw [e1] at a1
    rw [e2, a1] at a2
    have e : x.1 = y.1 := by have := congrArg Prod.fst a2; dsimp only at this; omega
    have hpw := P.pair
    rcases Nat.lt_trichotomy n m with h | h | h
    · have := List.pairwise_iff_getElem.1 hpw n m (List.getElem?_eq_some_iff.1 hx).1 (List.getElem?_eq_some_iff.1 hy).1 h
      rw [(List.getElem?_eq_some_iff.1 hx).2, (List.getElem?_eq_some_iff.1 hy).2] at this
      have := P.blk_range hxm
      omega
    · exact h
    · have := List.pairwise_iff_getElem.1 hpw m n (List.getElem?_eq_some_iff.1 hy).1 (List.getElem?_eq_some_iff.1 hx).1 h
      rw [(List.getElem?_eq_some_iff.1 hx).2, (List.getElem?_eq_some_iff.1 hy).2] at this
      have := P.blk_range hym
      omega
  · intro n hh a hn hm
    rw [List.getElem?_map] at hn hm
    obtain ⟨r, hr, rfl⟩ := Option.map_eq_some_iff.1 hn
    rw [hr] at hm
    cases hm
    obtain ⟨x, hx, hxm, rfl⟩ := hget n r hr
    obtain ⟨e1, e2, _⟩ := hrec x hxm
    obtain ⟨s, p0, hs, h1, h2, h3⟩ := hat _ _ (hb x hxm).1
    have hw := hS.words x.1
    have hbr := P.blk_range hxm
    dsimp only
    rw [e1, e2]
    exact ⟨s, p0, hs, hw.1, hw.2, by omega, fun _ => ⟨h1, h2, h3⟩, fun h => absurd h (by omega), by omega, by omega⟩
  · rw [hlive, hR, List.map_map]
    have : (blks S.heads).map (rblk ∘ fun x => recAt S (x.1 : Int)) = (blks S.heads).map id := List.map_congr_left fun x hx => by
      obtain ⟨_, e2, e3, _⟩ := hrec x hx
      show ((recAt S (x.1 : Int)).a.toNat, Slb.roomOf (((recAt S (x.1 : Int)).w.length : Int) + 2)) = x
      rw [e2, e3, ← (hb x hx).2.2, Int.toNat_natCast]
    rw [this, List.map_id]
  · intro r hr _
    rw [hR] at hr
    obtain ⟨x, hx, rfl⟩ := List.mem_map.1 hr
    obtain ⟨e1, e2, e3, e4⟩ := hrec x hx
    have hle := (hb x hx).2.1
    refine ⟨by omega, ?_, ?_, fun k y hk => ?_⟩
    · rw [e1, e2, Int.toNat_natCast]
    · rw [e2, Int.toNat_natCast, e3]
    · rw [e2, Int.toNat_natCast]; exact e4 k y hk
  · rw [hlive, List.length_map, hlen, HTbl.live_count]
end Go.Proofs.YtmdnofojecncgaaGreatDoor
