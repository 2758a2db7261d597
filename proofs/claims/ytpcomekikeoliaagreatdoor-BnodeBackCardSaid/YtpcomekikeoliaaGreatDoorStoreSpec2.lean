/- The plain law of package store: Make, Drop, Slide. No program stands here. No condition. -/
import Derived.Test.YtpcomekikeoliaaGreatDoorStoreSpec
set_option linter.unusedVariables false
set_option linter.unusedSimpArgs false
set_option maxRecDepth 100000
namespace Go.Proofs.YtpcomekikeoliaaGreatDoor
open Go

theorem blkE_some {x : Ent} (g : x.2.Good) : ∃ b, b ∈ blkE x := by
  by_cases h2 : x.2.kind = 2
  · rw [blkE_big h2]; exact ⟨_, List.mem_singleton.2 rfl⟩
  · have gs := g.small h2
    obtain ⟨i, hi⟩ := Nat.exists_testBit_of_ne_zero (x := x.2.w.toNat) (by omega)
    by_cases hlt : i < 62 / csz x.2.n.toNat
    · exact ⟨_, (mem_small gs.1).2 ⟨i, hlt, hi, rfl⟩⟩
    · rw [Nat.testBit_lt_two_pow (Nat.lt_of_lt_of_le (show x.2.w.toNat < 2 ^ (62 / csz x.2.n.toNat) by omega) (Nat.pow_le_pow_right (by omega) (by omega)))] at hi
      cases hi

/-- How many pages a block's entry has. -/
def pgs (r : Nat) : Nat := if r ≤ 28 then 1 else (r + 65) / 64
/-- A block tells its entry's pages. -/
theorem blkE_pages {x : Ent} (g : x.2.Good) {b : Nat × Nat} (hb : b ∈ blkE x) : b.1 / 64 = x.1 ∧ pgs b.2 = x.2.wide := by
  by_cases h2 : x.2.kind = 2
  · rw [blkE_big h2] at hb
    simp only [List.mem_singleton] at hb
    subst hb
    have hg := g.big h2
    unfold pgs
    dsimp only
    rw [if_neg (by omega)]
    omega
  · have hs := g.small h2
    obtain ⟨k, hk, _, rfl⟩ := (mem_small hs.1).1 hb
    have h1 := slot_in (show x.2.n.toNat < 8 by omega) hk
    have hr := csz_range (show x.2.n.toNat < 8 by omega)
    unfold pgs
    dsimp only
    rw [if_pos (by omega)]
    omega

namespace Slb
variable {S S' : Slb} {H H' : List Ent}
theorem Rep.mem_pg_blk (R : Rep S H) (k : Nat) : k ∈ S.pg ↔ ∃ b ∈ blks H, b.1 / 64 ≤ k ∧ k < b.1 / 64 + pgs b.2 := by
  rw [R.mem]
  constructor
  · rintro ⟨x, hx, h1, h2⟩
    obtain ⟨b, hb⟩ := blkE_some (R.good x hx)
    obtain ⟨e1, e2⟩ := blkE_pages (R.good x hx) hb
    exact ⟨b, mem_blks.2 ⟨x, hx, hb⟩, by omega, by omega⟩
  · rintro ⟨b, hb, h1, h2⟩
    obtain ⟨x, hx, hb⟩ := mem_blks.1 hb
    obtain ⟨e1, e2⟩ := blkE_pages (R.good x hx) hb
    exact ⟨x, hx, by omega, by omega⟩
/-- The same blocks have the same pages. -/
theorem Rep.pg_of_blks (R : Rep S H) (R' : Rep S' H') (h : (blks H).Perm (blks H')) : S.pg = S'.pg :=
  sorted_ext R.ok.sorted R'.ok.sorted fun k => by
    rw [R.mem_pg_blk, R'.mem_pg_blk]
    exact ⟨fun ⟨b, hb, h1⟩ => ⟨b, h.mem_iff.1 hb, h1⟩, fun ⟨b, hb, h1⟩ => ⟨b, h.mem_iff.2 hb, h1⟩⟩
end Slb

namespace HTbl
theorem open_cases {T : HTbl} (a : Int) (ha : 0 ≤ a) : ((T.free : Int) = T.most ∧ T.open' a = (0, 10, T)) ∨ ((T.free : Int) ≠ T.most ∧ ∃ h, T.open' a = (h, 0, T.openK a)) := by
  unfold open'
  rw [if_neg (by omega)]
  by_cases c : (T.free : Int) = T.most
  · rw [if_pos c]; exact .inl ⟨c, rfl⟩
  · rw [if_neg c]; exact .inr ⟨c, _, rfl⟩
end HTbl

theorem RcAt.same {S S' : Slb} {r : Rc} (h : RcAt S r) (e : ∀ i, i < r.w.length + 2 → S'.wd (r.a.toNat + i) = S.wd (r.a.toNat + i)) : RcAt S' r := by
  obtain ⟨h1, h2, h3, h4⟩ := h
  refine ⟨h1, ?_, ?_, fun k x hx => ?_⟩
  · have := e 0 (by omega)
    rw [Nat.add_zero] at this
    rw [this, h2]
  · rw [e 1 (by omega), h3]
  · have := (List.getElem?_eq_some_iff.1 hx).1
    rw [show r.a.toNat + 2 + k = r.a.toNat + (2 + k) by omega, e (2 + k) (by omega), show r.a.toNat + (2 + k) = r.a.toNat + 2 + k by omega, h4 k x hx]

namespace StInv
variable {S : Slb} {T : HTbl} {H : List Ent} {R : List Rc}

theorem make (I : StInv S T H R) {n : Nat} (hn : n ≤ 3998) :
    (S.halloc ((n : Int) + 2) = (0, 3, S) ∧ S.quota < ((S.pg.length : Int) + Slb.pagesOf ((n : Int) + 2)) * 64 ∧ ((n : Int) + 2 ≤ 28 → ∀ a p N k, ¬ Slb.Open H (clsOf ((n : Int) + 2)) a p N k)) ∨
    ∃ (a : Nat) (S1 : Slb) (H1 : List Ent), S.halloc ((n : Int) + 2) = (((a : Nat) : Int), 0, S1) ∧ Slb.Alloced S S1 H H1 a (Slb.roomOf ((n : Int) + 2)) ∧ Slb.AllocWay S S1 H H1 ((n : Int) + 2) a ∧ a + n + 2 ≤ 67108864 ∧
      (((T.free : Int) = T.most ∧ T.open' (a : Int) = (0, 10, T) ∧ ∃ S2 H2, S1.hfree (a : Int) = (0, S2) ∧ S2.pg = S.pg ∧ S2.quota = S.quota ∧ StInv S2 T H2 R) ∨
       ((T.free : Int) ≠ T.most ∧ ∃ h S2 S3, T.open' (a : Int) = (h, 0, T.openK a) ∧ 0 ≤ h ∧ h < 18446744073709551616 ∧ S1.write (a : Int) h = (0, S2) ∧ S2.write ((a : Int) + 1) (n : Int) = (0, S3) ∧ S3.pg = S1.pg ∧ S3.quota = S.quota ∧ (∀ q ∈ R, q.h ≠ h) ∧ StInv S3 (T.openK a) H1 (R ++ [⟨h, (a : Int), List.replicate n 0⟩]))) := by
  rcases I.rep.halloc (n := (n : Int) + 2) (by omega) (by omega) with h | ⟨a, S1, H1, e, A, W⟩
  · exact .inl h
  · have hin : (a, Slb.roomOf ((n : Int) + 2)) ∈ blks H1 := A.perm.mem_iff.2 (by simp)
    have hro := room hn
    have har := A.rep.blk_range hin
    dsimp only at har
    have hnd : (a, Slb.roomOf ((n : Int) + 2)) ∉ blks H := by
      have := A.perm.nodup_iff.1 (Slb.nodup_blks A.rep)
      rw [List.nodup_cons] at this
      exact this.1
    refine .inr ⟨a, S1, H1, e, A, W, by omega, ?_⟩
    rcases HTbl.open_cases (T := T) (a : Int) (by omega) with ⟨hf, ho⟩ | ⟨hf, h, ho⟩
    · obtain ⟨S2, H2, e2, F, _⟩ := A.rep.hfree hin
      have hp : (blks H2).Perm (blks H) := (F.perm.symm.trans A.perm).cons_inv
      refine .inl ⟨hf, ho, S2, H2, e2, F.rep.pg_of_blks I.rep hp, by rw [F.quota, A.quota], F.rep, I.tok, I.once, hp.trans I.perm, fun r hr h0 => ?_, I.live⟩
      have hb := I.mem hr h0
      have hl := room (I.words r hr h0).1
      exact (I.words r hr h0).same fun i hi => by
        rw [F.same (rblk r) (hp.mem_iff.2 hb) i (by dsimp only; omega), A.same (rblk r) hb i (by dsimp only; omega)]
    · have hrg := HTbl.open_range I.tok (a : Int)
      rw [ho] at hrg
      obtain ⟨w1, R1⟩ := A.rep.wrB hin (i := 0) (by dsimp only; omega) hrg.1 hrg.2
      obtain ⟨w2, R2⟩ := R1.wrB hin (i := 1) (by dsimp only; omega) (v := (n : Int)) (by omega) (by omega)
      dsimp only [Nat.add_zero] at w1 w2 hrg
      rw [show ((a + 1 : Nat) : Int) = (a : Int) + 1 by omega] at w2
      obtain ⟨hnew, hon⟩ := I.once.opened I.tok (a := (a : Int)) (by omega) ho
      refine .inr ⟨hf, h, _, _, ho, hrg.1, hrg.2, w1, w2, rfl, A.quota, fun q hq => hnew _ (List.mem_map.2 ⟨q, hq, rfl⟩), R2, HTbl.openK_ok I.tok _ (by omega) (by omega) hf, by simpa using hon, ?_, fun r hr h0 => ?_, ?_⟩
      · refine A.perm.trans ((I.perm.cons _).trans ?_)
        have : liveR (R ++ [⟨h, (a : Int), List.replicate n 0⟩]) = liveR R ++ [⟨h, (a : Int), List.replicate n 0⟩] := by
          unfold liveR
          rw [List.filter_append, List.filter_cons_of_pos (by simp)]
          rfl
        rw [this, List.map_append]
        refine (List.perm_append_comm (l₁ := [_])).trans ?_
        rw [List.map_singleton]
        unfold rblk
        dsimp only
        rw [List.length_replicate, Int.toNat_natCast]
      · rcases List.mem_append.1 hr with hr | hr
        · have hb := I.mem hr h0
          have hl := room (I.words r hr h0).1
          refine (I.words r hr h0).same fun i hi => ?_
          have hb1 : rblk r ∈ blks H1 := A.perm.mem_iff.2 (by simp [hb])
          have hne : ∀ x, x < n + 2 → r.a.toNat + i ≠ a + x := fun x hx e => hnd ((A.rep.apart (a := r.a.toNat + i) hb1 hin (by dsimp only; omega) (by dsimp only; omega)) ▸ hb)
          have h0' := hne 0 (by omega)
          have h1' := hne 1 (by omega)
          show (if r.a.toNat + i = a + 1 then (n : Int) else if r.a.toNat + i = a + 0 then h else S1.wd (r.a.toNat + i)) = _
          rw [if_neg h1', if_neg h0', A.same (rblk r) hb i (by dsimp only; omega)]
        · rw [List.mem_singleton.1 hr]
          refine ⟨by rw [List.length_replicate]; exact hn, ?_, ?_, fun k x hx => ?_⟩
          · show (if (a : Int).toNat = a + 1 then (n : Int) else if (a : Int).toNat = a + 0 then h else _) = h
            rw [if_neg (by omega), if_pos (by omega)]
          · show (if (a : Int).toNat + 1 = a + 1 then (n : Int) else _) = _
            rw [if_pos (by omega), List.length_replicate]
          · rw [List.getElem?_replicate] at hx
            split at hx
            · rename_i hk
              cases hx
              show (if (a : Int).toNat + 2 + k = a + 1 then (n : Int) else if (a : Int).toNat + 2 + k = a + 0 then h else S1.wd ((a : Int).toNat + 2 + k)) = 0
              rw [if_neg (by omega), if_neg (by omega), Int.toNat_natCast, show a + 2 + k = a + (2 + k) by omega]
              exact A.zero _ (by omega)
            · cases hx
      · rw [HTbl.opens_open ho, I.live]
        unfold liveR
        rw [List.filter_append, List.filter_cons_of_pos (by simp), List.length_append]
        rfl

theorem drop (I : StInv S T H R) {j : Nat} {r : Rc} (hj : R[j]? = some r) (h0 : 0 ≤ r.a) :
    ∃ S2 H2, S.hfree r.a = (0, S2) ∧ S2.quota = S.quota ∧ T.close r.h = (0, (T.close r.h).2) ∧ Slb.Freed S S2 H H2 r.a.toNat (Slb.roomOf ((r.w.length : Int) + 2)) ∧ StInv S2 (T.close r.h).2 H2 (R.set j { r with a := -1 }) := by
  have hr := List.mem_of_getElem? hj
  have hjl := (List.getElem?_eq_some_iff.1 hj).1
  obtain ⟨S2, H2, e, F, _⟩ := I.rep.hfree (I.mem hr h0)
  have had := I.adr hr h0
  dsimp only at e
  rw [had.2.2] at e
  have hok := I.once.ok (n := j) (h := r.h) (a := r.a) (by simp [hj]) (by simp [hj])
  rw [show decide (0 ≤ r.a) = true by simpa using h0] at hok
  obtain ⟨c1, c2⟩ := HTbl.opens_close hok
  obtain ⟨o1, _⟩ := I.once.closed (n := j) (h := r.h) (a := r.a) (by simp [hj]) (by simp [hj])
  obtain ⟨s1, _⟩ := liveR_split hj h0
  have s2 := liveR_drop (r' := { r with a := -1 }) hjl (by dsimp only; omega)
  have hlh : (R.set j { r with a := -1 }).map (·.h) = R.map (·.h) := by rw [List.map_set]; exact set_self (by simp [hj])
  have hla : (R.set j { r with a := -1 }).map (·.a) = (R.map (·.a)).set j (-1) := by rw [List.map_set]
  have hp : (blks H2).Perm ((liveR (R.set j { r with a := -1 })).map rblk) := by
    have hp := I.perm
    rw [s1, List.map_append, List.map_cons] at hp
    rw [s2, List.map_append]
    exact (F.perm.symm.trans (hp.trans List.perm_middle)).cons_inv
  refine ⟨S2, H2, e, F.quota, by rw [← c1], F, F.rep, ?_, by rw [hlh, hla]; exact o1, hp, fun q hq q0 => ?_, ?_⟩
  · unfold HTbl.close
    rw [if_pos hok]
    exact HTbl.shut_ok I.tok _
  · obtain ⟨i, hi, hqi⟩ := List.getElem_of_mem hq
    have hqi : (R.set j { r with a := -1 })[i]? = some q := by rw [List.getElem?_eq_getElem hi, hqi]
    rw [List.getElem?_set] at hqi
    by_cases c : j = i
    · subst c
      rw [if_pos rfl, if_pos hjl] at hqi
      cases hqi
      exact absurd q0 (by dsimp only; omega)
    · rw [if_neg c] at hqi
      have hqm := List.mem_of_getElem? hqi
      have hl := room (I.words q hqm q0).1
      exact (I.words q hqm q0).same fun i hi => F.same (rblk q) (hp.mem_iff.2 (List.mem_map.2 ⟨q, List.mem_filter.2 ⟨hq, by simpa using q0⟩, rfl⟩)) i (by dsimp only; omega)
  · have := I.live
    rw [s1] at this
    rw [s2]
    simp only [List.length_append, List.length_cons] at this ⊢
    omega

theorem slide (I : StInv S T H R) {j : Nat} {r : Rc} (hj : R[j]? = some r) (h0 : 0 ≤ r.a) :
    ∃ (tq : Nat) (S2 : Slb) (H2 : List Ent), S.hslide r.a = (((tq : Nat) : Int), 0, S2) ∧ (tq : Int) ≤ r.a ∧ T.move r.h (tq : Int) = (0, (T.move r.h (tq : Int)).2) ∧ Slb.Slid S S2 H H2 r.a.toNat tq (Slb.roomOf ((r.w.length : Int) + 2)) ∧ Slb.SlideWay S S2 H H2 r.a.toNat tq ∧
      StInv S2 (T.move r.h (tq : Int)).2 H2 (R.set j { r with a := (tq : Int) }) := by
  have hr := List.mem_of_getElem? hj
  have hjl := (List.getElem?_eq_some_iff.1 hj).1
  obtain ⟨tq, S2, H2, e, L, W⟩ := I.rep.hslide (I.mem hr h0)
  have had := I.adr hr h0
  dsimp only at e L W
  rw [had.2.2] at e
  have hle := L.le
  obtain ⟨s1, s2⟩ := liveR_split hj h0
  have s2 := s2 { r with a := (tq : Int) } (by dsimp only; omega)
  have hlh : (R.set j { r with a := (tq : Int) }).map (·.h) = R.map (·.h) := by rw [List.map_set]; exact set_self (by simp [hj])
  have hla : (R.set j { r with a := (tq : Int) }).map (·.a) = (R.map (·.a)).set j (tq : Int) := by rw [List.map_set]
  rcases I.once.moved (n := j) (h := r.h) (a := r.a) (by simp [hj]) (by simp [hj]) (tq : Int) (by omega) with ⟨_, _, m1, m2⟩ | ⟨hno, _⟩
  · obtain ⟨l, p1, p2⟩ := L.perm
    have hp := I.perm
    rw [s1, List.map_append, List.map_cons] at hp
    have hl : l.Perm ((liveR (R.take j)).map rblk ++ (liveR (R.drop (j + 1))).map rblk) := (p1.symm.trans (hp.trans List.perm_middle)).cons_inv
    have hp2 : (blks H2).Perm ((liveR (R.set j { r with a := (tq : Int) })).map rblk) := by
      rw [s2, List.map_append, List.map_cons]
      refine p2.trans (((hl.cons _)).trans ?_)
      have : rblk { r with a := (tq : Int) } = (tq, Slb.roomOf ((r.w.length : Int) + 2)) := by unfold rblk; dsimp only; rw [Int.toNat_natCast]
      rw [this]
      exact List.perm_middle.symm
    refine ⟨tq, S2, H2, e, by omega, by rw [← m1], L, W, L.rep, ?_, by rw [hlh, hla]; exact m2, hp2, fun q hq q0 => ?_, ?_⟩
    · unfold HTbl.move
      rw [if_neg (by omega)]
      split
      · exact HTbl.setAddr_ok I.tok _ _ (by omega) (by omega)
      · exact I.tok
    · obtain ⟨i, hi, hqi⟩ := List.getElem_of_mem hq
      have hqi : (R.set j { r with a := (tq : Int) })[i]? = some q := by rw [List.getElem?_eq_getElem hi, hqi]
      rw [List.getElem?_set] at hqi
      by_cases c : j = i
      · subst c
        rw [if_pos rfl, if_pos hjl] at hqi
        cases hqi
        obtain ⟨w1, w2, w3, w4⟩ := I.words r hr h0
        have hl := room w1
        refine ⟨w1, ?_, ?_, fun k x hx => ?_⟩
        · have := L.word 0 (by omega)
          simpa [w2] using this
        · have := L.word 1 (by omega)
          dsimp only
          rw [Int.toNat_natCast, this, w3]
        · have hk := (List.getElem?_eq_some_iff.1 hx).1
          dsimp only at hx hk ⊢
          have := L.word (2 + k) (by omega)
          rw [Int.toNat_natCast, show tq + 2 + k = tq + (2 + k) by omega, this, show r.a.toNat + (2 + k) = r.a.toNat + 2 + k by omega, w4 k x hx]
      · rw [if_neg c] at hqi
        have hqm := List.mem_of_getElem? hqi
        have hl := room (I.words q hqm q0).1
        exact (I.words q hqm q0).same fun i hi => L.same (rblk q) (I.mem hqm q0) (I.far hqi hj (fun e => c e.symm) q0 h0) i (by dsimp only; omega)
    · have hm : (T.move r.h (tq : Int)).2.opens = T.opens := HTbl.opens_move _ _ _
      rw [hm, I.live, s1, s2]
      simp
  · exact absurd ⟨h0, by omega⟩ hno
end StInv
end Go.Proofs.YtpcomekikeoliaaGreatDoor
