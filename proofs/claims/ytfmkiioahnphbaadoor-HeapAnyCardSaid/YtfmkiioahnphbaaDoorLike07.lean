/- The plain law of HeapPlays: Room, Live, Numbers, Spare are as the reference says. Condition: the arena is the heap's (Rep). -/
import Derived.Test.YtfmkiioahnphbaaDoorLike06
set_option linter.unusedVariables false
set_option linter.unusedSimpArgs false
set_option maxRecDepth 100000
namespace Go.Proofs.YtfmkiioahnphbaaDoor
open Go Slb
variable {S S' : Slb} {H H' : List Ent} {L L' : List RPg}

theorem Like.roomY (R : Rep S H) (K : Like H L) {a : Int} {i k : Nat} {P : RPg} (Y : FindY L a i k) (hP : L[i]? = some P) : S.room a = (P.room, 0) := by
  obtain ⟨k', hf, hw⟩ := K.find R Y hP
  have o := K.ok P (List.mem_of_getElem? hP)
  unfold Slb.room RPg.room
  rw [hf]
  dsimp only
  rcases hw with ⟨hl, _⟩ | ⟨hl, _⟩
  · have := o.lgw hl
    rw [RPg.ent_lg hl, if_pos rfl, if_pos hl]
    dsimp only
    congr 1
    exact IntWalk.wrap64_in _ (by omega)
  · have := o.cls8 hl
    rw [RPg.ent_sm hl, if_neg (by show ¬ (1 : Int) = 2; omega), if_neg (by rw [hl]; decide)]
    have e := csize_in (c := (P.cls : Int)) (by omega) (by omega)
    rw [Int.toNat_natCast] at e
    exact e
theorem Like.roomN (R : Rep S H) (K : Like H L) {a : Int} (N : FindN L a) : S.room a = (0, 5) := room_none (K.none R N)
theorem RPg.Ok.liveE {P : RPg} (h : P.Ok) : P.liveP P.slots = Go.Proofs.YtfmkiioahnphbaaDoor.liveE P.ent := by
  cases hl : P.lg with
  | true =>
    unfold RPg.liveP Go.Proofs.YtfmkiioahnphbaaDoor.liveE RPg.slots RPg.place
    rw [if_pos hl, RPg.ent_lg hl, if_pos rfl, h.lg hl]
    simp only [hl, if_true]
    rw [show (List.range 1).filter (fun j => (1 : Nat).testBit j) = [0] by decide]
    simp
    omega
  | false =>
    have hc := (h.cls8 hl).1
    rw [liveE_blk h.good, RPg.ent_sm hl, blkE_small rfl, List.map_map]
    unfold RPg.liveP
    rw [h.slots_eq hl]
    simp only [Int.toNat_natCast]
    refine List.map_congr_left fun k hk => ?_
    rw [h.place_eq hl]
    rfl
theorem Like.live (R : Rep S H) (K : Like H L) : liveR L = S.live := by
  unfold Slb.live liveR
  rw [R.heads, ← K.map, List.flatMap_map]
  have := K.ok
  clear K R
  induction L with
  | nil => rfl
  | cons P L ih => rw [List.flatMap_cons, List.flatMap_cons, ih (fun Q hQ => this Q (by simp [hQ])), (this P (by simp)).liveE]
theorem Like.nums (R : Rep S H) (K : Like H L) : numR L = S.pg.map fun k : Nat => (k : Int) := by
  unfold numR
  rw [R.pg_eq, ← K.map, List.flatMap_map, List.map_flatMap]
  have := K.ok
  clear K R
  induction L with
  | nil => rfl
  | cons P L ih =>
    rw [List.flatMap_cons, List.flatMap_cons, ih (fun Q hQ => this Q (by simp [hQ]))]
    congr 1
    unfold RPg.numP runE
    rw [(this P (by simp)).wide, List.map_map]
    refine List.map_congr_left fun k _ => rfl
theorem Like.spare (R : Rep S H) (K : Like H L) (c : Int) : S.spare c = (spareR c L : Nat) := by
  unfold Slb.spare
  rw [R.heads, ← K.map]
  have := K.ok
  clear K R
  by_cases h8 : 0 ≤ c ∧ c < 8
  · rw [cslots_in h8.1 h8.2, if_pos rfl]
    induction L with
    | nil => rfl
    | cons P L ih =>
      have e := ih (fun Q hQ => this Q (by simp [hQ]))
      have o := this P (by simp)
      have : spareF c P.ent = (P.spareP c : Nat) := by
        unfold spareF RPg.spareP
        cases hl : P.lg with
        | true =>
          rw [RPg.ent_lg hl, if_neg (by rintro ⟨h, _⟩; exact absurd h (by show (2 : Int) ≠ 1; omega)), if_neg (by rintro ⟨h, _⟩; cases h)]
          rfl
        | false =>
          rw [RPg.ent_sm hl]
          by_cases hc : (P.cls : Int) = c
          · rw [if_pos ⟨rfl, hc⟩, if_pos ⟨rfl, hc⟩, cslots_in h8.1 h8.2]
            subst hc
            have hr := csz_range (o.cls8 hl).1
            have hcl : Bt.cl ((62 / csz P.cls : Nat) : Int) = 62 / csz P.cls := by unfold Bt.cl; omega
            dsimp only
            rw [Int.toNat_natCast, Int.toNat_natCast, Bt.count_eq, hcl, o.slots_eq hl]
            have : ∀ k : Nat, (k : Int) - (Bt.cnt P.bits k : Nat) = (P.opn k : Nat) := fun k => by
              induction k with
              | zero => rfl
              | succ k ih =>
                rw [RPg.opn_succ]
                have e : Bt.cnt P.bits (k + 1) = Bt.cnt P.bits k + (if P.bits.testBit k then 1 else 0) := rfl
                rw [e]
                split <;> omega
            exact this _
          · rw [if_neg (fun h => hc h.2), if_neg (fun h => hc h.2)]
            rfl
      show spareF c P.ent + spareL c (L.map RPg.ent) = ((P.spareP c + spareR c L : Nat) : Int)
      omega
  · rw [cslots_out h8, if_neg (by show ¬ (2 : Int) = 0; omega)]
    induction L with
    | nil => rfl
    | cons P L ih =>
      have e := ih (fun Q hQ => this Q (by simp [hQ]))
      have o := this P (by simp)
      have : P.spareP c = 0 := by
        unfold RPg.spareP
        rw [if_neg]
        rintro ⟨hl, hc⟩
        have := (o.cls8 hl).1
        omega
      show _ = ((P.spareP c + spareR c L : Nat) : Int)
      omega
end Go.Proofs.YtfmkiioahnphbaaDoor
