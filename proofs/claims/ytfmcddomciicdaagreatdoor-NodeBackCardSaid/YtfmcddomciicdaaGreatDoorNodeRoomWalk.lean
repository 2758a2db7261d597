/- NodeRoom, walked. Condition: the table of math/bits holds what its initialiser lays. -/
import Derived.Test.YtfmcddomciicdaaGreatDoorNodeNoneWalk
import Derived.Test.YtfmcddomciicdaaGreatDoorUniform
set_option linter.unusedVariables false
set_option linter.unusedSimpArgs false
set_option maxRecDepth 100000
namespace Go.Proofs.YtfmcddomciicdaaGreatDoor
open Go Go.RowKit

/-- A store of so many nodes and nothing else. -/
structure Nodes (S : Slb) (T : HTbl) (H : List Ent) (R : List Rc) (q m : Int) (k : Nat) : Prop where
  inv : StInv S T H R
  quo : S.quota = q
  most : T.most = m
  len : R.length = k
  live : ∀ r ∈ R, 0 ≤ r.a
  six : ∀ r ∈ R, r.w.length = 6
  op : T.AllOpen

section
variable {S S' : Slb} {T T' : HTbl} {H H' : List Ent} {R R' : List Rc} {q m : Int} {k : Nat}
theorem Nodes.count (N : Nodes S T H R q m k) : (k : Int) + S.spare 4 = 6 * (S.pg.length : Int) ∧ 0 ≤ S.spare 4 := by
  have h := N.inv.uniform (L := 6) (by omega) (fun r hr => N.six r (List.mem_filter.1 hr).1)
  rw [liveR_all N.live, N.len, show clsOf ((6 : Nat) + 2 : Int) = 4 from rfl] at h
  have h2 : 0 ≤ S.spare ((4 : Nat) : Int) := by rw [N.inv.rep.spare_eq (by omega)]; exact (spareL_range _ _).1
  exact ⟨h, h2⟩
theorem Nodes.fit (N : Nodes S T H R q m k) : 64 * (S.pg.length : Int) ≤ q := by
  have := N.inv.rep.ok.fit
  rw [N.quo] at this
  exact this
/-- What is made of a node more. -/
theorem Nodes.made (N : Nodes S T H R q m k) {hd er : Int} (M : Made S T H R 6 hd er S' T' H' R') :
    ((k : Int) < m ∧ (k : Int) < 6 * (q / 64) → er = 0 ∧ T'.AllOpen ∧ T'.most = m) ∧ ((k : Int) = 6 * (q / 64) → er = 3) ∧ ((k : Int) = m → (k : Int) < 6 * (q / 64) → er = 10) := by
  have hr := N.inv.made_room N.op (L := 6) (by omega) M
  rw [show clsOf ((6 : Nat) + 2 : Int) = 4 from rfl, liveR_all N.live, N.len, N.most, N.quo] at hr
  obtain ⟨hc, hs⟩ := N.count
  have hf := N.fit
  have hs' : 0 ≤ S.spare ((4 : Nat) : Int) := hs
  have hc' : (k : Int) + S.spare ((4 : Nat) : Int) = 6 * (S.pg.length : Int) := hc
  have hmost : er = 0 → T'.most = m := fun he => by
    cases M with
    | arg => exact N.most
    | quota => exact N.most
    | full => exact N.most
    | ok => exact N.most
  refine ⟨fun h => ?_, fun h => ?_, fun h1 h2 => ?_⟩
  · rcases hr with ⟨e, h1, h2⟩ | ⟨e, h1, h2⟩ | ⟨e, h1, h2, h3⟩
    · omega
    · omega
    · exact ⟨e, h3, hmost e⟩
  · rcases hr with ⟨e, h1, h2⟩ | ⟨e, h1, h2⟩ | ⟨e, h1, h2, h3⟩
    · exact e
    · omega
    · omega
  · rcases hr with ⟨e, h3, h4⟩ | ⟨e, h3, h4⟩ | ⟨e, h3, h4, h5⟩
    · omega
    · exact e
    · omega
theorem Nodes.next (N : Nodes S T H R q m k) {hd : Int} {S2 : Slb} {a : Nat} {x0 x1 x2 x3 x4 x5 : Int} (I : StInv S2 T' H' (R ++ [⟨hd, (a : Int), [x0, x1, x2, x3, x4, x5]⟩])) (hq : S2.quota = q) (hm : T'.most = m) (ho : T'.AllOpen) :
    Nodes S2 T' H' (R ++ [⟨hd, (a : Int), [x0, x1, x2, x3, x4, x5]⟩]) q m (k + 1) :=
  ⟨I, hq, hm, by rw [List.length_append, N.len]; rfl, fun r hr => by
    rcases List.mem_append.1 hr with hr | hr
    · exact N.live r hr
    · rw [List.mem_singleton.1 hr]; exact Int.natCast_nonneg a, fun r hr => by
    rcases List.mem_append.1 hr with hr | hr
    · exact N.six r hr
    · rw [List.mem_singleton.1 hr]; rfl, ho⟩
end

def RoomRel (w : World) (bx b : Nat) (x0 x1 x2 x3 x4 x5 : Int) (q m : Int) (k : Nat) (wr : World) : Prop := ∃ (S : Slb) (T : HTbl) (H : List Ent) (R : List Rc), Nodes S T H R q m k ∧
  Sep No w wr [cellsAt bx #[.int .u64 x0, .int .u64 x1, .int .u64 x2, .int .u64 x3, .int .u64 x4, .int .u64 x5] 109, stR b m 9 S T]

end Go.Proofs.YtfmcddomciicdaaGreatDoor
