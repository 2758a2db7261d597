/- Raw and Of of handle.Table, walked. Conditions: the table is as said; what is taken lies in memory as said. -/
import Derived.Test.YtmdnofojecncgaaGreatDoorTabSep
import Derived.Test.YtmdnofojecncgaaGreatDoorFlat
import Derived.Test.YtmdnofojecncgaaGreatDoorHandleRawSpec
import Derived.Deep.RegionLaw
set_option linter.unusedVariables false
set_option linter.unusedSimpArgs false
set_option maxRecDepth 100000
namespace Go.Proofs.YtmdnofojecncgaaGreatDoor
open Go Go.RowKit

variable {F0 : Nat → Prop} {w0 w : World} {Ps : List Res}

def acell (s : RSlot) : List Value := [.bool s.op, .int .u32 s.gen, .int .i64 s.addr]
def arow (l : List RSlot) : List Value := l.flatMap acell
theorem acell_len (s : RSlot) : (acell s).length = 3 := rfl
theorem arow_len (l : List RSlot) : (arow l).length = l.length * 3 := flat_len acell_len l
theorem arow_get {l : List RSlot} {i : Nat} {s : RSlot} (h : l[i]? = some s) : (arow l)[i * 3]? = some (.bool s.op) ∧ (arow l)[i * 3 + 1]? = some (.int .u32 s.gen) ∧ (arow l)[i * 3 + 2]? = some (.int .i64 s.addr) :=
  ⟨by have := flat_get acell_len l i 0 s h (by omega); rw [Nat.add_zero] at this; exact this, flat_get acell_len l i 1 s h (by omega), flat_get acell_len l i 2 s h (by omega)⟩

theorem infoASlot : (Tryz.prog.info? 93).map (fun i => (i.zero, i.size, i.bytes)) = some (some (.agg #[.bool false, .int .u32 0, .int .i64 0]), 3, 16) := by kernel_rfl

/-- A slice of slots as they are told, somewhere in memory. -/
structure SlotsIn (w : World) (sa : Option Addr) (zs : List RSlot) : Prop where
  cells : ∀ j z, zs[j]? = some z → ∃ b off, sa = some ⟨b, off, none⟩ ∧ b < w.heap.size ∧ w.cell? ⟨b, off + j * 3, none⟩ = some (.bool z.op) ∧ w.cell? ⟨b, off + j * 3 + 1, none⟩ = some (.int .u32 z.gen) ∧ w.cell? ⟨b, off + j * 3 + 2, none⟩ = some (.int .i64 z.addr)

theorem SlotsIn.more {w w' : World} {sa : Option Addr} {zs : List RSlot} (h : SlotsIn w sa zs) (hm : Mod No w w') : SlotsIn w' sa zs :=
  ⟨fun j z hz => by
    obtain ⟨b, off, e, hb, c0, c1, c2⟩ := h.cells j z hz
    exact ⟨b, off, e, Nat.lt_of_lt_of_le hb hm.size, hm.cell c0 (fun x => x), hm.cell c1 (fun x => x), hm.cell c2 (fun x => x)⟩⟩

theorem SlotsIn.row {w : World} {sa : Option Addr} {zs : List RSlot} {cap : Nat} (hr : w.ownsRow 0 93 3 (.slice sa zs.length cap) zs.length (arow zs)) : SlotsIn w sa zs :=
  ⟨fun j z hz => by
    have hj := (List.getElem?_eq_some_iff.1 hz).1
    obtain ⟨g, cap', hv⟩ := Joins.ownsRow_form hr (by omega)
    simp only [Value.slice.injEq, true_and] at hv
    obtain ⟨rfl, rfl⟩ := hv
    have hg := arow_get hz
    refine ⟨g, 0, rfl, (hr.lt g rfl).2, ?_, ?_, ?_⟩
    · rw [Nat.zero_add, hr.cellAt _ (by omega)]; exact hg.1
    · rw [Nat.zero_add, hr.cellAt _ (by omega)]; exact hg.2.1
    · rw [Nat.zero_add, hr.cellAt _ (by omega)]; exact hg.2.2⟩

theorem Sep.tSlot (h : Sep F0 w0 w Ps) (i : Nat) {t : Nat} {T : HTbl} (hi : Ps[i]? = some (tabR t T)) : ∃ sa cap, w.cell? ⟨t, 2, none⟩ = some (.slice sa T.l.length cap) ∧ t < w.heap.size ∧
    ∀ k s, T.l[k]? = some s → ∃ g, sa = some ⟨g, 0, none⟩ ∧ g < w.heap.size ∧ w.cell? ⟨g, k * 3, none⟩ = some (.int .i64 s.is) ∧ w.cell? ⟨g, k * 3 + 1, none⟩ = some (.int .u32 s.gen) ∧ w.cell? ⟨g, k * 3 + 2, none⟩ = some (.int .i64 s.addr) := by
  obtain ⟨F, ⟨v, hP, hF⟩, _⟩ := h.at_ i hi
  obtain ⟨sa, _, cap, rfl, rfl⟩ := hP.form
  refine ⟨sa, cap, hP.c2, hP.lt, fun k s hs => ?_⟩
  obtain ⟨g, cap', hv, _, c0, c1, c2, _⟩ := hP.slot hs
  simp only [Value.slice.injEq, true_and] at hv
  obtain ⟨rfl, rfl⟩ := hv
  exact ⟨g, rfl, (hP.row.lt g rfl).2, c0, c1, c2⟩

theorem Sep.tThere (h : Sep F0 w0 w Ps) (i : Nat) {t : Nat} {T : HTbl} (hi : Ps[i]? = some (tabR t T)) :
    Calls Tryz.prog 97 #[.pointer (some ⟨t, 0, none⟩)] w fun e w' => e = .returned (.bool false) ∧ w = w' := by
  obtain ⟨F, ⟨v, hP, hF⟩, _⟩ := h.at_ i hi
  exact hP.there

theorem raw_none {p : Value} (hN : Calls Tryz.prog 97 #[p] w fun e w' => e = .returned (.bool true) ∧ w = w') :
    Calls Tryz.prog 76 #[p] w fun e w' => e = .returned (.slice none 0 0) ∧ w = w' := by
  go_enter Tryz.func76, Tryz.ntmps76
  go_wp2_with ((with_reducible refine hN.mono ?_); rintro e w' ⟨rfl, rfl⟩)
  go_ret
  exact ⟨rfl, rfl⟩

theorem arow_snoc (zs : List RSlot) (z : RSlot) : arow (zs ++ [z]) = arow zs ++ [.bool z.op, .int .u32 z.gen, .int .i64 z.addr] := by simp [arow, acell]

theorem take_snoc' {α : Type} {l : List α} {j : Nat} {x : α} (h : l[j]? = some x) : l.take (j + 1) = l.take j ++ [x] := by
  rw [List.take_add_one, h]; rfl

theorem at_new {w : World} {o : Obj} {k : Nat} (hk : k = w.heap.size) : (w.alloc o).heap[k]? = some o := by rw [hk]; exact heap_alloc_new w o

/-- Raw: the slots as they are told, in a slice of its own. -/
theorem Sep.tRaw {t : Nat} {T : HTbl} (h : Sep F0 w0 w Ps) (i : Nat) (hi : Ps[i]? = some (tabR t T)) :
    Calls Tryz.prog 76 #[.pointer (some ⟨t, 0, none⟩)] w fun e w' => ∃ sa cap, e = .returned (.slice sa T.raw.length cap) ∧ Sep No w w' [rowAt 93 3 (.slice sa T.raw.length cap) T.raw.length (arow T.raw)] := by
  have hT := h.tabOk i hi
  have hlen : (T.l.length : Int) ≤ 65536 := by have := hT.len; have := hT.most2; omega
  have hN := h.tThere i hi
  obtain ⟨sa, cap, c2, htl, hsl⟩ := h.tSlot i hi
  obtain ⟨i0, hi0, hz0, hz1, hz2⟩ := info_parts infoASlot
  have HI := Lib.hid (And.intro hi0 (And.intro hz0 (And.intro hz1 hz2)))
  have HS := Lib.hid hsl
  have hrl : T.raw.length = T.l.length := by simp [HTbl.raw]
  have HL := Lib.hid hrl
  have hrg : ∀ j s, T.l[j]? = some s → T.raw[j]? = some (HTbl.toR s) := fun j s hs => by rw [HTbl.raw, List.getElem?_map, hs]; rfl
  have HG := Lib.hid hrg
  have hst := Lib.hid (show Sep No w w [rowAt 93 3 (.slice none 0 0) 0 (arow (T.raw.take 0))] from (Sep.nil w).pushNil 93 3)
  clear hT hsl hrl hrg hi0 hz0 hz1 hz2 h hi
  go_enter Tryz.func76, Tryz.ntmps76
  go_wp2_with ((with_reducible refine hN.mono ?_); rintro e w' ⟨rfl, rfl⟩)
  go_loopw [3, 14] (fun out k wr => ∃ j : Nat, j ≤ T.l.length ∧ k = .int .i64 j ∧ Sep No w wr [rowAt 93 3 out j (arow (T.raw.take j))]) (fun _ k _ => T.l.length - (RowKit.intOf k).toNat)
  case atStart => exact ⟨0, Nat.zero_le _, rfl, hst.out⟩
  case round =>
    obtain ⟨j, hj, rfl, h⟩ := hrel
    have hm := h.mod
    clear hst
    by_cases hlt : j < T.l.length
    · have hs := List.getElem?_eq_getElem hlt
      obtain ⟨g, rfl, hg, d0, d1, d2⟩ := HS.out j _ hs
      have d0 := hm.cell d0 (fun x => x)
      have d1 := hm.cell d1 (fun x => x)
      have d2 := hm.cell d2 (fun x => x)
      have hgw := Nat.lt_of_lt_of_le hg hm.size
      have hr := HG.out j _ hs
      have hj' : (j : Int) < (T.l.length : Int) := by omega
      obtain ⟨so, rc, rfl⟩ := h.form 0 rfl
      have H := Lib.hid (And.intro h (And.intro hm hr))
      clear h hm hr hs
      generalize T.l[j] = s at *
      by_cases hi1 : s.is = 1
      · have hb : (s.is == 1) = true := beqT hi1
        obtain ⟨h, hm, hr⟩ := H.out
        have hto : HTbl.toR s = ⟨true, s.gen, s.addr⟩ := by unfold HTbl.toR; rw [if_pos hi1]
        rw [hto] at hr
        have H := Lib.hid (And.intro h (And.intro hm hr))
        clear h hm hr hto hi1
        go_wp2_with fail
        go_region
        obtain ⟨hi0, hz0, hz1, hz2⟩ := HI.out
        obtain ⟨h, hm, _⟩ := H.out
        go_wp2_with (at_builtin; refine wpList_append_src (((h.alloc _).alloc _).alloc _).drew 0 rfl (by rfl) _ _ 85 rfl Tryz.underlying85 hi0 hz0 hz1 hz2 rfl (by decide) (by rfl) _ (by rfl) (srcOf_block (w := World.drew _) (c := #[.bool true, .int .u32 s.gen, .int .i64 s.addr]) (at_new (by simp)) rfl (by simp [Value.oneCell']) 1) (by unfold maxLen; omega) (by omega) ?_)
        intro sn cn w2 h2
        have hm2 := Lib.hid h2
        clear h h2 hm hi0 hz0 hz1 hz2
        go_wp2
        go_roundw
        case rel =>
          obtain ⟨_, hm, hr⟩ := H.out
          refine ⟨j + 1, by omega, by go_num, ?_⟩
          rw [take_snoc' hr, arow_snoc]
          exact hm2.out
        case measure => simp [RowKit.intOf]; omega
      · have hb : (s.is == 1) = false := beqF hi1
        obtain ⟨h, hm, hr⟩ := H.out
        have hto : HTbl.toR s = ⟨false, s.gen, 0⟩ := by unfold HTbl.toR; rw [if_neg hi1]
        rw [hto] at hr
        have H := Lib.hid (And.intro h (And.intro hm hr))
        obtain ⟨hi0, hz0, hz1, hz2⟩ := HI.out
        clear hm hr hto hi1
        go_wp2_with (at_builtin; refine wpList_append_src (((h.alloc _).alloc _).alloc _) 0 rfl (by rfl) _ _ 85 rfl Tryz.underlying85 hi0 hz0 hz1 hz2 rfl (by decide) (by rfl) _ (by rfl) (srcOf_block (w := World.alloc _ _) (c := #[.bool false, .int .u32 s.gen, .int .i64 0]) (at_new (by simp)) rfl (by simp [Value.oneCell']) 1) (by unfold maxLen; omega) (by omega) ?_)
        intro sn cn w2 h2
        have hm2 := Lib.hid h2
        clear h h2 hi0 hz0 hz1 hz2
        go_wp2
        go_roundw
        case rel =>
          obtain ⟨_, hm, hr⟩ := H.out
          refine ⟨j + 1, by omega, by go_num, ?_⟩
          rw [take_snoc' hr, arow_snoc]
          exact hm2.out
        case measure => simp [RowKit.intOf]; omega
    · obtain rfl : j = T.l.length := by omega
      have H := Lib.hid h
      clear h
      go_wp2
      go_ret
      obtain ⟨so, rc, rfl⟩ := H.out.form 0 rfl
      have h := H.out
      rw [← HL.out, List.take_length] at h
      exact ⟨so, rc, by rw [HL.out]; rfl, h⟩

theorem tab_open {F : Nat → Prop} {t : Nat} {T : HTbl} (h : Sep F w0 w [tabR t T]) : ∃ sa cap, Sep F w0 w [cellsAt t #[.int .i64 T.most, .int .u32 T.last, .slice sa T.l.length cap] 170, rowAt 187 3 (.slice sa T.l.length cap) T.l.length (rowOf T.l)] := by
  have h : Sep F w0 w [exR fun v => starR (cellsAt t #[.int .i64 T.most, .int .u32 T.last, v] 170) (rowAt 187 3 v T.l.length (rowOf T.l))] := h.say 0 rfl (fun F ⟨v, hT, hF⟩ => ⟨v, fun k => k = t, fun k => v.ownBlock = some k, ⟨hT.box, rfl⟩, ⟨hT.row, rfl⟩, fun k k1 k2 => hT.ne (by rw [k2, k1]), hF⟩)
  obtain ⟨v, h⟩ := h.openEx 0 rfl
  have h : Sep F w0 w [cellsAt t #[.int .i64 T.most, .int .u32 T.last, v] 170, rowAt 187 3 v T.l.length (rowOf T.l)] := h.openStar 0 rfl
  obtain ⟨sa, cap, rfl⟩ := h.form 1 rfl
  exact ⟨sa, cap, h⟩

theorem tab_shut {F : Nat → Prop} {t : Nat} {T : HTbl} {v : Value} (hT : T.Ok) (h : Sep F w0 w [cellsAt t #[.int .i64 T.most, .int .u32 T.last, v] 170, rowAt 187 3 v T.l.length (rowOf T.l)]) : Sep F w0 w [tabR t T] := by
  have h : Sep F w0 w [starR (cellsAt t #[.int .i64 T.most, .int .u32 T.last, v] 170) (rowAt 187 3 v T.l.length (rowOf T.l))] := h.shutStar 0 1 (by decide) rfl rfl rfl
  exact h.say 0 rfl (fun F ⟨F1, F2, ⟨a1, a2⟩, ⟨b1, b2⟩, _, hF⟩ => ⟨v, ⟨a1, b1, hT⟩, by rw [hF, a2, b2]; rfl⟩)

/-- What Of leaves. -/
def OfPost (w : World) (m last : Int) (zs : List RSlot) (e : Ending) (w' : World) : Prop :=
  ((∃ er : Int, (er = 2 ∧ ¬ (1 ≤ m ∧ m ≤ 65536 ∧ 1 ≤ last) ∨ er = 8 ∧ (1 ≤ m ∧ m ≤ 65536 ∧ 1 ≤ last)) ∧ e = .returned (.tuple #[.pointer none, .int .i64 er])) ∧ Mod No w w' ∧ ((zs.length : Int) ≤ m → ¬ (∀ r ∈ zs, HTbl.rOk last r = true) ∨ ¬ (1 ≤ m ∧ m ≤ 65536 ∧ 1 ≤ last))) ∨
  (e = .returned (.tuple #[.pointer (some ⟨w.heap.size, 0, none⟩), .int .i64 0]) ∧ Sep No w w' [tabR w.heap.size (HTbl.ofRaw m last zs)] ∧ (∀ r ∈ zs, HTbl.rOk last r = true) ∧ 1 ≤ m ∧ m ≤ 65536 ∧ 1 ≤ last ∧ (zs.length : Int) ≤ m)

theorem of_new {sa : Option Addr} {zs : List RSlot} (cap : Nat) (m last : Int) (h : ¬ (1 ≤ m ∧ m ≤ 65536 ∧ 1 ≤ last)) (w : World) :
    Calls Tryz.prog 74 #[.int .i64 m, .int .u32 last, .slice sa zs.length cap] w (OfPost w m last zs) := by
  have hc := new_no w m last h
  have hfin : OfPost w m last zs (.returned (.tuple #[.pointer none, .int .i64 2])) w := .inl ⟨⟨2, .inl ⟨rfl, h⟩, rfl⟩, Mod.refl _ _, fun _ => .inr h⟩
  have H := Lib.hid hfin
  clear h hfin
  go_enter Tryz.func74, Tryz.ntmps74
  go_wp2_with ((with_reducible refine hc.mono ?_); rintro e w' ⟨rfl, rfl⟩)
  go_ret2
  exact H.out

theorem of_long {sa : Option Addr} {zs : List RSlot} (cap : Nat) (m last : Int) (h : 1 ≤ m ∧ m ≤ 65536 ∧ 1 ≤ last) (hl : last ≤ 4294967295) (hm : m < (zs.length : Int)) (w : World) :
    Calls Tryz.prog 74 #[.int .i64 m, .int .u32 last, .slice sa zs.length cap] w (OfPost w m last zs) := by
  have hc := new_ok w m last h.1 h.2.1 h.2.2 hl
  have hd : decide (m < (zs.length : Int)) = true := ltT hm
  have H := Lib.hid (fun w' (h' : Mod No w w') => (show OfPost w m last zs (.returned (.tuple #[.pointer none, .int .i64 8])) w' from .inl ⟨⟨8, .inr ⟨rfl, h⟩, rfl⟩, h', fun h2 => absurd hm (by omega)⟩))
  clear h hm
  go_enter Tryz.func74, Tryz.ntmps74
  go_wp2_with fail
  refine hc.mono ?_
  rintro e w' ⟨rfl, _, hm⟩
  have HM := Lib.hid hm
  clear hm
  go_wp2
  go_ret2
  exact H.out _ HM.out


set_option maxRecDepth 100000 in
set_option maxHeartbeats 1000000 in
theorem hof_call {sa : Option Addr} {zs : List RSlot} (hz : SlotsIn w sa zs) (cap : Nat) (m last : Int) (hl : 0 ≤ last ∧ last ≤ 4294967295) (hb : zs.length ≤ 65536) (ha : ∀ r ∈ zs, 0 ≤ r.gen ∧ -9223372036854775808 ≤ r.addr ∧ r.addr ≤ 9223372036854775807) :
    Calls Tryz.prog 74 #[.int .i64 m, .int .u32 last, .slice sa zs.length cap] w (OfPost w m last zs) := by
  by_cases hnew : ¬ (1 ≤ m ∧ m ≤ 65536 ∧ 1 ≤ last)
  · exact of_new cap m last hnew w
  have hnew := Classical.not_not.1 hnew
  by_cases hlong : m < (zs.length : Int)
  · exact of_long cap m last hnew hl.2 hlong w
  have hc := new_ok w m last hnew.1 hnew.2.1 hnew.2.2 hl.2
  have hd : decide (m < (zs.length : Int)) = false := ltF (by omega)
  have HN := Lib.hid (And.intro hnew (And.intro hl (And.intro hlong ha)))
  have HB := Lib.hid (fun w' (h' : Mod No w w') (hbad : ¬ (∀ r ∈ zs, HTbl.rOk last r = true)) => (show OfPost w m last zs (.returned (.tuple #[.pointer none, .int .i64 8])) w' from .inl ⟨⟨8, .inr ⟨rfl, hnew⟩, rfl⟩, h', fun _ => .inl hbad⟩))
  have HZ := Lib.hid hz
  obtain ⟨i0, hi0, hz0, hz1, hz2⟩ := info_parts infoSlot
  have HI := Lib.hid (And.intro hi0 (And.intro hz0 (And.intro hz1 hz2)))
  obtain ⟨n, hn⟩ : ∃ n, zs.length = n := ⟨_, rfl⟩
  have HL := Lib.hid hn
  rw [hn] at hd hb ⊢
  clear hn hnew hl hlong ha hz hi0 hz0 hz1 hz2
  obtain ⟨t, ht⟩ : ∃ t, w.heap.size = t := ⟨_, rfl⟩
  have HT := Lib.hid ht
  rw [ht] at hc
  clear ht
  go_enter Tryz.func74, Tryz.ntmps74
  go_wp2_with fail
  refine hc.mono ?_
  rintro e w1 ⟨rfl, hT, hm⟩
  have hst := Lib.hid (show Sep No w w1 [tabR t (HTbl.ofRaw m last (zs.take 0))] from by have hT' := hT; rw [← HT.out] at hT' ⊢; exact (Sep.nil w).tNew hT' hm)
  clear hc hT hm
  go_wp2_with fail
  go_loopw [28] (fun k wr => ∃ j : Nat, j ≤ n ∧ k = .int .i64 j ∧ Sep No w wr [tabR t (HTbl.ofRaw m last (zs.take j))] ∧ ∀ r ∈ zs.take j, HTbl.rOk last r = true) (fun k _ => n - (RowKit.intOf k).toNat)
  case atStart => exact ⟨0, Nat.zero_le _, rfl, hst.out, by simp⟩
  case round =>
    obtain ⟨j, hj, rfl, h, hok⟩ := hrel
    clear hst
    by_cases hlt : j < n
    · have hzj := List.getElem?_eq_getElem (show j < zs.length by rw [HL.out]; exact hlt)
      obtain ⟨b, off, rfl, hbw, d0, d1, d2⟩ := HZ.out.cells j _ hzj
      have d0 := h.old d0
      have d1 := h.old d1
      have d2 := h.old d2
      have hbw := Nat.lt_of_lt_of_le hbw h.size
      have hj' : (j : Int) < (n : Int) := by omega
      have HJ := Lib.hid (And.intro hok hzj)
      have hmod := Lib.hid h.mod
      obtain ⟨sl, cl, h⟩ := tab_open h
      have hlj : (HTbl.ofRaw m last (zs.take j)).l.length = j := by simp [HTbl.ofRaw, HL.out]; omega
      rw [hlj] at h
      have c2 := (h.cell 0 rfl 2 (v := .slice sl j cl) rfl).1
      have htw := lt_of_at (h.block 0 rfl)
      have htw1 : t < wr.heap.size + 1 := by omega
      have htw2 : t < wr.heap.size + 1 + 1 := by omega
      have hg0 := (HN.out.2.2.2 _ (List.getElem_mem (by rw [HL.out]; exact hlt : j < zs.length))).1
      clear hok hlj hzj
      generalize zs[j]'(by rw [HL.out]; exact hlt) = z at *
      by_cases g1 : z.gen < 1
      · have b1 : decide (z.gen < 1) = true := ltT g1
        clear h
        go_wp2
        go_ret2
        refine HB.out _ ((((hmod.out.alloc _)))) (fun hall => ?_)
        have := HTbl.rOk_iff.1 (hall z (List.mem_of_getElem? HJ.out.2))
        omega
      have b1 : decide (z.gen < 1) = false := ltF (by omega)
      by_cases g2 : last < z.gen
      · have b2 : decide (last < z.gen) = true := ltT g2
        clear h
        go_wp2
        go_ret2
        refine HB.out _ ((((hmod.out.alloc _)))) (fun hall => ?_)
        have := HTbl.rOk_iff.1 (hall z (List.mem_of_getElem? HJ.out.2))
        omega
      have b2 : decide (last < z.gen) = false := ltF (by omega)
      by_cases g3 : z.addr < 0
      · have b3 : decide (z.addr < 0) = true := ltT g3
        clear h
        go_wp2
        go_ret2
        refine HB.out _ ((((hmod.out.alloc _)))) (fun hall => ?_)
        have := HTbl.rOk_iff.1 (hall z (List.mem_of_getElem? HJ.out.2))
        omega
      have b3 : decide (z.addr < 0) = false := ltF (by omega)
      clear g1 g2 g3
      obtain ⟨hi0, hz0, hz1, hz2⟩ := HI.out
      cases hop : z.op with
      | true =>
        have HK := Lib.hid (show HTbl.rOk last z = true from HTbl.rOk_iff.2 ⟨by simpa using b1, by simpa using b2, by simpa using b3, .inl hop⟩)
        have HX := Lib.hid (fun (w3 : World) (sn : Option Addr) (cn : Nat) (h3 : Sep No w w3 [cellsAt t #[.int .i64 m, .int .u32 last, .slice sn (j + 1) cn] 170, rowAt 187 3 (.slice sn (j + 1) cn) (j + 1) (rowOf (HTbl.ofRaw m last (zs.take j)).l ++ [.int .i64 1, .int .u32 z.gen, .int .i64 z.addr])]) => (show Sep No w w3 [tabR t (HTbl.ofRaw m last (zs.take (j + 1)))] from by
          obtain ⟨hok, hzj⟩ := HJ.out
          obtain ⟨n1, n2, n3, n4⟩ := HN.out
          have hll : (HTbl.ofRaw m last (zs.take (j + 1))).l.length = j + 1 := by simp [HTbl.ofRaw, HL.out]; omega
          have hrr : rowOf (HTbl.ofRaw m last (zs.take (j + 1))).l = rowOf (HTbl.ofRaw m last (zs.take j)).l ++ [.int .i64 1, .int .u32 z.gen, .int .i64 z.addr] := by
            simp only [HTbl.ofRaw]
            rw [take_snoc' hzj, List.map_append, List.map_singleton, rowOf_append]
            simp [HTbl.ofR, hop]
          refine tab_shut (v := .slice sn (j + 1) cn) (HTbl.ofRaw_ok n1.1 n1.2.1 n1.2.2 n2.2 (by rw [List.length_take, HL.out]; have := HL.out; omega) ?_ ?_) (by rw [hll, hrr]; exact h3)
          · intro r hr
            rw [take_snoc' hzj] at hr
            rcases List.mem_append.1 hr with hr | hr
            · exact hok r hr
            · simp at hr; subst hr; exact HK.out
          · intro r hr
            exact (n4 r (List.mem_of_mem_take hr)).2.2))
        go_wp2_with fail
        go_region_law ((refine step_append_src (((h.alloc _).alloc _).alloc _).drew 1 rfl (by rfl) _ _ 168 (by rfl) Tryz.underlying168 hi0 hz0 hz1 hz2 rfl (by decide) (by rfl) _ (by rfl) (srcOf_block (w := World.drew _) (c := #[.int .i64 1, .int .u32 z.gen, .int .i64 z.addr]) (at_new (by simp)) rfl (by simp [Value.oneCell']) 1) (by unfold maxLen; omega) (by omega) ?_; intro sn cn w2 h2; have k2 := (h2.cell 0 rfl 2 (v := .slice sl j cl) rfl).1; have f2 := (h2.cell 0 rfl 2 (v := .slice sl j cl) rfl).2))
        all_goals
          have H3 := Lib.hid (h2.set 0 rfl 2 (.slice sn (j + 1) cn))
          clear h h2 k2 f2 hi0 hz0 hz1 hz2
          go_wp2
          go_roundw
          case rel =>
            refine ⟨j + 1, by omega, by go_num, HX.out _ _ _ H3.out, fun r hr => ?_⟩
            rw [take_snoc' HJ.out.2] at hr
            rcases List.mem_append.1 hr with hr | hr
            · exact HJ.out.1 r hr
            · simp at hr; subst hr; exact HK.out
          case measure => simp [RowKit.intOf]; omega
      | false =>
        by_cases g4 : z.addr = 0
        · have b4 : (z.addr != 0) = false := bneF g4
          have HK := Lib.hid (show HTbl.rOk last z = true from HTbl.rOk_iff.2 ⟨by simpa using b1, by simpa using b2, by simpa using b3, .inr g4⟩)
          clear g4
          by_cases g5 : z.gen = last
          · have b5 : (z.gen == last) = true := beqT g5
            have G5 := Lib.hid g5
            clear g5
            have HX := Lib.hid (fun (w3 : World) (sn : Option Addr) (cn : Nat) (h3 : Sep No w w3 [cellsAt t #[.int .i64 m, .int .u32 last, .slice sn (j + 1) cn] 170, rowAt 187 3 (.slice sn (j + 1) cn) (j + 1) (rowOf (HTbl.ofRaw m last (zs.take j)).l ++ [.int .i64 2, .int .u32 z.gen, .int .i64 z.addr])]) => (show Sep No w w3 [tabR t (HTbl.ofRaw m last (zs.take (j + 1)))] from by
              obtain ⟨hok, hzj⟩ := HJ.out
              obtain ⟨n1, n2, n3, n4⟩ := HN.out
              have hll : (HTbl.ofRaw m last (zs.take (j + 1))).l.length = j + 1 := by simp [HTbl.ofRaw, HL.out]; omega
              have hrr : rowOf (HTbl.ofRaw m last (zs.take (j + 1))).l = rowOf (HTbl.ofRaw m last (zs.take j)).l ++ [.int .i64 2, .int .u32 z.gen, .int .i64 z.addr] := by
                simp only [HTbl.ofRaw]
                rw [take_snoc' hzj, List.map_append, List.map_singleton, rowOf_append]
                simp [HTbl.ofR, hop, G5.out]
              refine tab_shut (v := .slice sn (j + 1) cn) (HTbl.ofRaw_ok n1.1 n1.2.1 n1.2.2 n2.2 (by rw [List.length_take, HL.out]; have := HL.out; omega) ?_ ?_) (by rw [hll, hrr]; exact h3)
              · intro r hr
                rw [take_snoc' hzj] at hr
                rcases List.mem_append.1 hr with hr | hr
                · exact hok r hr
                · simp at hr; subst hr; exact HK.out
              · intro r hr
                exact (n4 r (List.mem_of_mem_take hr)).2.2))
            go_wp2_with fail
            go_region_law ((refine step_append_src (((h.alloc _).alloc _).alloc _).drew 1 rfl (by rfl) _ _ 168 (by rfl) Tryz.underlying168 hi0 hz0 hz1 hz2 rfl (by decide) (by rfl) _ (by rfl) (srcOf_block (w := World.drew _) (c := #[.int .i64 2, .int .u32 z.gen, .int .i64 z.addr]) (at_new (by simp)) rfl (by simp [Value.oneCell']) 1) (by unfold maxLen; omega) (by omega) ?_; intro sn cn w2 h2; have k2 := (h2.cell 0 rfl 2 (v := .slice sl j cl) rfl).1; have f2 := (h2.cell 0 rfl 2 (v := .slice sl j cl) rfl).2))
            all_goals
              have H3 := Lib.hid (h2.set 0 rfl 2 (.slice sn (j + 1) cn))
              clear h h2 k2 f2 hi0 hz0 hz1 hz2
              go_wp2
              go_roundw
              case rel =>
                refine ⟨j + 1, by omega, by go_num, HX.out _ _ _ H3.out, fun r hr => ?_⟩
                rw [take_snoc' HJ.out.2] at hr
                rcases List.mem_append.1 hr with hr | hr
                · exact HJ.out.1 r hr
                · simp at hr; subst hr; exact HK.out
              case measure => simp [RowKit.intOf]; omega
          · have b5 : (z.gen == last) = false := beqF g5
            have G5 := Lib.hid g5
            clear g5
            have HX := Lib.hid (fun (w3 : World) (sn : Option Addr) (cn : Nat) (h3 : Sep No w w3 [cellsAt t #[.int .i64 m, .int .u32 last, .slice sn (j + 1) cn] 170, rowAt 187 3 (.slice sn (j + 1) cn) (j + 1) (rowOf (HTbl.ofRaw m last (zs.take j)).l ++ [.int .i64 0, .int .u32 z.gen, .int .i64 z.addr])]) => (show Sep No w w3 [tabR t (HTbl.ofRaw m last (zs.take (j + 1)))] from by
              obtain ⟨hok, hzj⟩ := HJ.out
              obtain ⟨n1, n2, n3, n4⟩ := HN.out
              have hll : (HTbl.ofRaw m last (zs.take (j + 1))).l.length = j + 1 := by simp [HTbl.ofRaw, HL.out]; omega
              have hrr : rowOf (HTbl.ofRaw m last (zs.take (j + 1))).l = rowOf (HTbl.ofRaw m last (zs.take j)).l ++ [.int .i64 0, .int .u32 z.gen, .int .i64 z.addr] := by
                simp only [HTbl.ofRaw]
                rw [take_snoc' hzj, List.map_append, List.map_singleton, rowOf_append]
                simp [HTbl.ofR, hop, G5.out]
              refine tab_shut (v := .slice sn (j + 1) cn) (HTbl.ofRaw_ok n1.1 n1.2.1 n1.2.2 n2.2 (by rw [List.length_take, HL.out]; have := HL.out; omega) ?_ ?_) (by rw [hll, hrr]; exact h3)
              · intro r hr
                rw [take_snoc' hzj] at hr
                rcases List.mem_append.1 hr with hr | hr
                · exact hok r hr
                · simp at hr; subst hr; exact HK.out
              · intro r hr
                exact (n4 r (List.mem_of_mem_take hr)).2.2))
            go_wp2_with fail
            go_region_law ((refine step_append_src (((h.alloc _).alloc _).alloc _).drew 1 rfl (by rfl) _ _ 168 (by rfl) Tryz.underlying168 hi0 hz0 hz1 hz2 rfl (by decide) (by rfl) _ (by rfl) (srcOf_block (w := World.drew _) (c := #[.int .i64 0, .int .u32 z.gen, .int .i64 z.addr]) (at_new (by simp)) rfl (by simp [Value.oneCell']) 1) (by unfold maxLen; omega) (by omega) ?_; intro sn cn w2 h2; have k2 := (h2.cell 0 rfl 2 (v := .slice sl j cl) rfl).1; have f2 := (h2.cell 0 rfl 2 (v := .slice sl j cl) rfl).2))
            all_goals
              have H3 := Lib.hid (h2.set 0 rfl 2 (.slice sn (j + 1) cn))
              clear h h2 k2 f2 hi0 hz0 hz1 hz2
              go_wp2
              go_roundw
              case rel =>
                refine ⟨j + 1, by omega, by go_num, HX.out _ _ _ H3.out, fun r hr => ?_⟩
                rw [take_snoc' HJ.out.2] at hr
                rcases List.mem_append.1 hr with hr | hr
                · exact HJ.out.1 r hr
                · simp at hr; subst hr; exact HK.out
              case measure => simp [RowKit.intOf]; omega
        · have b4 : (z.addr != 0) = true := bneT g4
          clear h hi0 hz0 hz1 hz2
          go_wp2
          go_ret2
          refine HB.out _ ((((hmod.out.alloc _)))) (fun hall => ?_)
          have := HTbl.rOk_iff.1 (hall z (List.mem_of_getElem? HJ.out.2))
          rw [hop] at this
          simp at this
          omega
    · obtain rfl : j = n := by omega
      have hfin := Lib.hid (show OfPost w m last zs (.returned (.tuple #[.pointer (some ⟨t, 0, none⟩), .int .i64 0])) wr from by
        have hl := HL.out
        rw [← hl, List.take_length] at h hok
        have h' := h
        rw [← HT.out] at h' ⊢
        exact .inr ⟨rfl, h', hok, HN.out.1.1, HN.out.1.2.1, HN.out.1.2.2, by have := HN.out.2.2.1; omega⟩)
      clear h hok
      go_wp2
      go_ret2
      exact hfin.out
end Go.Proofs.YtmdnofojecncgaaGreatDoor
