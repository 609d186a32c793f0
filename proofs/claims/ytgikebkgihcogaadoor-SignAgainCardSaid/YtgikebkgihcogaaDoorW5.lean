/- Walks: strings.Builder (copyCheck, WriteString, String), after the library's own contracts, with what has become of the count of draws. -/
import Derived.Test.YtgikebkgihcogaaDoorW4
import Derived.Lib.Builder
import Derived.Lib.AppendStr
import Derived.Lib.UnsafeStr
import Derived.Lib.FrozenHead
namespace Go.Proofs.YtgikebkgihcogaaDoor
open Go.RowKit
set_option maxHeartbeats 400000

theorem info_byte : (Tryd.prog.info? 5).map (fun i => (i.zero, i.size, i.bytes)) = some (some (.int .u8 0), 1, 1) := by kernel_rfl
theorem size_builder : (Tryd.prog.info? 54).map (·.size) = some 2 := by kernel_rfl
theorem lies_builder : liesAt Tryd.prog Tryd.prog.depth 54 (2 / Tryd.prog.cellsOf 54) 0 54 1 = true := by kernel_rfl
theorem cells_byte : Tryd.prog.cellsOf 5 = 1 := by kernel_rfl

/-- The blocks that a builder's methods may turn: its own, and rows of bytes from B on. -/
def BS (B b : Nat) (w : World) (k : Nat) : Prop := k = b ∨ (B ≤ k ∧ ∃ cur fr, w.heap[k]? = some (.cells cur 5 fr))
abbrev BExt (B b : Nat) (w w' : World) : Prop := Ext (BS B b w) w w'
theorem BExt.trans {B b : Nat} {w w1 w2 : World} (h : BExt B b w w1) (k : BExt B b w1 w2) : BExt B b w w2 :=
  Ext.trans h k fun i hi hs => Classical.byContradiction fun hn => by
    rcases hs with rfl | ⟨hB, cur, fr, hc⟩
    · exact hn (.inl rfl)
    · exact hn (.inr ⟨hB, cur, fr, by rw [← h.block i hi hn]; exact hc⟩)
theorem BExt.gro {B b : Nat} {w w' : World} (h : Gro w w') : BExt B b w w' := h.mono fun _ _ e => e.elim
theorem BExt.toGro {B b : Nat} {w w1 w2 : World} (h : Gro w w1) (hB : w.heap.size ≤ B) (hb : w.heap.size ≤ b) (k : BExt B b w1 w2) : Gro w w2 :=
  Ext.trans h k fun i hi hs => by rcases hs with rfl | ⟨h1, _⟩ <;> omega
/-- A block that is none of these. -/
theorem BS.not {B b g : Nat} {w : World} {cs : Array Value} {t : TypeId} (h : Blk w g cs t) (hb : g ≠ b) (ht : t ≠ 5) : ¬ BS B b w g := by
  rintro (rfl | ⟨_, cur, fr, hc⟩)
  · exact hb rfl
  · rw [show w.heap[g]? = _ from h] at hc
    injection hc with hc; injection hc with _ h2; exact ht h2
theorem BS.notOld {B b g : Nat} {w : World} (hb : g ≠ b) (hB : g < B) : ¬ BS B b w g := by
  rintro (rfl | ⟨h1, _⟩)
  · exact hb rfl
  · omega

abbrev BAt (B b : Nat) (bs : List Value) (w : World) : Prop := Lib.BuilderAt 54 5 B b (.pointer (some ⟨b, 0, none⟩)) bs w
abbrev BIs (B b : Nat) (bs : List Value) (w : World) : Prop := Lib.IsBuilder 54 5 B b bs w

set_option maxRecDepth 100000 in
theorem copyCheck_used (b : Nat) (w : World) (h0 : w.cell? ⟨b, 0, none⟩ = some (.pointer (some ⟨b, 0, none⟩))) :
    Calls Tryd.prog 49 #[.pointer (some ⟨b, 0, none⟩)] w fun e w' => e = .returned (.tuple #[]) ∧ w = w' := by
  obtain ⟨j, hj, _⟩ := Option.map_eq_some_iff.1 size_builder
  go_enter Tryd.func49, Tryd.ntmps49
  go_wp2
  rw [Lib.run_neq_ptr_same w _ Tryd.underlying51 hj]
  go_wp2
  go_end0
  exact ⟨rfl, rfl⟩

set_option maxRecDepth 100000 in
theorem copyCheck_fresh (b : Nat) (w : World) (h0 : w.cell? ⟨b, 0, none⟩ = some (.pointer none)) (hsh : w.shape? b = some (54, 2)) (hfz : w.frozen? ⟨b, 0, none⟩ = false) :
    Calls Tryd.prog 49 #[.pointer (some ⟨b, 0, none⟩)] w fun e w' => e = .returned (.tuple #[]) ∧ w' = w.setCell ⟨b, 0, none⟩ (.pointer (some ⟨b, 0, none⟩)) := by
  obtain ⟨j, hj, hjs⟩ := Option.map_eq_some_iff.1 size_builder
  go_enter Tryd.func49, Tryd.ntmps49
  go_wp2
  rw [Lib.run_to_unsafe w ⟨b, 0, none⟩ Tryd.underlying51 Tryd.underlying94 hj (by rw [hjs]; decide) hsh (Nat.zero_lt_succ 1)]
  simp only [Result.andThen]
  rw [Oper.upon_value]
  go_wp2
  rw [run_callFunc_extern Tryd.func64 (by kernel_rfl) (by kernel_rfl) (by kernel_rfl) (e := Extern.AbiNoEscape.same) (by kernel_rfl)]
  rw [Lib.run_noEscape]
  simp only [Result.andThen]
  rw [Oper.upon_value]
  go_wp2
  rw [Lib.run_from_unsafe w ⟨b, 0, none⟩ Tryd.underlying94 Tryd.underlying51 hj hsh lies_builder]
  simp only [Result.andThen]
  rw [Oper.upon_value]
  go_wp2
  go_end0
  exact ⟨rfl, rfl⟩

theorem copyCheck (B b : Nat) (bs : List Value) (w : World) (h : BIs B b bs w) :
    Calls Tryd.prog 49 #[.pointer (some ⟨b, 0, none⟩)] w fun e w' => e = .returned (.tuple #[]) ∧ BAt B b bs w' ∧ BExt B b w w' := by
  rcases h with h | h
  · exact (copyCheck_fresh b w h.cell0 h.shape h.frozen0).mono fun e w' ⟨he, hw⟩ => ⟨he, by rw [hw]; exact h.used _, by rw [hw]; exact (Ext.refl (BS B b w) w).setCell ⟨b, 0, none⟩ _ (fun _ => .inl rfl)⟩
  · exact (copyCheck_used b w h.cell0).mono fun e w' ⟨he, hw⟩ => ⟨he, by rw [← hw]; exact h, by rw [← hw]; exact Ext.refl _ _⟩

theorem BAt.row {B b : Nat} {bs : List Value} {w : World} (h : BAt B b bs w) : ∃ v, Blk w b #[.pointer (some ⟨b, 0, none⟩), v] 54 ∧ w.ownsRow B 5 1 v bs.length bs ∧ B ≤ b ∧ v.ownBlock ≠ some b ∧ ∀ k, v.ownBlock = some k → BS B b w k := by
  obtain ⟨hB, v, hbk, hown, hne⟩ := h
  refine ⟨v, hbk, hown, hB, hne, fun k hk => .inr ⟨(hown.lt k hk).1, ?_⟩⟩
  rcases hown.2 with ⟨rfl, _⟩ | ⟨g, cap, cur, rfl, _, hg, _⟩
  · simp [Value.ownBlock] at hk
  · simp only [Value.ownBlock, Option.some.injEq] at hk
    subst hk
    exact ⟨cur, (0, 0), hg⟩

/-- (*strings.Builder).WriteString -/
theorem WriteString (B b : Nat) (bs : List Value) (s : ByteArray) (w : World) (h : BIs B b bs w) (hlen : bs.length + s.size ≤ 140737488355328) (hBw : B ≤ w.heap.size) :
    Calls Tryd.prog 20 #[.pointer (some ⟨b, 0, none⟩), .string s] w fun e w' => e = .returned (.tuple #[.int .i64 s.size, .nilIface]) ∧ BAt B b (bs ++ Lib.strCells s) w' ∧ BExt B b w w' := by
  obtain ⟨i0, hi, hz0, hz1, hz2⟩ := info_parts info_byte
  go_enter Tryd.func20, Tryd.ntmps20
  go_wp2_with (go_at_call 49; refine (copyCheck B b bs _ h).mono ?_)
  rintro e w1 ⟨rfl, h1, hx1⟩
  obtain ⟨v, hbk, hown, hB, hne, hbs⟩ := h1.row
  have c1 := hbk.cell 1
  simp at c1
  have hs1 := hx1.size
  obtain ⟨v', w2, hrun, hown', hgrow, _⟩ := Lib.run_append_own_string (P := Tryd.prog) w1 B 52 9 52 5 i0 Tryd.underlying52 Tryd.underlying9 hi hz0 hz1 hz2 v bs.length bs hown s (by unfold maxLen; omega) hlen (by omega)
  have hdr := run_drawn _ _ _ _ _ hrun
  have hx2 : Ext (fun k => v.ownBlock = some k) w1 w2 := ⟨hgrow.os, hgrow.tape, hgrow.output, hgrow.size, hdr, fun k hk hn => hgrow.block k hk (fun e => hn e.symm)⟩
  have hb2 : Blk w2 b #[.pointer (some ⟨b, 0, none⟩), v] 54 := hbk.ext hx2 hne
  have d1 := hb2.cell 1; have z1 := hb2.thaw 1
  simp at d1
  have hx12 : BExt B b w w2 := hx1.trans (hx2.mono fun k _ hk => hbs k hk)
  obtain ⟨ao, n', cap, rfl⟩ : ∃ ao n' cap, v' = .slice ao n' cap := by
    rcases hown'.2 with ⟨hv, _⟩ | ⟨g, cap, cur, hv, _⟩
    · exact ⟨_, _, _, hv⟩
    · exact ⟨_, _, _, hv⟩
  have HB2 := Lib.hid hb2; have HX := Lib.hid hx12; have HRUN := Lib.hid hrun; have HOWN := Lib.hid hown'
  clear hb2 hx12 hrun hx1 hx2 hbs hgrow hown hbk h1 hown'
  go_wp2_with (at_builtin; refine wpList_append_run rfl _ _ 52 9 rfl _ _ rfl rfl _ _ HRUN.out ?_)
  go_ret2
  refine ⟨rfl, ?_, ?_⟩
  · exact Lib.BuilderAt.put hB HB2.out (by simpa [Lib.strCells_length] using HOWN.out) (by decide)
  · exact HX.out.trans ((Ext.refl (BS B b w2) w2).setCell ⟨b, 1, none⟩ _ (fun _ => .inl rfl))

theorem Ext.freeze {S : Nat → Prop} {w w1 : World} (h : Ext S w w1) (a : Addr) (n : Nat) (hs : a.block < w.heap.size → S a.block) : Ext S w (w1.freeze a n) := by
  unfold World.freeze
  split
  · exact h
  · refine ⟨h.os, h.tape, h.output, by simpa using h.size, h.drawn, fun k hk hn => ?_⟩
    simp only [Array.getElem?_modify]
    rw [if_neg (by rintro rfl; exact hn (hs hk))]
    exact h.block k hk hn

set_option maxRecDepth 100000 in
/-- (*strings.Builder).String of a builder that holds something. -/
theorem BString (B b : Nat) (l : List UInt8) (w : World) (h : BAt B b (Lib.byteCells l) w) (h0 : l ≠ []) :
    Calls Tryd.prog 26 #[.pointer (some ⟨b, 0, none⟩)] w fun e w' => e = .returned (.string ⟨l.toArray⟩) ∧ BExt B b w w' := by
  obtain ⟨v, hbk, hown, hB, hne, hbs⟩ := h.row
  have hl0 : l.length ≠ 0 := by simpa using h0
  rw [Lib.byteCells_length] at hown
  obtain ⟨g, cap, cur, rfl, hbg, hg, hnc, hcm, hcs, htake⟩ : ∃ g cap cur, v = .slice (some ⟨g, 0, none⟩) l.length cap ∧ B ≤ g ∧ w.heap[g]? = some (.cells cur 5 (0, 0)) ∧ l.length ≤ cap ∧ cap ≤ maxLen ∧ cur.size = cap * 1 ∧ cur.toList.take (l.length * 1) = Lib.byteCells l := by
    rcases hown.2 with ⟨_, hz⟩ | ⟨g, cap, cur, hv, r⟩
    · exact absurd hz hl0
    · exact ⟨g, cap, cur, hv, r⟩
  have c1 : w.drew.cell? ⟨b, 1, none⟩ = some (.slice (some ⟨g, 0, none⟩) l.length cap) := (hbk.ext (Ext.refl (fun _ => False) w).drew id).cell 1
  have hSD : (Builtin.unsafeSliceData_ #[52] 81 #[.slice (some ⟨g, 0, none⟩) l.length cap]).run Tryd.prog w.drew = .ok (.pointer (some ⟨g, 0, none⟩)) w.drew :=
    Lib.run_unsafeSliceData_row _ _ _ _ _ _ (by omega)
  have hUS : (Builtin.unsafeString_ #[81, 3] 9 #[.pointer (some ⟨g, 0, none⟩), .int .i64 l.length]).run Tryd.prog w.drew = .ok (.string ⟨l.toArray⟩) (w.drew.freeze ⟨g, 0, none⟩ l.length) := by
    refine Lib.run_unsafeString_row w.drew 81 3 9 5 Tryd.underlying81 cells_byte g cur.size (by have hg' : w.drew.heap[g]? = some (.cells cur 5 (0, 0)) := hg; simp [World.shape?, hg']) l h0 (by omega) (by unfold maxLen at hcm; omega) ?_
    intro j x hx
    have := hown.cells (g := g) rfl j (.int .u8 x.toNat) (by simp [Lib.byteCells, hx])
    exact this
  have hgS : BS B b w g := hbs g rfl
  have HG := Lib.hid hgS
  clear hbs hgS hbk hown hg hnc hcm hcs htake
  go_enter Tryd.func26, Tryd.ntmps26
  go_wp2
  go_region
  all_goals (go_wp2; go_ret; exact ⟨rfl, (Ext.refl (BS B b w) w).drew.freeze ⟨g, 0, none⟩ _ (fun _ => HG.out)⟩)
end Go.Proofs.YtgikebkgihcogaaDoor
