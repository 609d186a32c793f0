/- A builder whose row is known: what WriteString turns. -/
import Derived.Test.YtgikebkgihcogaaDoorC8
namespace Go.Proofs.YtgikebkgihcogaaDoor
open Go.RowKit Go.Sort
set_option maxHeartbeats 1000000

def BAtV (B b : Nat) (v : Value) (bs : List Value) (w : World) : Prop := B ≤ b ∧ Blk w b #[.pointer (some ⟨b, 0, none⟩), v] 54 ∧ w.ownsRow B 5 1 v bs.length bs ∧ v.ownBlock ≠ some b
theorem BAt.toV {B b : Nat} {bs : List Value} {w : World} (h : BAt B b bs w) : ∃ v, BAtV B b v bs w := by
  obtain ⟨v, hbk, hown, hB, hne, _⟩ := h.row
  exact ⟨v, hB, hbk, hown, hne⟩
theorem BAtV.of {B b : Nat} {v : Value} {bs : List Value} {w : World} (h : BAtV B b v bs w) : BAt B b bs w := ⟨h.1, v, h.2.1, h.2.2.1, h.2.2.2⟩
theorem BAtV.gro {B b : Nat} {v : Value} {bs : List Value} {w w' : World} (h : BAtV B b v bs w) (hx : Gro w w') : BAtV B b v bs w' :=
  ⟨h.1, h.2.1.ext hx id, h.2.2.1.kept (row := none) ⟨hx.os, hx.tape, hx.output, hx.size, fun k hk _ => hx.block k hk id⟩ (by cases v.ownBlock <;> simp), h.2.2.2⟩
theorem BAtV.lt {B b : Nat} {v : Value} {bs : List Value} {w : World} (h : BAtV B b v bs w) (k : Nat) (hk : v.ownBlock = some k) : B ≤ k ∧ k < w.heap.size := h.2.2.1.lt k hk

theorem append_where {P : Program} (w : World) (t u ty e : TypeId) (i : TypeInfo) (ht : P.underlying t = some (.slice e)) (hu : P.underlying u = some .string) (hi : P.info? e = some i) (hz : i.zero = some (.int .u8 0)) (hsize : i.size = 1) (hby : i.bytes = 1)
    (base g n cap : Nat) (xs : List Value) (hown : w.ownsRow base e 1 (.slice (some ⟨g, 0, none⟩) n cap) n xs) (s : ByteArray) (h63 : n + s.size ≤ maxLen) (hbytes : n + s.size ≤ 140737488355328)
    {v' : Value} {w' : World} (hrun : (Builtin.append_ #[t, u] ty #[.slice (some ⟨g, 0, none⟩) n cap, .string s]).run P w = .ok v' w') : v'.ownBlock = some g ∨ v'.ownBlock = some w.heap.size := by
  have hsmall : n + s.size ≤ 9223372036854775807 := by simp only [maxLen] at h63; omega
  rcases hown.2 with ⟨hh, _⟩ | ⟨g', cap', cur, hh, hb, hg, h1, h2, h3, h4⟩
  · cases hh
  · injection hh with a1 _ a3
    injection a1 with a1
    injection a1 with a1
    subst a1; subst a3
    by_cases hroom : n + s.size ≤ cap
    · have hr := Lib.run_append_room_string (P := P) w t u ty e i ht hu hi hsize g n cap cur hg s hroom (by omega)
      rw [hr] at hrun
      injection hrun with h5 _
      subst h5
      exact .inl rfl
    · have holds : ∀ j u, xs[j]? = some u → w.cell? ((⟨g, 0, none⟩ : Addr).add j) = some u := hown.cells (g := g) rfl
      have hxl : xs.length = n := by simpa using hown.1
      have hr := Lib.run_append_grow_string (P := P) w t u ty e i (.int .u8 0) ht hu hi hz ⟨g, 0, none⟩ n cap xs (by rw [hsize]; simpa using hxl) holds s (by omega) (by omega) (by rw [hby]; exact growslice_fits (by omega) (by omega))
      rw [hr] at hrun
      injection hrun with h5 _
      subst h5
      exact .inr rfl

theorem WriteStringV (B b : Nat) (v : Value) (bs : List Value) (s : ByteArray) (w : World) (h : BAtV B b v bs w) (h0 : bs ≠ []) (hlen : bs.length + s.size ≤ 140737488355328) :
    Calls Tryd.prog 20 #[.pointer (some ⟨b, 0, none⟩), .string s] w fun e w' => e = .returned (.tuple #[.int .i64 s.size, .nilIface]) ∧ ∃ v', BAtV B b v' (bs ++ Lib.strCells s) w' ∧
      (v'.ownBlock = v.ownBlock ∨ v'.ownBlock = some w.heap.size) ∧ Ext (fun k => k = b ∨ v.ownBlock = some k) w w' := by
  obtain ⟨i0, hi, hz0, hz1, hz2⟩ := info_parts info_byte
  obtain ⟨hB, hbk, hown, hne⟩ := h
  have hBw : B ≤ w.heap.size := by have := hbk.lt; omega
  obtain ⟨g, cap, hv⟩ : ∃ g cap, v = .slice (some ⟨g, 0, none⟩) bs.length cap := by
    rcases hown.2 with ⟨_, hn⟩ | ⟨g, cap, cur, hv, _⟩
    · exact absurd (List.eq_nil_of_length_eq_zero hn) h0
    · exact ⟨g, cap, hv⟩
  subst hv
  have c0 := hbk.cell 0
  have c1 := hbk.cell 1
  simp at c0 c1
  obtain ⟨v', w2, hrun, hown', hgrow, _⟩ := Lib.run_append_own_string (P := Tryd.prog) w B 52 9 52 5 i0 Tryd.underlying52 Tryd.underlying9 hi hz0 hz1 hz2 _ bs.length bs hown s (by unfold maxLen; omega) hlen hBw
  have hwhere := append_where (P := Tryd.prog) w 52 9 52 5 i0 Tryd.underlying52 Tryd.underlying9 hi hz0 hz1 hz2 B g bs.length cap bs hown s (by unfold maxLen; omega) hlen hrun
  have hdr := run_drawn _ _ _ _ _ hrun
  have hx2 : Ext (fun k => (Value.slice (some ⟨g, 0, none⟩) bs.length cap).ownBlock = some k) w w2 := ⟨hgrow.os, hgrow.tape, hgrow.output, hgrow.size, hdr, fun k hk hn => hgrow.block k hk (fun e => hn e.symm)⟩
  have hb2 : Blk w2 b #[.pointer (some ⟨b, 0, none⟩), .slice (some ⟨g, 0, none⟩) bs.length cap] 54 := hbk.ext hx2 hne
  have d1 := hb2.cell 1; have z1 := hb2.thaw 1
  simp at d1
  have hxs := hx2.mono (S' := fun k => k = b ∨ (Value.slice (some ⟨g, 0, none⟩) bs.length cap).ownBlock = some k) fun k _ hk => .inr hk
  obtain ⟨ao, n', cap', rfl⟩ : ∃ ao n' cap', v' = .slice ao n' cap' := by
    rcases hown'.2 with ⟨hv, _⟩ | ⟨g, cap, cur, hv, _⟩
    · exact ⟨_, _, _, hv⟩
    · exact ⟨_, _, _, hv⟩
  have hne' : (Value.slice ao n' cap').ownBlock ≠ some b := by
    rcases hwhere with e | e
    · rw [e]; exact hne
    · rw [e]; have := hbk.lt; intro h; injection h; omega
  have HB2 := Lib.hid hb2; have HX := Lib.hid hxs; have HRUN := Lib.hid hrun; have HOWN := Lib.hid hown'; have HWH := Lib.hid hwhere; have HNE := Lib.hid hne'
  have hcc := copyCheck_used b w c0
  have HCC := Lib.hid hcc
  clear hb2 hxs hrun hx2 hgrow hown hown' hwhere hne' hcc hbk
  go_enter Tryd.func20, Tryd.ntmps20
  go_wp2_with (go_at_call 49; refine HCC.out.mono ?_)
  rintro e w1 ⟨rfl, rfl⟩
  go_wp2_with (at_builtin; refine wpList_append_run rfl _ _ 52 9 rfl _ _ rfl rfl _ _ HRUN.out ?_)
  go_ret2
  have hb3 := HB2.out.setCell 1 (.slice ao n' cap')
  refine ⟨rfl, .slice ao n' cap', ⟨hB, by simpa using hb3, ?_, HNE.out⟩, by simpa [Value.ownBlock] using HWH.out, HX.out.setCell ⟨b, 1, none⟩ _ (fun _ => .inl rfl)⟩
  have ho : w2.ownsRow B 5 1 (.slice ao n' cap') (bs ++ Lib.strCells s).length (bs ++ Lib.strCells s) := by simpa [Lib.strCells_length] using HOWN.out
  exact ho.kept (row := some b) ⟨rfl, rfl, rfl, by simp [World.setCell], fun k _ hk => Below.heap_setCell _ _ _ _ (fun e => hk (by simp [e]))⟩ (Or.inr HNE.out)
end Go.Proofs.YtgikebkgihcogaaDoor
