/- Made lists of integers; sign.Within. -/
import Derived.Test.YtgikebkgihcogaaDoorC5
namespace Go.Proofs.YtgikebkgihcogaaDoor
open Go.RowKit Go.Sort
set_option maxHeartbeats 1000000

/-- v is a slice of the call's own (from base on) that holds is. -/
def Ints (w : World) (base : Nat) (v : Value) (is : List Int) : Prop := w.ownsRow base 3 1 v is.length (is.map (Value.int .i64))
theorem Ints.nil (w : World) (base : Nat) : Ints w base (.slice none 0 0) [] := World.ownsRow_nil _ _ _ _
theorem Ints.gro {w w' : World} {base : Nat} {v : Value} {is : List Int} (h : Ints w base v is) (hx : Gro w w') : Ints w' base v is :=
  World.ownsRow.kept h (row := none) ⟨hx.os, hx.tape, hx.output, hx.size, fun k hk _ => hx.block k hk id⟩ (by cases v.ownBlock <;> simp)
theorem Ints.base {w : World} {base base' : Nat} {v : Value} {is : List Int} (hb : base ≤ base') (h : Ints w base' v is) : Ints w base v is := by
  refine ⟨h.1, ?_⟩
  rcases h.2 with hn | ⟨g, cap, cur, rfl, hg, rest⟩
  · exact .inl hn
  · exact .inr ⟨g, cap, cur, rfl, Nat.le_trans hb hg, rest⟩
theorem Ints.own_base {w : World} {base : Nat} {v : Value} {is : List Int} (h : Ints w base v is) (k : Nat) (hk : v.ownBlock = some k) : base ≤ k := (h.lt k hk).1
theorem Ints.own_lt {w : World} {base : Nat} {v : Value} {is : List Int} (h : Ints w base v is) (k : Nat) (hk : v.ownBlock = some k) : k < w.heap.size := (h.lt k hk).2
/-- What is read of it. -/
theorem Ints.read {w : World} {base : Nat} {v : Value} {is : List Int} (h : Ints w base v is) : ∃ A cap, v = .slice A is.length cap ∧ is.length ≤ cap ∧ cap ≤ maxLen ∧
    (0 < is.length → ∃ g, A = some ⟨g, 0, none⟩ ∧ base ≤ g ∧ g < w.heap.size ∧ ∀ j x, is[j]? = some x → w.cell? ⟨g, j, none⟩ = some (.int .i64 x)) := by
  have hc := fun g (hg : v.ownBlock = some g) j x hx => World.ownsRow.cells (g := g) h hg j x hx
  have hlt := h.lt
  rcases h.2 with ⟨rfl, hn⟩ | ⟨g, cap, cur, rfl, hb, hg, hnc, hcm, hcs, htake⟩
  · exact ⟨none, 0, by rw [hn], by omega, by unfold maxLen; omega, fun hp => by omega⟩
  · refine ⟨some ⟨g, 0, none⟩, cap, rfl, hnc, hcm, fun _ => ⟨g, rfl, hb, (hlt g rfl).2, fun j x hx => ?_⟩⟩
    have := hc g rfl j (.int .i64 x) (by rw [List.getElem?_map, hx]; rfl)
    rw [Addr.add_lit] at this
    simpa using this
theorem info_int : (Tryd.prog.info? 3).map (fun i => (i.zero, i.size, i.bytes)) = some (some (.int .i64 0), 1, 8) := by kernel_rfl
theorem Ints.append {w : World} {base : Nat} {v : Value} {is : List Int} (h : Ints w base v is) (x : Int) (hbase : base ≤ w.heap.size) (hlen : (is.length + 1) * 8 ≤ 140737488355328) :
    ∃ v' w', (Builtin.append_ #[22, 22] 22 #[v, .slice (some ⟨w.heap.size, 0, none⟩) 1 1]).run Tryd.prog (w.alloc (.cells #[.int .i64 x] 3)) = .ok v' w' ∧ Ints w' base v' (is ++ [x]) ∧ Ext (fun k => v.ownBlock = some k) w w' := by
  obtain ⟨i0, hi, hz0, hz1, hz2⟩ := info_parts info_int
  have hB := Blk.new w #[.int .i64 x] 3
  obtain ⟨v', w', hrun, hown, hgrow, _, hat⟩ := run_append_own_at (P := Tryd.prog) (w.alloc (.cells #[.int .i64 x] 3)) base 22 22 3 i0 _ 1 8 Tryd.underlying22 hi hz0 hz1 hz2 rfl (by decide) v is.length (is.map (Value.int .i64)) (World.ownsRow.alloc h _)
    ⟨w.heap.size, 0, none⟩ 1 1 [.int .i64 x] rfl (fun j u hu => by rw [Addr.add_lit, hB.cell]; simpa using hu) (by simp [Value.oneCell']) (by unfold maxLen; omega) hlen (by simp; omega)
  have hdr := run_drawn _ _ _ _ _ hrun
  have hx : Ext (fun k => v.ownBlock = some k) (w.alloc (.cells #[.int .i64 x] 3)) w' := ⟨hgrow.os, hgrow.tape, hgrow.output, hgrow.size, hdr, fun k hk hn => hgrow.block k hk (fun e => hn e.symm)⟩
  exact ⟨v', w', hrun, by unfold Ints; simpa using hown, ((Ext.refl _ w).alloc _).same hx⟩

/-- An expression that refers to tables of a set alone. -/
def withinB (set : Int) (e : Ex) : Bool := decide (0 ≤ set) && (decide (tablesF e ≠ 0) && decide (bits .andNot .i64 (tablesF e : Nat) set = 0))
def withinI (set : Int) (xs : List Ex) (k : Nat) : List Int := ((List.range k).filter fun i => withinB set (nth xs i)).map (fun i : Nat => (i : Int))
theorem withinI_succ (set : Int) (xs : List Ex) (k : Nat) : withinI set xs (k + 1) = withinI set xs k ++ (if withinB set (nth xs k) = true then [(k : Int)] else []) := by
  simp only [withinI, List.range_succ, List.filter_append, List.map_append]
  congr 1
  by_cases h : withinB set (nth xs k) = true
  · simp [h]
  · simp [h]
theorem withinI_len (set : Int) (xs : List Ex) (k : Nat) : (withinI set xs k).length ≤ k := by
  have := (List.filter_sublist (l := List.range k) (p := fun i => withinB set (nth xs i))).length_le
  simpa [withinI] using this

def WithinPost (w : World) (is : List Int) (r : Ending) (w' : World) : Prop := ∃ v, r = .returned v ∧ Ints w' w.heap.size v is ∧ Gro w w'

set_option maxRecDepth 100000 in
theorem sign_Within (w : World) (ok : Nat → Prop) (A : Option Addr) (cap : Nat) (xs : List Ex) (css : Nat → List Value) (set : Int) (hL : LRep w ok A xs css) (hn : xs.length ≤ 1353245080300) :
    Calls Tryd.prog 9 #[.slice A xs.length cap, .int .i64 set] w (WithinPost w (withinI set xs xs.length)) := by
  have HL := Lib.hid hL; clear hL
  go_enter Tryd.func9, Tryd.ntmps9
  go_wp2_with fail
  go_loopw [5, 11] (fun v i wr => ∃ k : Nat, k ≤ xs.length ∧ i = .int .i64 k ∧ Ints wr w.heap.size v (withinI set xs k) ∧ Gro w wr) (fun _ i _ => xs.length - (intOf i).toNat)
  case atStart => exact ⟨0, Nat.zero_le _, rfl, Ints.nil _ _, Ext.refl _ _⟩
  case round =>
    obtain ⟨k, hk, rfl, hM, hG⟩ := hrel
    by_cases hlt : k < xs.length
    · have hLr := HL.out.gro hG
      obtain ⟨hlen, bA, off, rfl, hcA⟩ := hLr.elem k hlt
      obtain ⟨A', cap', hcs⟩ := (hLr.hl k hlt).shape
      have hcc : ∀ j v, (cells xs[k] A' cap')[j]? = some v → wr.cell? ((⟨bA, off + k * 9, none⟩ : Addr).add j) = some v := fun j v h => by rw [Addr.add_lit]; exact hcA j v (by rw [hcs]; exact h)
      have hRk := hLr.hl k hlt
      rw [hcs] at hRk
      have hnk : nth xs k = xs[k] := by rw [nth, List.getD_eq_getElem?_getD, List.getElem?_eq_getElem hlt]; rfl
      have HCC := Lib.hid hcc; have HM := Lib.hid hM; have HG := Lib.hid hG; have HRK := Lib.hid hRk; have HNK := Lib.hid hnk
      clear hcc hM hG hcA hlen hcs hLr hRk hnk
      generalize xs[k] = x at HCC HRK HNK
      go_upto_region 5 with (refine wpList_load_list rfl 39 (.tmp 14) rfl ⟨bA, off + k * 9, none⟩ rfl (cells x A' cap') _ Tryd.underlying39 rfl (by kernel_rfl) HCC.out ?_; simp only [cells])
      have hb := Blk.new wr (cells x A' cap').toArray 39
      have hga := (Ext.refl (fun _ => False) wr).alloc (.cells (cells x A' cap').toArray 39)
      simp only [cells] at hb hga
      generalize wr.alloc _ = w1 at hb hga ⊢
      have hT := expr_Tables _ x _ w1 (HRK.out.gro hga)
      simp only [cells] at hT
      have e0 := hb.cell 0; have e1 := hb.cell 1; have e2 := hb.cell 2; have e3 := hb.cell 3; have e4 := hb.cell 4; have e5 := hb.cell 5; have e6 := hb.cell 6; have e7 := hb.cell 7; have e8 := hb.cell 8
      simp at e0 e1 e2 e3 e4 e5 e6 e7 e8
      have l1 := hb.lt
      have HT := Lib.hid hT; have HGA := Lib.hid hga; clear hT hga hb
      go_upto_region 6 with (go_at_call 18; refine HT.out.mono ?_; rintro r w2 ⟨rfl, hg2⟩; have HG2 := Lib.hid hg2; clear hg2 e0 e1 e2 e3 e4 e5 e6 e7 e8 l1)
      have hgx : Gro w w2 := HG.out.same (HGA.out.same HG2.out)
      have HGX := Lib.hid hgx
      have hM2 := HM.out.gro (HGA.out.same HG2.out)
      have hskip : withinB set x = false → Ints w2 w.heap.size u5 (withinI set xs (k + 1)) := fun h => by rw [withinI_succ, HNK.out, h]; simpa using hM2
      have HSKIP := Lib.hid hskip; have HM2 := Lib.hid hM2
      have hWB : withinB set x = (decide (0 ≤ set) && (decide (tablesF x ≠ 0) && decide (bits .andNot .i64 (tablesF x : Nat) set = 0))) := rfl
      have htz : (tablesF x ≠ 0) ↔ (((tablesF x : Nat) : Int) ≠ 0) := by omega
      have HTZ := Lib.hid htz
      have HWB := Lib.hid hWB
      have hsz2 := hgx.size
      clear hgx hskip hM2 hWB htz
      generalize ((tablesF x : Nat) : Int) = t at HWB HTZ ⊢
      by_cases hs0 : 0 ≤ set
      · by_cases ht0 : t = 0
        · have ht0' : (t != 0) = false := by simp [ht0]
          have HWF : Hid (withinB set x = false) := Lib.hid (by rw [HWB.out]; have : ¬ (tablesF x ≠ 0) := fun h => HTZ.out.1 h ht0; simp [this])
          clear ht0
          go_wp2_with fail
          go_roundw
          case rel => exact ⟨k + 1, by omega, by go_num, HSKIP.out HWF.out, HGX.out⟩
          case measure => simp [intOf]; omega
        · have ht0' : (t != 0) = true := by simp [ht0]
          by_cases hb0 : bits .andNot .i64 t set = 0
          · have hb0' : (bits .andNot .i64 t set == 0) = true := by simp [hb0]
            have hwt : withinB set x = true := by rw [HWB.out]; simp [hs0, hb0, HTZ.out.2 ht0]
            have HWT := Lib.hid hwt
            have hlenI := withinI_len set xs k
            obtain ⟨v', w3, hrun, hM3, hx3⟩ := HM2.out.append (k : Int) hsz2 (by omega)
            have hG3 : Gro w w3 := HGX.out.trans hx3 (fun i hi e => by have := HM2.out.own_base i e; omega)
            have HRUN := Lib.hid hrun; have HM3 := Lib.hid hM3; have HG3 := Lib.hid hG3
            clear hrun hM3 hx3 hG3 hb0 ht0 hwt
            go_wp2_with (at_builtin; refine wpList_append_run rfl _ _ 22 22 rfl _ _ rfl rfl _ _ HRUN.out ?_)
            go_roundw
            case rel =>
              refine ⟨k + 1, by omega, by go_num, ?_, HG3.out⟩
              rw [withinI_succ, HNK.out, HWT.out]; exact HM3.out
            case measure => simp [intOf]; omega
          · have hb0' : (bits .andNot .i64 t set == 0) = false := by simp [hb0]
            have HWF : Hid (withinB set x = false) := Lib.hid (by rw [HWB.out]; simp [hb0])
            clear hb0 ht0
            go_wp2_with fail
            go_roundw
            case rel => exact ⟨k + 1, by omega, by go_num, HSKIP.out HWF.out, HGX.out⟩
            case measure => simp [intOf]; omega
      · have HWF : Hid (withinB set x = false) := Lib.hid (by rw [HWB.out]; simp [hs0])
        have hs1 : set < 0 := by omega
        clear hs0
        go_wp2_with fail
        go_roundw
        case rel => exact ⟨k + 1, by omega, by go_num, HSKIP.out HWF.out, HGX.out⟩
        case measure => simp [intOf]; omega
    · obtain rfl : k = xs.length := by omega
      have HM := Lib.hid hM; have HG := Lib.hid hG; clear hM hG
      go_wp2_with fail
      go_ret
      exact ⟨_, rfl, HM.out, HG.out⟩
end Go.Proofs.YtgikebkgihcogaaDoor
