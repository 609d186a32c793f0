/- Walks: sign.Normal. -/
import Derived.Test.YtgikebkgihcogaaDoorW12
namespace Go.Proofs.YtgikebkgihcogaaDoor
open Go.RowKit
set_option maxHeartbeats 1000000

theorem results_row_tmp {P : Program} {fn : Func} {p u : Tmp} {ty : TypeId} (h : fn.results = #[.cell p ty, .tmp u]) (tmps : Array Value) (w : World) (g : Nat) (t : TypeId) (cs : Array Value) (fr : Nat × Nat) (d : TypeDesc)
    (hp : tmps.getD p undef = .pointer (some ⟨g, 0, none⟩)) (hg : w.heap[g]? = some (.cells cs t fr))
    (hu : P.underlying ty = some d) (hd : (match d with | .struct _ | .array _ _ => true | _ => false) = true) (hi : (P.info? ty).map (·.size) = some cs.size) :
    (results fn tmps).run P w = .ok (.tuple #[.agg cs, tmps.getD u undef]) w := by
  rw [results_cell_tmp h, hp]
  simp [asAddr, run_loadVar_row w g t ty cs fr d hg hu hd hi, Result.andThen]

theorem I64_zero : I64 0 := by constructor <;> decide
def zeroEx : Ex := .mk 0 0 0 ⟨#[]⟩ 0 0 0 ⟨#[]⟩ []
def NormalPost (w : World) (e : Ex) (r : Ending) (w' : World) : Prop :=
  ∃ cs, r = .returned (.tuple #[.agg cs.toArray, .int .i64 (if rightF e = true then 0 else 1)]) ∧ Rep w' (fun b => w.heap.size ≤ b ∧ b < w'.heap.size) (if rightF e = true then normF e else zeroEx) cs ∧ Gro w w'

set_option maxRecDepth 100000 in
theorem sign_Normal (ok : Nat → Prop) (e : Ex) (cs : List Value) (w : World) (h : Rep w ok e cs) (ht : Tab w) :
    Calls Tryd.prog 13 #[.agg cs.toArray] w (NormalPost w e) := by
  obtain ⟨A, cap, rfl⟩ := h.shape
  have HR := Lib.hid h.old; have HT := Lib.hid ht; clear h ht
  simp only [cells]
  go_enter Tryd.func13, Tryd.ntmps13
  go_upto_region 1 with (fail)
  have hW := ((Ext.refl (fun _ => False) w).alloc (.cells (cells e A cap).toArray 39)).alloc (.cells (cells zeroEx none 0).toArray 39)
  have hb1 := (Blk.newAt (w := w) (n := w.heap.size) rfl (cells e A cap).toArray 39).alloc (.cells (cells zeroEx none 0).toArray 39)
  have hb2 := Blk.newAt (w := w.alloc (.cells (cells e A cap).toArray 39)) (n := w.heap.size + 1) (by simp) (cells zeroEx none 0).toArray 39
  have hcz : cells zeroEx none 0 = [.int .i64 0, .int .i64 0, .int .i64 0, .string ⟨#[]⟩, .int .i64 0, .int .i64 0, .int .i64 0, .string ⟨#[]⟩, .slice none 0 0] := rfl
  rw [hcz] at hW hb1 hb2
  simp only [cells] at hW hb1 hb2
  generalize (w.alloc _).alloc _ = w1 at hW hb1 hb2 ⊢
  have e0 := hb1.cell 0; have e1 := hb1.cell 1; have e2 := hb1.cell 2; have e3 := hb1.cell 3; have e4 := hb1.cell 4; have e5 := hb1.cell 5; have e6 := hb1.cell 6; have e7 := hb1.cell 7; have e8 := hb1.cell 8
  simp at e0 e1 e2 e3 e4 e5 e6 e7 e8
  have l1 := hb1.lt
  have hR := expr_Right _ e _ w1 (HR.out.gro hW)
  simp only [cells] at hR
  have HB1 := Lib.hid hb1; have HB2 := Lib.hid hb2; have HW := Lib.hid hW; clear hb1 hb2 hW hcz
  by_cases hr : rightF e = true
  · rw [hr] at hR
    have HRR := Lib.hid hR; have HRF := Lib.hid hr; clear hR hr
    go_upto_region 3 with (go_at_call 14; refine HRR.out.mono ?_; rintro r w2 ⟨rfl, hg2⟩; have HG2 := Lib.hid hg2; clear hg2)
    clear e0 e1 e2 e3 e4 e5 e6 e7 e8
    have hb1 := HB1.out.ext HG2.out id
    have d0 := (hb1.ext (Ext.refl (fun _ => False) _).drew id)
    have e0 := d0.cell 0; have e1 := d0.cell 1; have e2 := d0.cell 2; have e3 := d0.cell 3; have e4 := d0.cell 4; have e5 := d0.cell 5; have e6 := d0.cell 6; have e7 := d0.cell 7; have e8 := d0.cell 8
    simp at e0 e1 e2 e3 e4 e5 e6 e7 e8
    have l2 := d0.lt
    have HB1' := Lib.hid hb1; clear hb1 d0
    have E0 := Lib.hid e0; have E1 := Lib.hid e1; have E2 := Lib.hid e2; have E3 := Lib.hid e3; have E4 := Lib.hid e4; have E5 := Lib.hid e5; have E6 := Lib.hid e6; have E7 := Lib.hid e7; have E8 := Lib.hid e8
    go_region_with (first
      | (go_at_call 32; refine (sign_turned _).mono ?_; rintro r w3 ⟨rfl, ht3, hg3⟩
         have f0 := hg3.cell E0.out id; have f1 := hg3.cell E1.out id; have f2 := hg3.cell E2.out id; have f3 := hg3.cell E3.out id; have f4 := hg3.cell E4.out id; have f5 := hg3.cell E5.out id; have f6 := hg3.cell E6.out id; have f7 := hg3.cell E7.out id; have f8 := hg3.cell E8.out id
         have HT3 := Lib.hid ht3; have HG3 := Lib.hid hg3; clear ht3 hg3)
      | (go_at_call 31; refine (sign_normal w _ e _ HR.out _ _ ((HW.out.same (HG2.out.same (Ext.refl _ _).drew)).same HG3.out) HT3.out (right_own HRF.out) (HT.out.gro ((HW.out.same (HG2.out.same (Ext.refl _ _).drew)).same HG3.out))).mono ?_
         rintro r w4 ⟨ds, rfl, hrep4, hg4⟩
         have hb4 := ((HB2.out.ext HG2.out id).ext ((Ext.refl (fun _ => False) _).drew.same (HG3.out.same hg4)) id)
         have z0 := hb4.thaw 0; have z1 := hb4.thaw 1; have z2 := hb4.thaw 2; have z3 := hb4.thaw 3; have z4 := hb4.thaw 4; have z5 := hb4.thaw 5; have z6 := hb4.thaw 6; have z7 := hb4.thaw 7; have z8 := hb4.thaw 8
         have o0 := hb4.cell 0; have o1 := hb4.cell 1; have o2 := hb4.cell 2; have o3 := hb4.cell 3; have o4 := hb4.cell 4; have o5 := hb4.cell 5; have o6 := hb4.cell 6; have o7 := hb4.cell 7; have o8 := hb4.cell 8
         simp at o0 o1 o2 o3 o4 o5 o6 o7 o8
         have lt4 := hb4.lt
         obtain ⟨A4, cap4, rfl⟩ := hrep4.shape
         have HREP4 := Lib.hid hrep4; have HG4 := Lib.hid hg4; have HB4 := Lib.hid hb4; clear hrep4 hg4 hb4
         simp only [cells]))
    all_goals
      have hfin := (((((((((HB4.out).setCell 0 (.int .i64 (normF e).op)).setCell 1 (.int .i64 (normF e).kind)).setCell 2 (.int .i64 (normF e).num)).setCell 3 (.string (normF e).vs)).setCell 4 (.int .i64 (normF e).rel)).setCell 5 (.int .i64 (normF e).col)).setCell 6 (.int .i64 (normF e).n)).setCell 7 (.string (normF e).s)).setCell 8 (.slice A4 (normF e).l.length cap4)
      have hxf := (((((((((Ext.refl (· = w.heap.size + 1) w4).setCell ⟨w.heap.size + 1, 0, none⟩ (.int .i64 (normF e).op) (fun _ => rfl)).setCell ⟨w.heap.size + 1, 1, none⟩ (.int .i64 (normF e).kind) (fun _ => rfl)).setCell ⟨w.heap.size + 1, 2, none⟩ (.int .i64 (normF e).num) (fun _ => rfl)).setCell ⟨w.heap.size + 1, 3, none⟩ (.string (normF e).vs) (fun _ => rfl)).setCell ⟨w.heap.size + 1, 4, none⟩ (.int .i64 (normF e).rel) (fun _ => rfl)).setCell ⟨w.heap.size + 1, 5, none⟩ (.int .i64 (normF e).col) (fun _ => rfl)).setCell ⟨w.heap.size + 1, 6, none⟩ (.int .i64 (normF e).n) (fun _ => rfl)).setCell ⟨w.heap.size + 1, 7, none⟩ (.string (normF e).s) (fun _ => rfl)).setCell ⟨w.heap.size + 1, 8, none⟩ (.slice A4 (normF e).l.length cap4) (fun _ => rfl)
      have HFIN := Lib.hid hfin; have HXF := Lib.hid hxf; clear hfin hxf
      go_wp2_with fail
      refine bodyPost_ret (results_row_tmp (P := Tryd.prog) rfl _ _ (w.heap.size + 1) 39 (cells (normF e) A4 cap4).toArray (0, 0) _ rfl (by have := HFIN.out; simp [Blk] at this; simpa [cells] using this) Tryd.underlying39 rfl (size_expr rfl)) rfl ?_
      have hww := HW.out.same (HG2.out.same ((Ext.refl _ _).drew.same (HG3.out.same HG4.out)))
      have hs3 := (HW.out.same (HG2.out.same ((Ext.refl _ _).drew.same HG3.out))).size
      have hs4 := (HB2.out.ext (HG2.out.same ((Ext.refl _ _).drew.same HG3.out)) id).lt
      refine ⟨cells (normF e) A4 cap4, by rw [HRF.out]; rfl, ?_, hww.trans HXF.out (fun i hi h => by omega)⟩
      rw [HRF.out]
      exact HREP4.out.mono fun b hb hlt => ⟨⟨by have := hb.1; omega, Nat.lt_of_lt_of_le hb.2 HXF.out.size⟩, HXF.out.block b hlt (fun h => by have := hb.1; omega)⟩
  · have hr' : rightF e = false := by simpa using hr
    rw [hr'] at hR
    have HRR := Lib.hid hR; have HRF := Lib.hid hr'; clear hR hr hr'
    go_upto_region 2 with (go_at_call 14; refine HRR.out.mono ?_; rintro r w2 ⟨rfl, hg2⟩; have HG2 := Lib.hid hg2; clear hg2)
    have hb2 := HB2.out.ext HG2.out id
    have HB3 := Lib.hid hb2; clear hb2
    clear e0 e1 e2 e3 e4 e5 e6 e7 e8
    apply wp_region_lit
    refine wpList_is rfl (.agg (cells zeroEx none 0).toArray) w2 (by kernel_rfl) ?_
    refine wpList_store_row rfl 39 (.tmp 2) (.tmp 7) rfl (w.heap.size + 1) (cells zeroEx none 0).toArray rfl rfl 39 _ HB3.out (size_expr rfl) rfl (all_one (by simp [cells, Value.oneCell'])) ?_
    go_wp2_with fail
    refine bodyPost_ret (results_row_tmp (P := Tryd.prog) rfl _ _ (w.heap.size + 1) 39 (cells zeroEx none 0).toArray (0, 0) _ rfl (HB3.out.setRow _) Tryd.underlying39 rfl (size_expr rfl)) rfl ?_
    refine ⟨_, by rw [HRF.out]; rfl, ?_, (HW.out.same HG2.out).setRow _ _ (fun h => by omega)⟩
    rw [HRF.out]
    exact .mk zeroEx none 0 (fun _ => []) (Nat.le_refl _) (by unfold maxLen; omega) I64_zero I64_zero I64_zero (by decide) I64_zero I64_zero I64_zero (by decide) (fun h => absurd h (by decide)) (fun j h => absurd h (by simp [zeroEx, Ex.l]))
end Go.Proofs.YtgikebkgihcogaaDoor
