/- Walks: the function values inside sign.Conds. -/
import Derived.Test.YtgikebkgihcogaaDoorW13
namespace Go.Proofs.YtgikebkgihcogaaDoor
open Go.RowKit
set_option maxHeartbeats 1000000

/-- A function value that makes an expression out of another: boxes it, calls, hands the answer on out of a variable. -/
theorem sign_Conds2 (cs : List Value) (hcs : cs.length = 9) (h1 : ∀ v ∈ cs, v.oneCell' = true) (r gm : Nat) (w : World) (y : Ex) (hg : Blk w gm #[.map (some r)] 69)
    (hcall : ∀ W, Gro w W → W.heap.size = w.heap.size + 2 → Calls Tryd.prog 31 #[.agg cs.toArray, .map (some r)] W (ExPost W y)) :
    Calls Tryd.prog 39 (#[.agg cs.toArray] ++ #[.pointer (some ⟨gm, 0, none⟩)]) w (ExPost w y) := by
  obtain ⟨a, b, c, d, p, f, g, x, i, rfl⟩ := list9 cs hcs
  have c1 := hg.cell 0
  have l1 := hg.lt
  simp at c1
  have HC := Lib.hid hcall; clear hcall hg
  go_enter Tryd.func39, Tryd.ntmps39
  go_wp2_with fail
  have hg1 : Gro w (w.alloc (.cells #[a, b, c, d, p, f, g, x, i] 39)) := (Ext.refl _ _).alloc _
  refine (HC.out _ (hg1.alloc _) (by simp)).mono ?_
  rintro e w1 ⟨ds, rfl, hrep, hg⟩
  have hb := (Blk.newAt (w := w.alloc (.cells #[a, b, c, d, p, f, g, x, i] 39)) (n := w.heap.size + 1) (by simp) #[.int .i64 0, .int .i64 0, .int .i64 0, .string ⟨#[]⟩, .int .i64 0, .int .i64 0, .int .i64 0, .string ⟨#[]⟩, .slice none 0 0] 39).ext hg id
  have hg2 := (hg1.alloc _).same hg
  have hlen := hrep.length
  have hone := hrep.oneCell
  have HB := Lib.hid hb; have HREP := Lib.hid hrep; have HG := Lib.hid hg2; have HL := Lib.hid hlen; have HO := Lib.hid hone
  clear hb hrep hg2 hg hg1 hlen hone
  go_wp2_with (refine wpList_store_row rfl 39 (.tmp 3) (.tmp 6) rfl (w.heap.size + 1) ds.toArray rfl rfl 39 _ HB.out (size_expr HL.out) (by simp [HL.out]) (all_one HO.out) ?_)
  refine bodyPost_ret (results_cell_row (P := Tryd.prog) rfl _ _ (w.heap.size + 1) 39 ds.toArray (0, 0) _ rfl (HB.out.setRow _) Tryd.underlying39 rfl (size_expr HL.out)) rfl ?_
  refine ⟨ds, rfl, HREP.out.mono fun k hk hlt => ⟨⟨by have := hk.1; simp at this; omega, by simpa using hk.2⟩, heap_setRow_other _ _ _ _ (by have := hk.1; simp at this; omega)⟩, HG.out.setRow _ _ (fun h => by omega)⟩

theorem sign_Conds1 (ok : Nat → Prop) (e : Ex) (cs : List Value) (w : World) (h : Rep w ok e cs) :
    Calls Tryd.prog 37 #[.agg cs.toArray] w fun r w' => r = .returned (.bool (!rightF e)) ∧ Gro w w' := by
  obtain ⟨A, cap, rfl⟩ := h.shape
  have hR := expr_Right _ e _ (w.alloc (.cells (cells e A cap).toArray 39)) (h.old.gro ((Ext.refl _ _).alloc _))
  simp only [cells] at hR ⊢
  have HR := Lib.hid hR; clear hR h
  go_enter Tryd.func37, Tryd.ntmps37
  go_wp2_with fail
  refine HR.out.mono ?_
  rintro r w2 ⟨rfl, hg2⟩
  have HG2 := Lib.hid hg2; clear hg2
  go_wp2_with fail
  all_goals go_ret
  all_goals exact ⟨by simp_all, ((Ext.refl _ _).alloc _).same HG2.out⟩

theorem sign_Conds3 (ok : Nat → Prop) (e f : Ex) (cs ds : List Value) (w : World) (h : Rep w ok e cs) (k : Rep w ok f ds) (ht : Tab w) :
    Calls Tryd.prog 41 #[.agg cs.toArray, .agg ds.toArray] w fun r w' => r = .returned (.int .i64 (cmpE e f)) ∧ Gro w w' := by
  obtain ⟨A, cap, rfl⟩ := h.shape
  obtain ⟨A', cap', rfl⟩ := k.shape
  have mixed : Tryd.prog.follows .mixedOrders = true := by kernel_rfl
  have hW := ((Ext.refl (fun _ => False) w).alloc (.cells (cells e A cap).toArray 39)).alloc (.cells (cells f A' cap').toArray 39)
  have hb1 := (Blk.newAt (w := w) (n := w.heap.size) rfl (cells e A cap).toArray 39).alloc (.cells (cells f A' cap').toArray 39)
  have hb2 := Blk.newAt (w := w.alloc (.cells (cells e A cap).toArray 39)) (n := w.heap.size + 1) (by simp) (cells f A' cap').toArray 39
  have HR1 := Lib.hid h.old; have HR2 := Lib.hid k.old; have HT := Lib.hid ht; clear h k ht
  simp only [cells] at hW hb1 hb2 ⊢
  go_enter Tryd.func41, Tryd.ntmps41
  go_upto_region 1 with (fail)
  generalize (w.alloc _).alloc _ = w1 at hW hb1 hb2 ⊢
  have p0 : ∀ m os, (Sort.grow (w1.drewN m) os).cell? ⟨w.heap.size, 0, none⟩ = some (.int .i64 e.op) := fun m os => (hb1.grown m os).cell 0
  have p1 : ∀ m os, (Sort.grow (w1.drewN m) os).cell? ⟨w.heap.size, 1, none⟩ = some (.int .i64 e.kind) := fun m os => (hb1.grown m os).cell 1
  have p2 : ∀ m os, (Sort.grow (w1.drewN m) os).cell? ⟨w.heap.size, 2, none⟩ = some (.int .i64 e.num) := fun m os => (hb1.grown m os).cell 2
  have p3 : ∀ m os, (Sort.grow (w1.drewN m) os).cell? ⟨w.heap.size, 3, none⟩ = some (.string e.vs) := fun m os => (hb1.grown m os).cell 3
  have p4 : ∀ m os, (Sort.grow (w1.drewN m) os).cell? ⟨w.heap.size, 4, none⟩ = some (.int .i64 e.rel) := fun m os => (hb1.grown m os).cell 4
  have p5 : ∀ m os, (Sort.grow (w1.drewN m) os).cell? ⟨w.heap.size, 5, none⟩ = some (.int .i64 e.col) := fun m os => (hb1.grown m os).cell 5
  have p6 : ∀ m os, (Sort.grow (w1.drewN m) os).cell? ⟨w.heap.size, 6, none⟩ = some (.int .i64 e.n) := fun m os => (hb1.grown m os).cell 6
  have p7 : ∀ m os, (Sort.grow (w1.drewN m) os).cell? ⟨w.heap.size, 7, none⟩ = some (.string e.s) := fun m os => (hb1.grown m os).cell 7
  have p8 : ∀ m os, (Sort.grow (w1.drewN m) os).cell? ⟨w.heap.size, 8, none⟩ = some (.slice A e.l.length cap) := fun m os => (hb1.grown m os).cell 8
  have q0 : ∀ m os, (Sort.grow (w1.drewN m) os).cell? ⟨w.heap.size + 1, 0, none⟩ = some (.int .i64 f.op) := fun m os => (hb2.grown m os).cell 0
  have q1 : ∀ m os, (Sort.grow (w1.drewN m) os).cell? ⟨w.heap.size + 1, 1, none⟩ = some (.int .i64 f.kind) := fun m os => (hb2.grown m os).cell 1
  have q2 : ∀ m os, (Sort.grow (w1.drewN m) os).cell? ⟨w.heap.size + 1, 2, none⟩ = some (.int .i64 f.num) := fun m os => (hb2.grown m os).cell 2
  have q3 : ∀ m os, (Sort.grow (w1.drewN m) os).cell? ⟨w.heap.size + 1, 3, none⟩ = some (.string f.vs) := fun m os => (hb2.grown m os).cell 3
  have q4 : ∀ m os, (Sort.grow (w1.drewN m) os).cell? ⟨w.heap.size + 1, 4, none⟩ = some (.int .i64 f.rel) := fun m os => (hb2.grown m os).cell 4
  have q5 : ∀ m os, (Sort.grow (w1.drewN m) os).cell? ⟨w.heap.size + 1, 5, none⟩ = some (.int .i64 f.col) := fun m os => (hb2.grown m os).cell 5
  have q6 : ∀ m os, (Sort.grow (w1.drewN m) os).cell? ⟨w.heap.size + 1, 6, none⟩ = some (.int .i64 f.n) := fun m os => (hb2.grown m os).cell 6
  have q7 : ∀ m os, (Sort.grow (w1.drewN m) os).cell? ⟨w.heap.size + 1, 7, none⟩ = some (.string f.s) := fun m os => (hb2.grown m os).cell 7
  have q8 : ∀ m os, (Sort.grow (w1.drewN m) os).cell? ⟨w.heap.size + 1, 8, none⟩ = some (.slice A' f.l.length cap') := fun m os => (hb2.grown m os).cell 8
  have hT0 : ∀ m os, Calls Tryd.prog 25 #[.agg (cells e A cap).toArray] (Sort.grow (w1.drewN m) os) fun r w' => r = .returned (.string (textF e)) ∧ ∃ q os', w' = Sort.grow ((Sort.grow (w1.drewN m) os).drewN q) os' := fun m os =>
    (sign_text _ e _ _ (HR1.out.gro (hW.same (Ext.of_grow w1 m os))) (HT.out.gro (hW.same (Ext.of_grow w1 m os)))).mono fun _ _ h => ⟨h.1, h.2.grow⟩
  have hT1 : ∀ m os, Calls Tryd.prog 25 #[.agg (cells f A' cap').toArray] (Sort.grow (w1.drewN m) os) fun r w' => r = .returned (.string (textF f)) ∧ ∃ q os', w' = Sort.grow ((Sort.grow (w1.drewN m) os).drewN q) os' := fun m os =>
    (sign_text _ f _ _ (HR2.out.gro (hW.same (Ext.of_grow w1 m os))) (HT.out.gro (hW.same (Ext.of_grow w1 m os)))).mono fun _ _ h => ⟨h.1, h.2.grow⟩
  have hCm : ∀ m os, Calls Tryd.prog 42 #[.string (textF e), .string (textF f)] (Sort.grow (w1.drewN m) os) fun r w' => r = .returned (.int .i64 (cmpE e f)) ∧ ∃ q os', w' = Sort.grow ((Sort.grow (w1.drewN m) os).drewN q) os' := fun m os =>
    (compare _ _ _).mono fun _ w' h => ⟨h.1, by rw [← h.2]; exact (Ext.refl _ _).grow⟩
  simp only [cells] at hT0 hT1
  have HT0 := Lib.hid hT0; have HT1 := Lib.hid hT1; have HCM := Lib.hid hCm; have HW := Lib.hid hW
  clear hT0 hT1 hCm hW hb1 hb2
  refine wp_region_quiet_grown mixed (by kernel_rfl) ?_
  repeat (go_big_quiet_step (first | (go_at_call 25; with_reducible refine Calls.grown_of (HT0.out _ _)) | (go_at_call 25; with_reducible refine Calls.grown_of (HT1.out _ _)) | (go_at_call 42; with_reducible refine Calls.grown_of (HCM.out _ _))))
  refine wpQuiet_nil ?_
  intro _ hw'
  obtain ⟨⟨nq, osq⟩, hw''⟩ := hw'
  subst hw''
  go_wp2_with fail
  go_ret
  exact ⟨rfl, HW.out.same (Ext.of_grow w1 nq osq)⟩
end Go.Proofs.YtgikebkgihcogaaDoor
