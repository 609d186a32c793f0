/- SignWays: a condition written the other way round (the law's own turned). -/
import Derived.Test.YtgikebkgihcogaaDoorE2
import Derived.BigRegion
namespace Go.Proofs.YtgikebkgihcogaaDoor
open Go.RowKit Go.Sort
set_option maxHeartbeats 1000000

/-- What turned comes to: the expression turned, its operands where they were, or in a new list. -/
def FlipPost (ok : Nat → Prop) (w : World) (e : Ex) (r : Ending) (w' : World) : Prop :=
  ∃ cs, r = .returned (.agg cs.toArray) ∧ Rep w' (fun b => ok b ∨ (w.heap.size ≤ b ∧ b < w'.heap.size)) (flipF e) cs ∧ Gro w w'

theorem turned_end (w w3 : World) (ok : Nat → Prop) (e x : Ex) (A : Option Addr) (cap : Nat) (css : Nat → List Value) (hx : flipF e = x) (hf : x.Fits) (hcap : x.l.length ≤ cap) (hmax : cap ≤ maxLen) (hg : Gro w w3)
    (hL : LRep w3 (fun b => (ok b ∧ b < w.heap.size) ∨ (w.heap.size + 3 ≤ b ∧ b < w3.heap.size)) A x.l css) :
    FlipPost ok w e (.returned (.agg (cells x A cap).toArray)) (w3.setRow (w.heap.size + 1) (cells x A cap).toArray) := by
  have hs := hg.size
  have hL' : LRep (w3.setRow (w.heap.size + 1) (cells x A cap).toArray) (fun b => ok b ∨ (w.heap.size ≤ b ∧ b < (w3.setRow (w.heap.size + 1) (cells x A cap).toArray).heap.size)) A x.l css :=
    hL.mono fun b hb _ => ⟨by
      rcases hb with hb | hb
      · exact .inl hb.1
      · exact .inr ⟨by omega, by simpa [World.setRow] using hb.2⟩, heap_setRow_other _ _ _ _ (by rcases hb with hb | hb <;> omega)⟩
  refine ⟨_, rfl, ?_, ?_⟩
  · rw [hx]; exact Rep.of x hf hcap hmax hL'
  · exact hg.setRow _ _ (fun h => by omega)
theorem LRep.old {w : World} {ok : Nat → Prop} {A : Option Addr} {xs : List Ex} {css : Nat → List Value} (h : LRep w ok A xs css) : LRep w (fun b => ok b ∧ b < w.heap.size) A xs css := h.mono fun _ hb hl => ⟨⟨hb, hl⟩, rfl⟩
theorem flip_no {e : Ex} (h : e.l.length ≠ 2 ∨ flips e.op = false) : flipF e = e := by
  rw [flipF, if_neg]
  rintro ⟨h1, h2⟩
  rcases h with h | h
  · exact h h1
  · rw [h] at h2; cases h2
theorem flipOp_I64 {op : Int} (h : I64 op) : I64 (flipOp op) := by
  unfold flipOp; unfold I64 at *
  repeat' split
  all_goals omega

set_option maxRecDepth 100000 in
theorem law_turned (w : World) (ok : Nat → Prop) (e : Ex) (cs : List Value) (h : Rep w ok e cs) :
    Calls Tryd.prog 17 #[.agg cs.toArray] w (FlipPost ok w e) := by
  have hfit : e.Fits := h.fits e (by rw [preF_eq]; exact List.mem_cons_self)
  obtain ⟨A, cap, css, rfl, hcap, hmax, hL⟩ := h.kids
  have HR := Lib.hid h; have HL := Lib.hid hL; have HFIT := Lib.hid hfit
  clear h hL hfit
  simp only [cells]
  go_enter Tryd.func17, Tryd.ntmps17
  go_upto_region 1 with (fail)
  have hE := (Blk.newAt (w := w) (n := w.heap.size) rfl (cells e A cap).toArray 39).alloc (.cells #[.int .i64 0, .int .i64 0, .int .i64 0, .string ⟨#[]⟩, .int .i64 0, .int .i64 0, .int .i64 0, .string ⟨#[]⟩, .slice none 0 0] 39)
  have hRr := Blk.newAt (w := w.alloc (.cells (cells e A cap).toArray 39)) (n := w.heap.size + 1) (by simp) #[.int .i64 0, .int .i64 0, .int .i64 0, .string ⟨#[]⟩, .int .i64 0, .int .i64 0, .int .i64 0, .string ⟨#[]⟩, .slice none 0 0] 39
  have hG := ((Ext.refl (fun _ => False) w).alloc (.cells (cells e A cap).toArray 39)).alloc (.cells #[.int .i64 0, .int .i64 0, .int .i64 0, .string ⟨#[]⟩, .int .i64 0, .int .i64 0, .int .i64 0, .string ⟨#[]⟩, .slice none 0 0] 39)
  have hsz : ((w.alloc (.cells (cells e A cap).toArray 39)).alloc (.cells #[.int .i64 0, .int .i64 0, .int .i64 0, .string ⟨#[]⟩, .int .i64 0, .int .i64 0, .int .i64 0, .string ⟨#[]⟩, .slice none 0 0] 39)).heap.size = w.heap.size + 2 := by simp
  simp only [cells] at hE hRr hG hsz
  generalize (w.alloc _).alloc _ = w1 at hE hRr hG hsz ⊢
  have e0 := hE.cell 0; have e1 := hE.cell 1; have e2 := hE.cell 2; have e3 := hE.cell 3; have e4 := hE.cell 4; have e5 := hE.cell 5; have e6 := hE.cell 6; have e7 := hE.cell 7; have e8 := hE.cell 8
  simp at e0 e1 e2 e3 e4 e5 e6 e7 e8
  have lt1 : w.heap.size < w1.heap.size := by omega
  have HE := Lib.hid hE; have HRR := Lib.hid hRr; have HG := Lib.hid hG
  clear hE hRr hG
  by_cases hl : e.l.length = 2
  · have hl2 : ((e.l.length : Int) != 2) = false := by simp [hl]
    have hlz : (0 : Int) < (e.l.length : Int) := by omega
    have hlo : (1 : Int) < (e.l.length : Int) := by omega
    have HLEN := Lib.hid hl; clear hl
    obtain ⟨b, off, rfl, hokb, hcells⟩ := HL.out.hA (by have := HLEN.out; omega)
    have h0 : 0 < e.l.length := by have := HLEN.out; omega
    have h1' : 1 < e.l.length := by have := HLEN.out; omega
    obtain ⟨B0, k0, hs0⟩ := (HL.out.hl 0 h0).shape
    obtain ⟨B1, k1, hs1⟩ := (HL.out.hl 1 h1').shape
    have hR0 := HL.out.hl 0 h0
    have hR1 := HL.out.hl 1 h1'
    have hbl : b < w.heap.size := World.block_lt_of_cell? w ⟨b, off + 0 * 9 + 0, none⟩ (hcells 0 h0 0 _ (by rw [hs0]; rfl))
    have hc0 : ∀ i v, (cells e.l[0] B0 k0)[i]? = some v → w1.cell? ⟨b, off + i, none⟩ = some v := fun i v hv => (HG.out.rules.1 b _ hbl).trans (by have := hcells 0 h0 i v (by rw [hs0]; exact hv); simpa using this)
    have hc1 : ∀ i v, (cells e.l[1] B1 k1)[i]? = some v → w1.cell? ⟨b, off + (9 + i), none⟩ = some v := fun i v hv => (HG.out.rules.1 b _ hbl).trans (by have := hcells 1 h1' i v (by rw [hs1]; exact hv); rw [← Nat.add_assoc]; simpa using this)
    rw [hs0] at hR0
    rw [hs1] at hR1
    have HEL : Hid (e.l = [e.l[0], e.l[1]]) := Lib.hid (by
      apply List.ext_getElem (by simp [HLEN.out])
      intro i i1 i2
      have hi : i = 0 ∨ i = 1 := by simp at i2; omega
      rcases hi with rfl | rfl <;> rfl)
    generalize e.l[0] = x0 at hc0 hR0 HEL
    generalize e.l[1] = x1 at hc1 hR1 HEL
    have HC0 := Lib.hid hc0; have HC1 := Lib.hid hc1
    have HR0 := Lib.hid hR0; have HR1 := Lib.hid hR1
    clear hc0 hc1 hs0 hs1 hcells hR0 hR1 hokb h0 h1'
    go_upto_region 4 with (fail)
    clear e0 e1 e2 e3 e4 e5 e6 e7 e8
    have hX := Blk.new w1 (cells e (some ⟨b, off, none⟩) cap).toArray 39
    have hg2 := (Ext.refl (fun _ => False) w1).alloc (.cells (cells e (some ⟨b, off, none⟩) cap).toArray 39)
    rw [hsz] at hX
    simp only [cells] at hX hg2
    generalize w1.alloc _ = w2 at hX hg2 ⊢
    have hE2 := HE.out.ext hg2 id
    have p0 := hg2.cell (HC0.out 0 _ rfl) id; have p1 := hg2.cell (HC0.out 1 _ rfl) id; have p2 := hg2.cell (HC0.out 2 _ rfl) id; have p3 := hg2.cell (HC0.out 3 _ rfl) id; have p4 := hg2.cell (HC0.out 4 _ rfl) id; have p5 := hg2.cell (HC0.out 5 _ rfl) id; have p6 := hg2.cell (HC0.out 6 _ rfl) id; have p7 := hg2.cell (HC0.out 7 _ rfl) id; have p8 := hg2.cell (HC0.out 8 _ rfl) id
    have q0 := hg2.cell (HC1.out 0 _ rfl) id; have q1 := hg2.cell (HC1.out 1 _ rfl) id; have q2 := hg2.cell (HC1.out 2 _ rfl) id; have q3 := hg2.cell (HC1.out 3 _ rfl) id; have q4 := hg2.cell (HC1.out 4 _ rfl) id; have q5 := hg2.cell (HC1.out 5 _ rfl) id; have q6 := hg2.cell (HC1.out 6 _ rfl) id; have q7 := hg2.cell (HC1.out 7 _ rfl) id; have q8 := hg2.cell (HC1.out 8 _ rfl) id
    simp only [Nat.add_zero, Nat.reduceAdd] at p0 p1 p2 p3 p4 p5 p6 p7 p8 q0 q1 q2 q3 q4 q5 q6 q7 q8
    have e0 := hE2.cell 0; have e8 := hE2.cell 8
    have x8 := hX.cell 8; have z8 := hX.thaw 8
    simp at e0 e8 x8
    have lx := hX.lt
    have HX := Lib.hid hX; have HG2 := Lib.hid hg2; have HE2 := Lib.hid hE2
    clear hX hg2 hE2
    go_region
    go_upto_region 5 with (fail)
    clear p0 p1 p2 p3 p4 p5 p6 p7 p8 q0 q1 q2 q3 q4 q5 q6 q7 q8 e0 e8 x8 z8
    have hN3 := (Blk.newAt (w := w2.setCell ⟨w.heap.size + 2, 8, none⟩ (.slice (some ⟨w2.heap.size, 0, none⟩) 2 2)) (n := w2.heap.size) (by simp [World.setCell]) (cells x1 B1 k1 ++ cells x0 B0 k0).toArray 39)
    have hX3 := (HX.out.setCell 8 (.slice (some ⟨w2.heap.size, 0, none⟩) 2 2)).alloc (.cells (cells x1 B1 k1 ++ cells x0 B0 k0).toArray 39)
    have hg23 := ((Ext.refl (· = w.heap.size + 2) w2).setCell ⟨w.heap.size + 2, 8, none⟩ (.slice (some ⟨w2.heap.size, 0, none⟩) 2 2) (fun _ => rfl)).alloc (.cells (cells x1 B1 k1 ++ cells x0 B0 k0).toArray 39) |>.drew
    have hN3' := hN3.ext ((Ext.refl (fun _ => False) _).drew) id
    have hX3' := hX3.ext ((Ext.refl (fun _ => False) _).drew) id
    have hs3 : (((w2.setCell ⟨w.heap.size + 2, 8, none⟩ (.slice (some ⟨w2.heap.size, 0, none⟩) 2 2)).alloc (.cells (cells x1 B1 k1 ++ cells x0 B0 k0).toArray 39)).drew).heap.size = w2.heap.size + 1 := by simp [World.setCell]
    clear hN3 hX3
    simp only [cells, List.cons_append, List.nil_append] at hN3' hX3' hg23 hs3
    generalize ((w2.setCell _ _).alloc _).drew = w3 at hN3' hX3' hg23 hs3 ⊢
    have hE3 := HE2.out.ext hg23 (by omega)
    have hR3 := (HRR.out.ext HG2.out id).ext hg23 (by omega)
    have hg13 : Gro w w3 := ((HG.out.same HG2.out).mono (S' := (· = w.heap.size + 2)) fun _ _ h => h.elim).same hg23 |>.mono (S' := fun _ => False) fun i hi e => by omega
    have hN3'' : Blk w3 w2.heap.size (cells x1 B1 k1 ++ cells x0 B0 k0).toArray 39 := by simpa [cells] using hN3'
    have hX3'' : Blk w3 (w.heap.size + 2) (cells (e.withL e.op [x1, x0]) (some ⟨w2.heap.size, 0, none⟩) 2).toArray 39 := by simpa [cells, Ex.withL, Ex.op, Ex.kind, Ex.num, Ex.vs, Ex.rel, Ex.col, Ex.n, Ex.s, Ex.l] using hX3'
    have e0 := hE3.cell 0
    simp at e0
    have HE3 := Lib.hid hE3; have HR3 := Lib.hid hR3; have HG13 := Lib.hid hg13; have HN3 := Lib.hid hN3''; have HX3 := Lib.hid hX3''
    have hL3 : LRep w3 (fun b => (ok b ∧ b < w.heap.size) ∨ (w.heap.size + 3 ≤ b ∧ b < w3.heap.size)) (some ⟨w2.heap.size, 0, none⟩) [x1, x0] _ :=
      two_rep HN3.out ((HR1.out.old.gro hg13).mono fun b hb _ => ⟨.inl hb, rfl⟩) ((HR0.out.old.gro hg13).mono fun b hb _ => ⟨.inl hb, rfl⟩) (.inr (by omega))
    have HL3 := Lib.hid hL3
    clear hN3' hX3' hg23 hE3 hR3 hg13 hN3'' hX3'' hL3
    go_upto_region 6 with (fail)
    by_cases hf : flips e.op = true
    · have HFL : Hid (∀ op, op = flipOp e.op → flipF e = e.withL op [x1, x0]) := Lib.hid (by
        intro op ho
        rw [flipF, if_pos ⟨HLEN.out, hf⟩, ho, HEL.out]; rfl)
      have HFI : Hid (∀ op, op = flipOp e.op → (e.withL op [x1, x0]).Fits) := Lib.hid (fun op ho => by rw [ho]; exact HFIT.out.withL _ (flipOp_I64 HFIT.out.op) _)
      have x0c : w3.cell? ⟨w.heap.size + 2, 0, none⟩ = some (.int .i64 e.op) := HX3.out.cell 0
      have z8 := HX3.out.thaw 0
      have lz := HX3.out.lt
      rcases flip_cases hf with ho | ho | ho | ho | ho | ho
      · have t9 : (e.op == 9) = true := by rw [ho]; rfl
        have HO : Hid (e.op = flipOp e.op) := Lib.hid (by rw [ho]; rfl)
        clear ho hf
        go_wp2_with (first
          | (refine wpList_load_row rfl 39 (.tmp 3) rfl (w.heap.size + 2) rfl 39 _ (0, 0) _ HX3.out Tryd.underlying39 rfl (size_expr rfl) ?_)
          | (refine wpList_store_row rfl 39 (.tmp 2) (.tmp 25) rfl (w.heap.size + 1) (cells (e.withL e.op [x1, x0]) (some ⟨w2.heap.size, 0, none⟩) 2).toArray rfl rfl 39 _ HR3.out (size_expr rfl) rfl (all_one (by simp [cells, Value.oneCell'])) ?_))
        refine bodyPost_ret (results_cell_row (P := Tryd.prog) rfl _ _ (w.heap.size + 1) 39 (cells (e.withL e.op [x1, x0]) (some ⟨w2.heap.size, 0, none⟩) 2).toArray (0, 0) _ rfl (HR3.out.setRow _) Tryd.underlying39 rfl (size_expr rfl)) rfl ?_
        exact turned_end w w3 ok e _ _ 2 _ (HFL.out _ HO.out) (HFI.out _ HO.out) (Nat.le_refl 2) (by unfold maxLen; omega) HG13.out HL3.out
      · have t9 : (e.op == 9) = false := by rw [ho]; rfl
        have t10 : (e.op == 10) = true := by rw [ho]; rfl
        have HO : Hid (e.op = flipOp e.op) := Lib.hid (by rw [ho]; rfl)
        clear ho hf
        go_wp2_with (first
          | (refine wpList_load_row rfl 39 (.tmp 3) rfl (w.heap.size + 2) rfl 39 _ (0, 0) _ HX3.out Tryd.underlying39 rfl (size_expr rfl) ?_)
          | (refine wpList_store_row rfl 39 (.tmp 2) (.tmp 25) rfl (w.heap.size + 1) (cells (e.withL e.op [x1, x0]) (some ⟨w2.heap.size, 0, none⟩) 2).toArray rfl rfl 39 _ HR3.out (size_expr rfl) rfl (all_one (by simp [cells, Value.oneCell'])) ?_))
        refine bodyPost_ret (results_cell_row (P := Tryd.prog) rfl _ _ (w.heap.size + 1) 39 (cells (e.withL e.op [x1, x0]) (some ⟨w2.heap.size, 0, none⟩) 2).toArray (0, 0) _ rfl (HR3.out.setRow _) Tryd.underlying39 rfl (size_expr rfl)) rfl ?_
        exact turned_end w w3 ok e _ _ 2 _ (HFL.out _ HO.out) (HFI.out _ HO.out) (Nat.le_refl 2) (by unfold maxLen; omega) HG13.out HL3.out
      · have t9 : (e.op == 9) = false := by rw [ho]; rfl
        have t10 : (e.op == 10) = false := by rw [ho]; rfl
        have t11 : (e.op == 11) = true := by rw [ho]; rfl
        have HO : Hid (13 = flipOp e.op) := Lib.hid (by rw [ho]; rfl)
        have hX4 : Blk (w3.setCell ⟨w.heap.size + 2, 0, none⟩ (.int .i64 13)) (w.heap.size + 2) (cells (e.withL 13 [x1, x0]) (some ⟨w2.heap.size, 0, none⟩) 2).toArray 39 := by
          have := HX3.out.setCell 0 (.int .i64 13)
          simpa [cells, Ex.withL, Ex.op, Ex.kind, Ex.num, Ex.vs, Ex.rel, Ex.col, Ex.n, Ex.s, Ex.l] using this
        have hx4 := (Ext.refl (· = w.heap.size + 2) w3).setCell ⟨w.heap.size + 2, 0, none⟩ (.int .i64 13) (fun _ => rfl)
        have HX4 := Lib.hid hX4; have HXX := Lib.hid hx4
        clear ho hf hX4 hx4
        go_upto_region 11 with (fail)
        have hX4 := HX4.out; have hx4 := HXX.out
        generalize w3.setCell ⟨w.heap.size + 2, 0, none⟩ (.int .i64 13) = w4 at hX4 hx4 ⊢
        have hR4 := HR3.out.ext hx4 (by omega)
        have hG4 : Gro w w4 := (HG13.out.mono (S' := (· = w.heap.size + 2)) fun _ _ h => h.elim).same hx4 |>.mono (S' := fun _ => False) fun i hi e => by omega
        have hL4 := HL3.out.mono (w' := w4) (ok' := fun b => (ok b ∧ b < w.heap.size) ∨ (w.heap.size + 3 ≤ b ∧ b < w4.heap.size)) fun b hb hlt => ⟨hb.imp id (fun h => ⟨h.1, Nat.lt_of_lt_of_le h.2 hx4.size⟩), hx4.block b hlt (fun e => by rcases hb with hb | hb <;> omega)⟩
        have HX4' := Lib.hid hX4; have HR4 := Lib.hid hR4; have HG4 := Lib.hid hG4; have HL4 := Lib.hid hL4
        clear hX4 hx4 hR4 hG4 hL4 e0 x0c z8 lz
        go_wp2_with (first
          | (refine wpList_load_row rfl 39 (.tmp 3) rfl (w.heap.size + 2) rfl 39 _ (0, 0) _ HX4'.out Tryd.underlying39 rfl (size_expr rfl) ?_)
          | (refine wpList_store_row rfl 39 (.tmp 2) (.tmp 29) rfl (w.heap.size + 1) (cells (e.withL 13 [x1, x0]) (some ⟨w2.heap.size, 0, none⟩) 2).toArray rfl rfl 39 _ HR4.out (size_expr rfl) rfl (all_one (by simp [cells, Value.oneCell'])) ?_))
        refine bodyPost_ret (results_cell_row (P := Tryd.prog) rfl _ _ (w.heap.size + 1) 39 (cells (e.withL 13 [x1, x0]) (some ⟨w2.heap.size, 0, none⟩) 2).toArray (0, 0) _ rfl (HR4.out.setRow _) Tryd.underlying39 rfl (size_expr rfl)) rfl ?_
        exact turned_end w w4 ok e _ _ 2 _ (HFL.out _ HO.out) (HFI.out _ HO.out) (Nat.le_refl 2) (by unfold maxLen; omega) HG4.out HL4.out
      · have t9 : (e.op == 9) = false := by rw [ho]; rfl
        have t10 : (e.op == 10) = false := by rw [ho]; rfl
        have t11 : (e.op == 11) = false := by rw [ho]; rfl
        have t12 : (e.op == 12) = true := by rw [ho]; rfl
        have HO : Hid (14 = flipOp e.op) := Lib.hid (by rw [ho]; rfl)
        have hX4 : Blk (w3.setCell ⟨w.heap.size + 2, 0, none⟩ (.int .i64 14)) (w.heap.size + 2) (cells (e.withL 14 [x1, x0]) (some ⟨w2.heap.size, 0, none⟩) 2).toArray 39 := by
          have := HX3.out.setCell 0 (.int .i64 14)
          simpa [cells, Ex.withL, Ex.op, Ex.kind, Ex.num, Ex.vs, Ex.rel, Ex.col, Ex.n, Ex.s, Ex.l] using this
        have hx4 := (Ext.refl (· = w.heap.size + 2) w3).setCell ⟨w.heap.size + 2, 0, none⟩ (.int .i64 14) (fun _ => rfl)
        have HX4 := Lib.hid hX4; have HXX := Lib.hid hx4
        clear ho hf hX4 hx4
        go_upto_region 14 with (fail)
        have hX4 := HX4.out; have hx4 := HXX.out
        generalize w3.setCell ⟨w.heap.size + 2, 0, none⟩ (.int .i64 14) = w4 at hX4 hx4 ⊢
        have hR4 := HR3.out.ext hx4 (by omega)
        have hG4 : Gro w w4 := (HG13.out.mono (S' := (· = w.heap.size + 2)) fun _ _ h => h.elim).same hx4 |>.mono (S' := fun _ => False) fun i hi e => by omega
        have hL4 := HL3.out.mono (w' := w4) (ok' := fun b => (ok b ∧ b < w.heap.size) ∨ (w.heap.size + 3 ≤ b ∧ b < w4.heap.size)) fun b hb hlt => ⟨hb.imp id (fun h => ⟨h.1, Nat.lt_of_lt_of_le h.2 hx4.size⟩), hx4.block b hlt (fun e => by rcases hb with hb | hb <;> omega)⟩
        have HX4' := Lib.hid hX4; have HR4 := Lib.hid hR4; have HG4 := Lib.hid hG4; have HL4 := Lib.hid hL4
        clear hX4 hx4 hR4 hG4 hL4 e0 x0c z8 lz
        go_wp2_with (first
          | (refine wpList_load_row rfl 39 (.tmp 3) rfl (w.heap.size + 2) rfl 39 _ (0, 0) _ HX4'.out Tryd.underlying39 rfl (size_expr rfl) ?_)
          | (refine wpList_store_row rfl 39 (.tmp 2) (.tmp 33) rfl (w.heap.size + 1) (cells (e.withL 14 [x1, x0]) (some ⟨w2.heap.size, 0, none⟩) 2).toArray rfl rfl 39 _ HR4.out (size_expr rfl) rfl (all_one (by simp [cells, Value.oneCell'])) ?_))
        refine bodyPost_ret (results_cell_row (P := Tryd.prog) rfl _ _ (w.heap.size + 1) 39 (cells (e.withL 14 [x1, x0]) (some ⟨w2.heap.size, 0, none⟩) 2).toArray (0, 0) _ rfl (HR4.out.setRow _) Tryd.underlying39 rfl (size_expr rfl)) rfl ?_
        exact turned_end w w4 ok e _ _ 2 _ (HFL.out _ HO.out) (HFI.out _ HO.out) (Nat.le_refl 2) (by unfold maxLen; omega) HG4.out HL4.out
      · have t9 : (e.op == 9) = false := by rw [ho]; rfl
        have t10 : (e.op == 10) = false := by rw [ho]; rfl
        have t11 : (e.op == 11) = false := by rw [ho]; rfl
        have t12 : (e.op == 12) = false := by rw [ho]; rfl
        have t13 : (e.op == 13) = true := by rw [ho]; rfl
        have HO : Hid (11 = flipOp e.op) := Lib.hid (by rw [ho]; rfl)
        have hX4 : Blk (w3.setCell ⟨w.heap.size + 2, 0, none⟩ (.int .i64 11)) (w.heap.size + 2) (cells (e.withL 11 [x1, x0]) (some ⟨w2.heap.size, 0, none⟩) 2).toArray 39 := by
          have := HX3.out.setCell 0 (.int .i64 11)
          simpa [cells, Ex.withL, Ex.op, Ex.kind, Ex.num, Ex.vs, Ex.rel, Ex.col, Ex.n, Ex.s, Ex.l] using this
        have hx4 := (Ext.refl (· = w.heap.size + 2) w3).setCell ⟨w.heap.size + 2, 0, none⟩ (.int .i64 11) (fun _ => rfl)
        have HX4 := Lib.hid hX4; have HXX := Lib.hid hx4
        clear ho hf hX4 hx4
        go_upto_region 17 with (fail)
        have hX4 := HX4.out; have hx4 := HXX.out
        generalize w3.setCell ⟨w.heap.size + 2, 0, none⟩ (.int .i64 11) = w4 at hX4 hx4 ⊢
        have hR4 := HR3.out.ext hx4 (by omega)
        have hG4 : Gro w w4 := (HG13.out.mono (S' := (· = w.heap.size + 2)) fun _ _ h => h.elim).same hx4 |>.mono (S' := fun _ => False) fun i hi e => by omega
        have hL4 := HL3.out.mono (w' := w4) (ok' := fun b => (ok b ∧ b < w.heap.size) ∨ (w.heap.size + 3 ≤ b ∧ b < w4.heap.size)) fun b hb hlt => ⟨hb.imp id (fun h => ⟨h.1, Nat.lt_of_lt_of_le h.2 hx4.size⟩), hx4.block b hlt (fun e => by rcases hb with hb | hb <;> omega)⟩
        have HX4' := Lib.hid hX4; have HR4 := Lib.hid hR4; have HG4 := Lib.hid hG4; have HL4 := Lib.hid hL4
        clear hX4 hx4 hR4 hG4 hL4 e0 x0c z8 lz
        go_wp2_with (first
          | (refine wpList_load_row rfl 39 (.tmp 3) rfl (w.heap.size + 2) rfl 39 _ (0, 0) _ HX4'.out Tryd.underlying39 rfl (size_expr rfl) ?_)
          | (refine wpList_store_row rfl 39 (.tmp 2) (.tmp 37) rfl (w.heap.size + 1) (cells (e.withL 11 [x1, x0]) (some ⟨w2.heap.size, 0, none⟩) 2).toArray rfl rfl 39 _ HR4.out (size_expr rfl) rfl (all_one (by simp [cells, Value.oneCell'])) ?_))
        refine bodyPost_ret (results_cell_row (P := Tryd.prog) rfl _ _ (w.heap.size + 1) 39 (cells (e.withL 11 [x1, x0]) (some ⟨w2.heap.size, 0, none⟩) 2).toArray (0, 0) _ rfl (HR4.out.setRow _) Tryd.underlying39 rfl (size_expr rfl)) rfl ?_
        exact turned_end w w4 ok e _ _ 2 _ (HFL.out _ HO.out) (HFI.out _ HO.out) (Nat.le_refl 2) (by unfold maxLen; omega) HG4.out HL4.out
      · have t9 : (e.op == 9) = false := by rw [ho]; rfl
        have t10 : (e.op == 10) = false := by rw [ho]; rfl
        have t11 : (e.op == 11) = false := by rw [ho]; rfl
        have t12 : (e.op == 12) = false := by rw [ho]; rfl
        have t13 : (e.op == 13) = false := by rw [ho]; rfl
        have t14 : (e.op == 14) = true := by rw [ho]; rfl
        have HO : Hid (12 = flipOp e.op) := Lib.hid (by rw [ho]; rfl)
        have hX4 : Blk (w3.setCell ⟨w.heap.size + 2, 0, none⟩ (.int .i64 12)) (w.heap.size + 2) (cells (e.withL 12 [x1, x0]) (some ⟨w2.heap.size, 0, none⟩) 2).toArray 39 := by
          have := HX3.out.setCell 0 (.int .i64 12)
          simpa [cells, Ex.withL, Ex.op, Ex.kind, Ex.num, Ex.vs, Ex.rel, Ex.col, Ex.n, Ex.s, Ex.l] using this
        have hx4 := (Ext.refl (· = w.heap.size + 2) w3).setCell ⟨w.heap.size + 2, 0, none⟩ (.int .i64 12) (fun _ => rfl)
        have HX4 := Lib.hid hX4; have HXX := Lib.hid hx4
        clear ho hf hX4 hx4
        go_upto_region 20 with (fail)
        have hX4 := HX4.out; have hx4 := HXX.out
        generalize w3.setCell ⟨w.heap.size + 2, 0, none⟩ (.int .i64 12) = w4 at hX4 hx4 ⊢
        have hR4 := HR3.out.ext hx4 (by omega)
        have hG4 : Gro w w4 := (HG13.out.mono (S' := (· = w.heap.size + 2)) fun _ _ h => h.elim).same hx4 |>.mono (S' := fun _ => False) fun i hi e => by omega
        have hL4 := HL3.out.mono (w' := w4) (ok' := fun b => (ok b ∧ b < w.heap.size) ∨ (w.heap.size + 3 ≤ b ∧ b < w4.heap.size)) fun b hb hlt => ⟨hb.imp id (fun h => ⟨h.1, Nat.lt_of_lt_of_le h.2 hx4.size⟩), hx4.block b hlt (fun e => by rcases hb with hb | hb <;> omega)⟩
        have HX4' := Lib.hid hX4; have HR4 := Lib.hid hR4; have HG4 := Lib.hid hG4; have HL4 := Lib.hid hL4
        clear hX4 hx4 hR4 hG4 hL4 e0 x0c z8 lz
        go_wp2_with (first
          | (refine wpList_load_row rfl 39 (.tmp 3) rfl (w.heap.size + 2) rfl 39 _ (0, 0) _ HX4'.out Tryd.underlying39 rfl (size_expr rfl) ?_)
          | (refine wpList_store_row rfl 39 (.tmp 2) (.tmp 41) rfl (w.heap.size + 1) (cells (e.withL 12 [x1, x0]) (some ⟨w2.heap.size, 0, none⟩) 2).toArray rfl rfl 39 _ HR4.out (size_expr rfl) rfl (all_one (by simp [cells, Value.oneCell'])) ?_))
        refine bodyPost_ret (results_cell_row (P := Tryd.prog) rfl _ _ (w.heap.size + 1) 39 (cells (e.withL 12 [x1, x0]) (some ⟨w2.heap.size, 0, none⟩) 2).toArray (0, 0) _ rfl (HR4.out.setRow _) Tryd.underlying39 rfl (size_expr rfl)) rfl ?_
        exact turned_end w w4 ok e _ _ 2 _ (HFL.out _ HO.out) (HFI.out _ HO.out) (Nat.le_refl 2) (by unfold maxLen; omega) HG4.out HL4.out
    · have hf' : flips e.op = false := by simpa using hf
      have hne : ¬ (9 ≤ e.op ∧ e.op ≤ 14) := by
        intro h; apply hf; simp [flips, h]
      have t9 : (e.op == 9) = false := beq_eq_false_iff_ne.2 (by omega)
      have t10 : (e.op == 10) = false := beq_eq_false_iff_ne.2 (by omega)
      have t11 : (e.op == 11) = false := beq_eq_false_iff_ne.2 (by omega)
      have t12 : (e.op == 12) = false := beq_eq_false_iff_ne.2 (by omega)
      have t13 : (e.op == 13) = false := beq_eq_false_iff_ne.2 (by omega)
      have t14 : (e.op == 14) = false := beq_eq_false_iff_ne.2 (by omega)
      have HF := Lib.hid hf'
      clear hf hf' hne
      go_wp2_with (first
        | (refine wpList_load_row rfl 39 (.tmp 1) rfl w.heap.size rfl 39 _ (0, 0) _ HE3.out Tryd.underlying39 rfl (size_expr rfl) ?_)
        | (refine wpList_store_row rfl 39 (.tmp 2) (.tmp 42) rfl (w.heap.size + 1) (cells e (some ⟨b, off, none⟩) cap).toArray rfl rfl 39 _ HR3.out (size_expr rfl) rfl (all_one (by simp [cells, Value.oneCell'])) ?_))
      refine bodyPost_ret (results_cell_row (P := Tryd.prog) rfl _ _ (w.heap.size + 1) 39 (cells e (some ⟨b, off, none⟩) cap).toArray (0, 0) _ rfl (HR3.out.setRow _) Tryd.underlying39 rfl (size_expr rfl)) rfl ?_
      exact turned_end w w3 ok e e _ cap css (flip_no (.inr HF.out)) HFIT.out hcap hmax HG13.out ((HL.out.old.gro HG13.out).mono fun b hb _ => ⟨.inl hb, rfl⟩)
  · have hl2 : ((e.l.length : Int) != 2) = true := by simp only [bne_iff_ne]; omega
    have HLEN := Lib.hid hl; clear hl
    go_wp2_with (first
      | (refine wpList_load_row rfl 39 (.tmp 1) rfl w.heap.size rfl 39 _ (0, 0) _ HE.out Tryd.underlying39 rfl (size_expr rfl) ?_)
      | (refine wpList_store_row rfl 39 (.tmp 2) (.tmp 8) rfl (w.heap.size + 1) (cells e A cap).toArray rfl rfl 39 _ HRR.out (size_expr rfl) rfl (all_one (by simp [cells, Value.oneCell'])) ?_))
    refine bodyPost_ret (results_cell_row (P := Tryd.prog) rfl _ _ (w.heap.size + 1) 39 (cells e A cap).toArray (0, 0) _ rfl (HRR.out.setRow _) Tryd.underlying39 rfl (size_expr rfl)) rfl ?_
    exact turned_end w w1 ok e e A cap css (flip_no (.inl HLEN.out)) HFIT.out hcap hmax HG.out ((HL.out.old.gro HG.out).mono fun b hb _ => ⟨.inl hb, rfl⟩)
end Go.Proofs.YtgikebkgihcogaaDoor
