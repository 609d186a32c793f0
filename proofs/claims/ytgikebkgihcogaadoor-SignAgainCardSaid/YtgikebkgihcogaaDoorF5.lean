/- SignAgain: the walk. -/
import Derived.Test.YtgikebkgihcogaaDoorF4
import Derived.Test.YtgikebkgihcogaaDoorD2
namespace Go.Proofs.YtgikebkgihcogaaDoor
open Go.RowKit Go.Sort
set_option maxHeartbeats 1000000

theorem sign_CondsE (w : World) (ok : Nat → Prop) (A : Option Addr) (cap : Nat) (xs : List Ex) (css : Nat → List Value) (hL : LRep w ok A xs css) (ht : Tab w) (hn : xs.length ≤ 1353245080300) :
    Calls Tryd.prog 15 #[.slice A xs.length cap] w fun r w' => ∃ A' cap' css' zs er, r = .returned (.tuple #[.slice A' (List.length zs) cap', .int .i64 er]) ∧ er = (if xs.all rightF = true then 0 else 1) ∧ CondsRel xs zs ∧ zs.length ≤ xs.length ∧
      LRep w' (fun _ => True) A' zs css' ∧ Gro w w' := by
  refine (sign_Conds w ok A cap xs css hL ht hn).mono ?_
  rintro r w' ⟨hg, ⟨v, ys, hall, rfl, hp, hpw, hM⟩ | ⟨hall, rfl⟩⟩
  · obtain ⟨A', cap', css', rfl, _, _, hL'⟩ := hM.lrep
    refine ⟨A', cap', css', _, 0, rfl, by rw [if_pos hall], .inl ⟨hall, ys, hp, hpw, rfl⟩, ?_, hL'.mono fun _ _ _ => ⟨trivial, rfl⟩, hg⟩
    have h1 := dedup_len sameF ys
    have h2 := hp.length_eq
    rw [List.length_map] at h2
    omega
  · exact ⟨none, 0, _, [], 1, rfl, by rw [if_neg (by simp [hall])], .inr ⟨hall, rfl⟩, by simp, LRep.none _ _, hg⟩

theorem sign_NormalY (ok : Nat → Prop) (e : Ex) (cs : List Value) (w : World) (h : Rep w ok e cs) (ht : Tab w) (hr : rightF e = true) :
    Calls Tryd.prog 13 #[.agg cs.toArray] w fun r w' => ∃ cs', r = .returned (.tuple #[.agg (List.toArray cs'), .int .i64 0]) ∧ Rep w' (fun _ => True) (normF e) cs' ∧ Gro w w' := by
  refine (sign_Normal ok e cs w h ht).mono ?_
  rintro r w' ⟨cs', rfl, hR, hg⟩
  rw [if_pos hr] at hR
  exact ⟨cs', by rw [if_pos hr], hR.mono fun _ _ _ => ⟨trivial, rfl⟩, hg⟩
theorem sign_NormalN (ok : Nat → Prop) (e : Ex) (cs : List Value) (w : World) (h : Rep w ok e cs) (ht : Tab w) (hr : rightF e = false) :
    Calls Tryd.prog 13 #[.agg cs.toArray] w fun r w' => ∃ cs', r = .returned (.tuple #[.agg (List.toArray cs'), .int .i64 1]) ∧ Rep w' (fun _ => True) zeroEx cs' ∧ Gro w w' := by
  refine (sign_Normal ok e cs w h ht).mono ?_
  rintro r w' ⟨cs', rfl, hR, hg⟩
  rw [if_neg (by simp [hr])] at hR
  exact ⟨cs', by rw [if_neg (by simp [hr])], hR.mono fun _ _ _ => ⟨trivial, rfl⟩, hg⟩

set_option maxRecDepth 100000 in
theorem law_SignAgain (w : World) (ok : Nat → Prop) (e : Ex) (cs : List Value) (A : Option Addr) (cap : Nat) (xs : List Ex) (css : Nat → List Value) (h : Rep w ok e cs) (hL : LRep w ok A xs css) (ht : Tab w) (hn : xs.length ≤ 1353245080300) :
    Calls Tryd.prog 4 #[.agg cs.toArray, .slice A xs.length cap] w fun r w' => r = .returned (.bool true) ∧ Gro w w' := by
  obtain ⟨B0, k0, rfl⟩ := h.shape
  have HR := Lib.hid h; have HL := Lib.hid hL; have HTAB := Lib.hid ht; clear h hL ht
  simp only [cells]
  go_enter Tryd.func4, Tryd.ntmps4
  go_upto_region 1 with (fail)
  have hB := Blk.new w (cells e B0 k0).toArray 39
  have hW := (Ext.refl (fun _ => False) w).alloc (.cells (cells e B0 k0).toArray 39)
  simp only [cells] at hW
  have hB' : Blk (w.alloc (.cells (cells e B0 k0).toArray 39)) w.heap.size (cells e B0 k0).toArray 39 := hB
  simp only [cells] at hB'
  generalize w.alloc _ = w1 at hW hB' ⊢
  have HB : Hid (Blk w1 w.heap.size (cells e B0 k0).toArray 39) := Lib.hid (by simpa only [cells] using hB')
  have HW := Lib.hid hW; clear hB hW hB'
  go_upto_region 2 with (go_at_call 7; refine (law_examples _ (HTAB.out.gro HW.out)).mono ?_; rintro r w2 ⟨rfl, hg2⟩; have HG2 := Lib.hid hg2; clear hg2)
  have hG2 := HW.out.same HG2.out
  have HB2 := Lib.hid (HB.out.ext HG2.out id); have HGW2 := Lib.hid hG2
  clear hG2
  by_cases hr : rightF e = false
  · have HN := Lib.hid (sign_NormalN _ e _ w2 (HR.out.gro HGW2.out) (HTAB.out.gro HGW2.out) hr)
    have HRF := Lib.hid hr; clear hr
    go_upto_region 4 with (first
      | (refine wpList_load_row rfl 39 (.tmp 2) rfl w.heap.size rfl 39 _ (0, 0) _ HB2.out Tryd.underlying39 rfl (size_expr rfl) ?_)
      | (go_at_call 13; refine Calls.mono HN.out ?_; rintro r w3 ⟨cs3, rfl, hR3, hg3⟩; obtain ⟨B3, k3, rfl⟩ := hR3.shape; have HG3 := Lib.hid hg3; clear hR3 hg3; simp only [cells]))
    have hx4 := (Ext.refl (fun _ => False) w3).alloc (.cells (cells zeroEx B3 k3).toArray 39)
    simp only [cells] at hx4
    generalize w3.alloc _ = w4 at hx4 ⊢
    have hB4 := HB2.out.ext (HG3.out.same hx4) id
    have hC4 := expr_Right _ e _ w4 (HR.out.gro (HGW2.out.same (HG3.out.same hx4)))
    rw [HRF.out] at hC4
    simp only [cells] at hC4
    have HC4 := Lib.hid hC4; have HX4 := Lib.hid hx4
    have e0 := hB4.cell 0; have e1 := hB4.cell 1; have e2 := hB4.cell 2; have e3 := hB4.cell 3; have e4 := hB4.cell 4; have e5 := hB4.cell 5; have e6 := hB4.cell 6; have e7 := hB4.cell 7; have e8 := hB4.cell 8
    simp [cells] at e0 e1 e2 e3 e4 e5 e6 e7 e8
    have l4 := hB4.lt
    clear hB4 hC4 hx4
    go_wp2_with (go_at_call 14; refine Calls.mono HC4.out ?_; rintro r w5 ⟨rfl, hg5⟩; have HG5 := Lib.hid hg5; clear hg5)
    go_ret
    exact ⟨by first | rfl | simp, (HGW2.out.same (HG3.out.same HX4.out)).same HG5.out⟩
  · have hr' : rightF e = true := by simpa using hr
    have HN := Lib.hid (sign_NormalY _ e _ w2 (HR.out.gro HGW2.out) (HTAB.out.gro HGW2.out) hr')
    have hnr : rightF (normF e) = true := by rw [norm_right]; exact hr'
    have hnn : normF (normF e) = normF e := norm_norm_right hr'
    have HRF := Lib.hid hr'; have HNR := Lib.hid hnr; have HNN := Lib.hid hnn; clear hr hr' hnr hnn
    obtain ⟨x, hx⟩ : ∃ x, x = normF e := ⟨_, rfl⟩
    rw [← hx] at HN HNR HNN
    clear hx
    go_upto_region 5 with (first
      | (refine wpList_load_row rfl 39 (.tmp 2) rfl w.heap.size rfl 39 _ (0, 0) _ HB2.out Tryd.underlying39 rfl (size_expr rfl) ?_)
      | (go_at_call 13; refine Calls.mono HN.out ?_; rintro r w3 ⟨cs3, rfl, hR3, hg3⟩; obtain ⟨B3, k3, rfl⟩ := hR3.shape; have HR3 := Lib.hid hR3; have HG3 := Lib.hid hg3; clear hR3 hg3; simp only [cells]))
    have hA4 := Blk.new w3 (cells x B3 k3).toArray 39
    have hx4 := (Ext.refl (fun _ => False) w3).alloc (.cells (cells x B3 k3).toArray 39)
    have hA4' : Blk (w3.alloc (.cells (cells x B3 k3).toArray 39)) w3.heap.size (cells x B3 k3).toArray 39 := hA4
    simp only [cells] at hx4 hA4'
    generalize w3.alloc _ = w4 at hx4 hA4' ⊢
    have HA4 : Hid (Blk w4 w3.heap.size (cells x B3 k3).toArray 39) := Lib.hid (by simpa only [cells] using hA4')
    have hG4 : Gro w w4 := HGW2.out.same (HG3.out.same hx4)
    have hR4 := HR3.out.gro hx4
    have HG4 := Lib.hid hG4; have HR4 := Lib.hid hR4
    have hN4 := sign_NormalY _ x _ w4 hR4 (HTAB.out.gro hG4) HNR.out
    rw [HNN.out] at hN4
    have HN4 := Lib.hid hN4
    clear hA4 hA4' hx4 hG4 hR4 hN4
    generalize w3.heap.size = ga at HA4 ⊢
    go_upto_region 6 with (first
      | (refine wpList_load_row rfl 39 (.tmp 6) rfl ga rfl 39 _ (0, 0) _ HA4.out Tryd.underlying39 rfl (size_expr rfl) ?_)
      | (go_at_call 13; refine Calls.mono HN4.out ?_; rintro r w5 ⟨cs5, rfl, hR5, hg5⟩; obtain ⟨B5, k5, rfl⟩ := hR5.shape; have HR5 := Lib.hid hR5; have HG5 := Lib.hid hg5; clear hR5 hg5; simp only [cells]))
    have hA6 := Blk.new w5 (cells x B5 k5).toArray 39
    have hx6 := (Ext.refl (fun _ => False) w5).alloc (.cells (cells x B5 k5).toArray 39)
    have hA6' : Blk (w5.alloc (.cells (cells x B5 k5).toArray 39)) w5.heap.size (cells x B5 k5).toArray 39 := hA6
    simp only [cells] at hx6 hA6'
    generalize w5.alloc _ = w6 at hx6 hA6' ⊢
    have HC6 : Hid (Blk w6 w5.heap.size (cells x B5 k5).toArray 39) := Lib.hid (by simpa only [cells] using hA6')
    have hG46 : Gro w4 w6 := HG5.out.same hx6
    have HA6 := Lib.hid (HA4.out.ext hG46 id)
    have HG6 := Lib.hid (HG4.out.same hG46); have HRa := Lib.hid (HR4.out.gro hG46); have HRb := Lib.hid (HR5.out.gro hx6)
    clear hA6 hA6' hx6 hG46
    generalize w5.heap.size = gb at HC6 ⊢
    have HCD := Lib.hid (sign_CondsE w6 ok A cap xs css (HL.out.gro HG6.out) (HTAB.out.gro HG6.out) hn)
    go_upto_region 7 with (go_at_call 15; refine Calls.mono HCD.out ?_; rintro r w7 ⟨A7, c7, css7, ys, er, rfl, her, hrel7, hlen7, hL7, hg7⟩; have HER := Lib.hid her; have HREL7 := Lib.hid hrel7; have HL7 := Lib.hid hL7; have HG7 := Lib.hid hg7; clear her hrel7 hL7 hg7)
    have HG67 := Lib.hid (HG6.out.same HG7.out)
    have hall : (∀ y ∈ ys, rightF y = true) ∧ ys.all rightF = true := by
      by_cases hx : ∀ z ∈ xs, rightF z = true
      · obtain ⟨_, _, a3⟩ := conds_texts hx HREL7.out
        have : ∀ y ∈ ys, rightF y = true := fun y hy => by obtain ⟨z, hz, rfl⟩ := a3 y hy; rw [norm_right]; exact hx z hz
        exact ⟨this, by simpa using this⟩
      · rcases HREL7.out with ⟨h, _⟩ | ⟨_, h⟩
        · exact absurd (by simpa using h) hx
        · subst h; exact ⟨fun y hy => (by cases hy), rfl⟩
    have HALL := Lib.hid hall; clear hall
    have HCD8 := Lib.hid (sign_CondsE w7 _ A7 c7 ys css7 HL7.out (HTAB.out.gro HG67.out) (by omega))
    go_upto_region 8 with (go_at_call 15; refine Calls.mono HCD8.out ?_; rintro r w8 ⟨A8, c8, css8, zs, er8, rfl, her, hrel8, hlen8, hL8, hg8⟩; have HER8 := Lib.hid her; have HREL8 := Lib.hid hrel8; have HL8 := Lib.hid hL8; have HG8 := Lib.hid hg8; clear her hrel8 hL8 hg8)
    have he8 : er8 = 0 := by rw [HER8.out, if_pos HALL.out.2]
    subst he8
    have hpr : zs.map printF = ys.map printF ∧ ∀ z ∈ zs, rightF z = true := by
      by_cases hx : ∀ z ∈ xs, rightF z = true
      · obtain ⟨b1, b2, b3⟩ := conds_conds hx HREL7.out HREL8.out
        exact ⟨texts_prints b3 b2 b1, b3⟩
      · rcases HREL7.out with ⟨h, _⟩ | ⟨_, h⟩
        · exact absurd (by simpa using h) hx
        · subst h
          have hz := HREL8.out.nil
          subst hz
          exact ⟨rfl, fun y hy => (by cases hy)⟩
    have HPR := Lib.hid hpr; clear hpr
    have hA8 := HA6.out.ext (HG7.out.same HG8.out) id
    have hC8 := HC6.out.ext (HG7.out.same HG8.out) id
    have HA8 := Lib.hid hA8; have HC8 := Lib.hid hC8
    have hRa8 := HRa.out.gro (HG7.out.same HG8.out); have hRb8 := HRb.out.gro (HG7.out.same HG8.out)
    have hgr := fun (X Y : Array Value) => ((Ext.refl (fun _ => False) w8).alloc (.cells X 39)).alloc (.cells Y 39)
    have hX1 := law_exprs print_spec ((w8.alloc (.cells (cells x B3 k3).toArray 39)).alloc (.cells (cells x B5 k5).toArray 39)) (fun _ => True) (fun _ => True) (some ⟨w8.heap.size, 0, none⟩) (some ⟨w8.heap.size + 1, 0, none⟩) 1 1 [x] [x] _ _
      (one_rep ((Blk.new w8 (cells x B3 k3).toArray 39).alloc (.cells (cells x B5 k5).toArray 39)) (hRa8.gro (hgr _ _)) trivial)
      (one_rep (Blk.newAt (by simp) (cells x B5 k5).toArray 39) (hRb8.gro (hgr _ _)) trivial)
      (by simpa using HNR.out) (by simpa using HNR.out) (by simp) rfl
    simp only [cells, List.length_cons, List.length_nil, Nat.zero_add] at hX1
    have HX1 := Lib.hid hX1; clear hX1 hA8 hC8 hRa8 hRb8 hgr
    go_upto_region 9 with (first
      | (refine wpList_load_row rfl 39 (.tmp 6) rfl ga rfl 39 _ (0, 0) _ HA8.out Tryd.underlying39 rfl (size_expr rfl) ?_; simp only [cells])
      | (refine wpList_load_row rfl 39 (.tmp 8) rfl gb rfl 39 _ (0, 0) _ (HC8.out.alloc _) Tryd.underlying39 rfl (size_expr rfl) ?_; simp only [cells])
      | (go_at_call 16; refine Calls.mono HX1.out ?_; rintro r w9 ⟨rfl, hg9⟩; have HG9 := Lib.hid hg9; clear hg9))
    have hg89 : Gro w8 w9 := (((Ext.refl (fun _ => False) w8).alloc (.cells (cells x B3 k3).toArray 39)).alloc (.cells (cells x B5 k5).toArray 39)).same (by simpa only [cells] using HG9.out)
    have HG79 := Lib.hid (HG8.out.same hg89); clear hg89
    have HX9 := Lib.hid (law_exprs print_spec w9 (fun _ => True) (fun _ => True) A7 A8 c7 c8 ys zs css7 css8 (HL7.out.gro HG79.out) (HL8.out.gro (by
        have := (((Ext.refl (fun _ => False) w8).alloc (.cells (cells x B3 k3).toArray 39)).alloc (.cells (cells x B5 k5).toArray 39)).same (by simpa only [cells] using HG9.out)
        exact this)) HALL.out.1 HPR.out.2 (by omega) HPR.out.1.symm)
    go_upto_region 10 with (go_at_call 16; refine Calls.mono HX9.out ?_; rintro r w10 ⟨rfl, hg10⟩; have HG10 := Lib.hid hg10; clear hg10)
    have hG710 := HG79.out.same HG10.out
    have hA10 := HA6.out.ext (HG7.out.same hG710) id
    have hR10 := expr_Right _ x _ w10 (HRa.out.gro (HG7.out.same hG710))
    rw [HNR.out] at hR10
    simp only [cells] at hR10
    have HR10 := Lib.hid hR10; have HG710 := Lib.hid hG710
    have e0 := hA10.cell 0; have e1 := hA10.cell 1; have e2 := hA10.cell 2; have e3 := hA10.cell 3; have e4 := hA10.cell 4; have e5 := hA10.cell 5; have e6 := hA10.cell 6; have e7 := hA10.cell 7; have e8 := hA10.cell 8
    simp [cells] at e0 e1 e2 e3 e4 e5 e6 e7 e8
    have l10 := hA10.lt
    clear hA10 hR10 hG710
    by_cases he0 : er = 0
    · have he : (er != 0) = false := by simp [he0]
      clear he0
      go_wp2_with (go_at_call 14; refine Calls.mono HR10.out ?_; rintro r w11 ⟨rfl, hg11⟩; have HG11 := Lib.hid hg11; clear hg11)
      go_ret
      exact ⟨by first | rfl | simp, (HG67.out.same HG710.out).same HG11.out⟩
    · have he : (er != 0) = true := by simp [he0]
      clear he0
      go_wp2_with (go_at_call 14; refine Calls.mono HR10.out ?_; rintro r w11 ⟨rfl, hg11⟩; have HG11 := Lib.hid hg11; clear hg11)
      go_ret
      exact ⟨by first | rfl | simp, (HG67.out.same HG710.out).same HG11.out⟩
end Go.Proofs.YtgikebkgihcogaaDoor
