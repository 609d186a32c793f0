/- Walks: expr.Text, expr.Same, sign.text. -/
import Derived.Test.YtgikebkgihcogaaDoorW7
import Derived.Lib.ItoaLen
namespace Go.Proofs.YtgikebkgihcogaaDoor
open Go.RowKit
set_option maxHeartbeats 1000000

structure Ex.Fits (e : Ex) : Prop where
  op : I64 e.op
  kind : I64 e.kind
  num : I64 e.num
  vs : e.vs.size ≤ maxLen
  rel : I64 e.rel
  col : I64 e.col
  n : I64 e.n
  s : e.s.size ≤ maxLen
theorem mem_preL {l : List Ex} {y : Ex} (h : y ∈ preL l) : ∃ x ∈ l, y ∈ preF x := by
  induction l with
  | nil => cases h
  | cons x l ih =>
    rw [preL, List.mem_append] at h
    rcases h with h | h
    · exact ⟨x, List.mem_cons_self, h⟩
    · obtain ⟨z, hz, hy⟩ := ih h
      exact ⟨z, List.mem_cons_of_mem _ hz, hy⟩
theorem Rep.fits {w : World} {ok : Nat → Prop} {e : Ex} {cs : List Value} (h : Rep w ok e cs) : ∀ y ∈ preF e, y.Fits := by
  induction h with
  | mk e A cap css hcap hmax h1 h2 h3 h4 h5 h6 h7 h8 hA hl ih =>
    intro y hy
    rw [preF_eq] at hy
    rcases List.mem_cons.1 hy with rfl | hy
    · exact ⟨h1, h2, h3, h4, h5, h6, h7, h8⟩
    · obtain ⟨x, hx, hy⟩ := mem_preL hy
      obtain ⟨j, hj, rfl⟩ := List.getElem_of_mem hx
      exact ih j hj y hy

theorem walkF_count (e : Ex) : ∀ (deep many : Int), (walkF e deep many).1 = true → (walkF e deep many).2 = many + (preF e).length := by
  refine Ex.rec (motive_1 := fun e => ∀ (deep many : Int), (walkF e deep many).1 = true → (walkF e deep many).2 = many + (preF e).length)
    (motive_2 := fun l => ∀ (deep many : Int), (walkL l deep many).1 = true → (walkL l deep many).2 = many + (preL l).length) ?_ ?_ ?_ e
  · intro op kind num vs rel col n s l ih deep many h
    rw [walkF] at h ⊢
    split at h
    · simp at h
    · rename_i hc
      rw [if_neg hc, ih _ _ h, preF]; simp; omega
  · intro deep many h; simp [walkL, preL]
  · intro x l ihx ihl deep many h
    rw [walkL] at h ⊢
    split at h
    · rename_i hx
      rw [if_pos hx, ihl _ _ h, ihx _ _ hx, preL]; simp; omega
    · simp at h
theorem right_count {e : Ex} (h : rightF e = true) : (preF e).length ≤ 200 := by
  have h1 := walkF_count e 1 0 h
  have h2 := (walk_many e 1 0 (by omega) (by omega)).2.2 h
  omega

theorem own_len {e : Ex} (h : nodeOwn e = true) : (e.l.length : Int) = wantsF e.op := by
  unfold nodeOwn ownF at h
  split at h
  · simp at h
  · split at h
    · simp at h
    · rename_i h2; simpa using h2
theorem wants_le (op : Int) : wantsF op ≤ 2 := by
  unfold wantsF
  repeat' split
  all_goals omega
theorem own_const {e : Ex} (h : nodeOwn e = true) (ho : e.op = 1) : valRight e.kind e.num e.vs = true := by
  unfold nodeOwn ownF at h
  rw [ho] at h
  simp at h
  exact h.2.2.1
theorem val_text {kind num : Int} {vs : ByteArray} (h : valRight kind num vs = true) (h0 : kind ≠ 0) (h1 : kind ≠ 1) (h2 : kind ≠ 2) : vs.size ≤ 40 := by
  unfold valRight at h
  rw [if_neg h0, if_neg h1, if_neg h2] at h
  split at h
  · simp at h; exact h.2
  · simp at h
theorem printF_le (e : Ex) (ho : OwnAll e) (hf : ∀ y ∈ preF e, y.Fits) : (printF e).length ≤ 100 * (preF e).length := by
  revert ho hf
  refine Ex.rec (motive_1 := fun e => OwnAll e → (∀ y ∈ preF e, y.Fits) → (printF e).length ≤ 100 * (preF e).length)
    (motive_2 := fun l => (∀ y ∈ preL l, nodeOwn y = true) → (∀ y ∈ preL l, y.Fits) → (printL l).length ≤ 100 * (preL l).length + l.length) ?_ ?_ ?_ e
  · intro op kind num vs rel col n s l ih ho hf
    have hx := hf (.mk op kind num vs rel col n s l) (by rw [preF]; exact List.mem_cons_self)
    have hown := ho (.mk op kind num vs rel col n s l) (by rw [preF]; exact List.mem_cons_self)
    have hl := own_len hown
    have hw := wants_le op
    have hL := ih (fun y hy => ho y (by rw [preF]; exact List.mem_cons_of_mem _ hy)) (fun y hy => hf y (by rw [preF]; exact List.mem_cons_of_mem _ hy))
    have i1 := Lib.itoa_length_le op hx.op.1 hx.op.2
    have i2 := Lib.itoa_length_le num hx.num.1 hx.num.2
    have i3 := Lib.itoa_length_le rel hx.rel.1 hx.rel.2
    have i4 := Lib.itoa_length_le col hx.col.1 hx.col.2
    have i5 := Lib.itoa_length_le n hx.n.1 hx.n.2
    simp only [Ex.l, Ex.op] at hl
    rw [printF, preF]
    simp only [List.length_cons]
    split
    · rename_i h1
      have hc := own_const hown h1
      simp only [Ex.kind, Ex.num, Ex.vs] at hc
      repeat' split
      · simp; omega
      · simp; omega
      · simp; omega
      · rename_i k0 k1 k2
        have hv := val_text hc k0 k1 k2
        have i6 := Lib.itoa_length_le (vs.size : Nat) (by omega) (by omega)
        have h9 : vs.data.toList.length = vs.size := by rw [Array.length_toList]; rfl
        simp only [List.length_cons, List.length_append, h9]; omega
    · split
      · simp; omega
      · split
        · simp; omega
        · simp; omega
  · intro _ _; simp [printL, preL]
  · intro x l ihx ihl ho hf
    rw [preL] at ho hf
    have hx := ihx (fun y hy => ho y (List.mem_append_left _ hy)) (fun y hy => hf y (List.mem_append_left _ hy))
    have hl := ihl (fun y hy => ho y (List.mem_append_right _ hy)) (fun y hy => hf y (List.mem_append_right _ hy))
    rw [printL, preL]
    simp only [List.length_cons, List.length_append]
    omega
theorem right_print_le {w : World} {ok : Nat → Prop} {e : Ex} {cs : List Value} (h : Rep w ok e cs) (hr : rightF e = true) : (printF e).length ≤ 20000 := by
  have := printF_le e (right_own hr) h.fits
  have := right_count hr
  omega
theorem printF_ne (e : Ex) : printF e ≠ [] := by
  rw [printF_eq]
  repeat' split
  all_goals simp

/-- What expr.Text tells. -/
def textV (e : Ex) : Value := if rightF e = true then .tuple #[.string ⟨(printF e).toArray⟩, .int .i64 0] else .tuple #[.string ⟨#[]⟩, .int .i64 1]
theorem expr_Text (ok : Nat → Prop) (e : Ex) (cs : List Value) (w : World) (h : Rep w ok e cs) (ht : Tab w) :
    Calls Tryd.prog 52 #[.agg cs.toArray] w fun r w' => r = .returned (textV e) ∧ Gro w w' := by
  obtain ⟨A, cap, rfl⟩ := h.shape
  have HR := Lib.hid h.old; have HT := Lib.hid ht; clear h ht
  simp only [cells]
  go_enter Tryd.func52, Tryd.ntmps52
  go_upto_region 1 with (fail)
  have hW := (Ext.refl (fun _ => False) w).alloc (.cells (cells e A cap).toArray 39)
  have hb1 := Blk.newAt (w := w) (n := w.heap.size) rfl (cells e A cap).toArray 39
  simp only [cells] at hW hb1
  generalize w.alloc _ = w1 at hW hb1 ⊢
  have e0 := hb1.cell 0; have e1 := hb1.cell 1; have e2 := hb1.cell 2; have e3 := hb1.cell 3; have e4 := hb1.cell 4; have e5 := hb1.cell 5; have e6 := hb1.cell 6; have e7 := hb1.cell 7; have e8 := hb1.cell 8
  simp at e0 e1 e2 e3 e4 e5 e6 e7 e8
  have l1 := hb1.lt
  have hR := expr_Right _ e _ w1 (HR.out.gro hW)
  simp only [cells] at hR
  have HB1 := Lib.hid hb1; have HW := Lib.hid hW; clear hb1 hW
  by_cases hr : rightF e = true
  · rw [hr] at hR
    have HRR := Lib.hid hR; have HRF := Lib.hid hr; clear hR hr
    go_upto_region 4 with (go_at_call 14; refine HRR.out.mono ?_; rintro r w2 ⟨rfl, hg2⟩; have HG2 := Lib.hid hg2; clear hg2)
    have hlt2 := HB1.out.lt
    have hx2 := HW.out.same HG2.out
    have hb2 := (HB1.out.ext HG2.out id).alloc (.cells #[.pointer none, .slice none 0 0] 54)
    have hB : BIs w2.heap.size w2.heap.size (Lib.byteCells []) (w2.alloc (.cells #[.pointer none, .slice none 0 0] 54)) :=
      .inl ⟨Nat.le_refl _, .slice none 0 0, heap_alloc_new w2 _, World.ownsRow_nil _ _ _ _, by simp [Value.ownBlock]⟩
    have hg3 : Gro w2 (w2.alloc (.cells #[.pointer none, .slice none 0 0] 54)) := (Ext.refl _ w2).alloc _
    have hle2 := hx2.size
    generalize w2.alloc _ = w3 at hb2 hB hg3 ⊢
    clear e0 e1 e2 e3 e4 e5 e6 e7 e8
    have e0 := hb2.cell 0; have e1 := hb2.cell 1; have e2 := hb2.cell 2; have e3 := hb2.cell 3; have e4 := hb2.cell 4; have e5 := hb2.cell 5; have e6 := hb2.cell 6; have e7 := hb2.cell 7; have e8 := hb2.cell 8
    simp at e0 e1 e2 e3 e4 e5 e6 e7 e8
    have hx3 : Gro w w3 := hx2.same hg3
    have hP := expr_put w2.heap.size w2.heap.size w _ (fun k h => by have := h.2; omega) (by have := (HT.out.gro hx2).lt; omega) e _ HR.out [] w3 (BExt.gro hx3) hB (HT.out.gro hx3)
      (by have := right_print_le HR.out HRF.out; simp; omega)
    simp only [cells, List.nil_append] at hP
    have HP := Lib.hid hP; have HX3 := Lib.hid hx3; clear hP hx3 hb2 hB hg3 hx2
    go_wp2_with (go_at_call 66; refine HP.out.mono ?_; rintro r w4 ⟨rfl, hb4, hx4⟩; have HB4 := Lib.hid hb4; have HX4 := Lib.hid hx4; clear hb4 hx4)
    refine (BString w2.heap.size w2.heap.size (printF e) w4 HB4.out (printF_ne e)).mono ?_
    rintro r w5 ⟨rfl, hx5⟩
    have HX5 := Lib.hid hx5; clear hx5
    go_wp2_with fail
    go_ret2
    exact ⟨by rw [textV, if_pos HRF.out]; rfl, BExt.toGro HX3.out hle2 hle2 (HX4.out.trans HX5.out)⟩
  · have hr' : rightF e = false := by simpa using hr
    rw [hr'] at hR
    have HRR := Lib.hid hR; have HRF := Lib.hid hr; clear hR hr hr'
    go_wp2_with (go_at_call 14; refine HRR.out.mono ?_; rintro r w2 ⟨rfl, hg2⟩; have HG2 := Lib.hid hg2; clear hg2)
    go_ret2
    exact ⟨by rw [textV, if_neg HRF.out]; rfl, HW.out.same HG2.out⟩

/-- A right one's text; nothing else's. -/
def textF (e : Ex) : ByteArray := if rightF e = true then ⟨(printF e).toArray⟩ else ⟨#[]⟩
def errF (e : Ex) : Int := if rightF e = true then 0 else 1
theorem errF_eq (e : Ex) : (errF e == 0) = rightF e := by unfold errF; cases rightF e <;> rfl
theorem textV_eq (e : Ex) : textV e = .tuple #[.string (textF e), .int .i64 (errF e)] := by unfold textV textF errF; split <;> rfl
theorem sign_text (ok : Nat → Prop) (e : Ex) (cs : List Value) (w : World) (h : Rep w ok e cs) (ht : Tab w) :
    Calls Tryd.prog 25 #[.agg cs.toArray] w fun r w' => r = .returned (.string (textF e)) ∧ Gro w w' := by
  obtain ⟨A, cap, rfl⟩ := h.shape
  have hT := expr_Text _ e _ (w.alloc (.cells (cells e A cap).toArray 39)) (h.old.gro ((Ext.refl _ _).alloc _)) (ht.gro ((Ext.refl _ _).alloc _))
  rw [textV_eq] at hT
  simp only [cells] at hT ⊢
  have HT := Lib.hid hT; clear hT h ht
  go_enter Tryd.func25, Tryd.ntmps25
  go_wp2_with fail
  refine HT.out.mono ?_
  rintro r w2 ⟨rfl, hg2⟩
  have HG2 := Lib.hid hg2; clear hg2
  go_wp2_with fail
  go_ret
  exact ⟨rfl, ((Ext.refl _ _).alloc _).same HG2.out⟩
theorem expr_Same (ok : Nat → Prop) (e f : Ex) (cs ds : List Value) (w : World) (h : Rep w ok e cs) (k : Rep w ok f ds) (ht : Tab w) :
    Calls Tryd.prog 44 #[.agg cs.toArray, .agg ds.toArray] w fun r w' => r = .returned (.bool (rightF e && (rightF f && decide (printF e = printF f)))) ∧ Gro w w' := by
  obtain ⟨A, cap, rfl⟩ := h.shape
  obtain ⟨A', cap', rfl⟩ := k.shape
  have hW := ((Ext.refl (fun _ => False) w).alloc (.cells (cells e A cap).toArray 39)).alloc (.cells (cells f A' cap').toArray 39)
  have hb2 := Blk.newAt (w := w.alloc (.cells (cells e A cap).toArray 39)) (n := w.heap.size + 1) (by simp) (cells f A' cap').toArray 39
  have hT := expr_Text _ e _ _ (h.old.gro hW) (ht.gro hW)
  rw [textV_eq] at hT
  have HR := Lib.hid k.old; have HTT := Lib.hid ht
  simp only [cells] at hT hb2 hW ⊢
  have HT := Lib.hid hT; have HW := Lib.hid hW; have HB := Lib.hid hb2; clear hT h ht k hb2 hW
  go_enter Tryd.func44, Tryd.ntmps44
  go_wp2_with fail
  refine HT.out.mono ?_
  rintro r w2 ⟨rfl, hg2⟩
  have hx2 := HW.out.same hg2
  have hb2 := HB.out.ext hg2 id
  have hT2 := expr_Text _ f _ _ (HR.out.gro hx2) (HTT.out.gro hx2)
  rw [textV_eq] at hT2
  simp only [cells] at hT2
  have e0 := hb2.cell 0; have e1 := hb2.cell 1; have e2 := hb2.cell 2; have e3 := hb2.cell 3; have e4 := hb2.cell 4; have e5 := hb2.cell 5; have e6 := hb2.cell 6; have e7 := hb2.cell 7; have e8 := hb2.cell 8
  simp at e0 e1 e2 e3 e4 e5 e6 e7 e8
  have HT2 := Lib.hid hT2; have HX2 := Lib.hid hx2; clear hg2 hx2 hb2 hT2
  go_wp2_with fail
  refine HT2.out.mono ?_
  rintro r w3 ⟨rfl, hg3⟩
  have HG3 := Lib.hid hg3; clear hg3 e0 e1 e2 e3 e4 e5 e6 e7 e8
  have h1 := errF_eq e
  have h2 := errF_eq f
  by_cases hr : rightF e = true
  · rw [hr] at h1
    by_cases hr2 : rightF f = true
    · rw [hr2] at h2
      have ht1 : textF e = ⟨(printF e).toArray⟩ := by rw [textF, if_pos hr]
      have ht2 : textF f = ⟨(printF f).toArray⟩ := by rw [textF, if_pos hr2]
      have H1 := Lib.hid hr; have H2 := Lib.hid hr2; have H3 := Lib.hid ht1; have H4 := Lib.hid ht2; clear hr hr2 ht1 ht2
      go_wp2_with fail
      go_ret
      refine ⟨congrArg (fun b => Ending.returned (Value.bool b)) ?_, HX2.out.same HG3.out⟩
      rw [H1.out, H2.out, H3.out, H4.out]
      simp
      rw [Bool.eq_iff_iff, beq_iff_eq, decide_eq_true_iff]
    · have hr2' : rightF f = false := by simpa using hr2
      rw [hr2'] at h2
      have H1 := Lib.hid hr; have H2 := Lib.hid hr2'; clear hr hr2 hr2'
      go_wp2_with fail
      go_ret
      refine ⟨congrArg (fun b => Ending.returned (Value.bool b)) ?_, HX2.out.same HG3.out⟩
      rw [H1.out, H2.out]
      rfl
  · have hr' : rightF e = false := by simpa using hr
    rw [hr'] at h1
    have H1 := Lib.hid hr'; clear hr hr' h2
    go_wp2_with fail
    go_ret
    refine ⟨congrArg (fun b => Ending.returned (Value.bool b)) ?_, HX2.out.same HG3.out⟩
    rw [H1.out]
    rfl
end Go.Proofs.YtgikebkgihcogaaDoor
