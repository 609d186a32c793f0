/- Walks: expr.Right. -/
import Derived.Test.YtgikebkgihcogaaDoorW2
namespace Go.Proofs.YtgikebkgihcogaaDoor
open Go.RowKit
set_option maxHeartbeats 400000

def nodeOwn (e : Ex) : Bool := ownF e.op e.kind e.num e.vs e.rel e.col e.n e.s e.l.length
mutual
/-- The walk of expr.Right: does it hold of e at a depth, so many having been met; how many then. -/
def walkF : Ex → Int → Int → Bool × Int
  | .mk a b c d e f g h l, deep, many =>
    if 200 < many + 1 ∨ 20 < deep ∨ nodeOwn (.mk a b c d e f g h l) = false then (false, many + 1) else walkL l (deep + 1) (many + 1)
def walkL : List Ex → Int → Int → Bool × Int
  | [], _, many => (true, many)
  | x :: xs, deep, many => if (walkF x deep many).1 then walkL xs deep (walkF x deep many).2 else (false, (walkF x deep many).2)
end
theorem walkF_eq (e : Ex) (deep many : Int) : walkF e deep many = if 200 < many + 1 ∨ 20 < deep ∨ nodeOwn e = false then (false, many + 1) else walkL e.l (deep + 1) (many + 1) := by
  cases e; rw [walkF]; rfl
theorem walkL_append (l : List Ex) (x : Ex) (deep many : Int) : walkL (l ++ [x]) deep many = if (walkL l deep many).1 then walkF x deep (walkL l deep many).2 else walkL l deep many := by
  induction l generalizing many with
  | nil =>
    simp only [List.nil_append, walkL, if_true]
    cases h : walkF x deep many with
    | mk b m => cases b <;> simp
  | cons y l ih =>
    simp only [List.cons_append, walkL]
    by_cases hy : (walkF y deep many).1 = true
    · simp only [hy, if_true]; exact ih _
    · simp [hy]
theorem walkL_false (l r : List Ex) (deep many : Int) (h : (walkL l deep many).1 = false) : walkL (l ++ r) deep many = walkL l deep many := by
  induction l generalizing many with
  | nil => simp [walkL] at h
  | cons y l ih =>
    simp only [List.cons_append, walkL] at h ⊢
    by_cases hy : (walkF y deep many).1 = true
    · simp only [hy, if_true] at h ⊢; exact ih _ h
    · simp [hy]
def rightF (e : Ex) : Bool := (walkF e 1 0).1

def walkFn (bm bw : Nat) : Value := .func (.func 33) #[] #[.pointer (some ⟨bm, 0, none⟩), .pointer (some ⟨bw, 0, none⟩)]

theorem expr_Right11 (cs : List Value) (hcs : cs.length = 9) (h1 : ∀ v ∈ cs, v.oneCell' = true) (deep : Int) (bm bw gd : Nat) (w : World) (R : Ending → World → Prop)
    (hd : 0 ≤ deep) (hd2 : deep ≤ 100) (hw : Blk w bw #[walkFn bm bw] 71) (hg : Blk w gd #[.int .i64 deep] 3)
    (hcall : Calls Tryd.prog 33 #[.agg cs.toArray, .int .i64 (deep + 1), .pointer (some ⟨bm, 0, none⟩), .pointer (some ⟨bw, 0, none⟩)] (w.alloc (.cells cs.toArray 39)) fun e w' => ∃ b, e = .returned (.bool b) ∧ R (.returned (.bool (!b))) w') :
    Calls Tryd.prog 36 (#[.agg cs.toArray] ++ #[.pointer (some ⟨bw, 0, none⟩), .pointer (some ⟨gd, 0, none⟩)]) w R := by
  obtain ⟨a, b, c, d, e, f, g, h, i, rfl⟩ := list9 cs hcs
  have c1 := hw.cell 0; have c2 := hg.cell 0
  have l1 := hw.lt; have l2 := hg.lt
  simp [walkFn] at c1 c2
  have HC := Lib.hid hcall; clear hcall hw hg
  go_enter Tryd.func36, Tryd.ntmps36
  go_wp2_with fail
  refine HC.out.mono ?_
  rintro e w1 ⟨b, rfl, hR⟩
  cases b
  all_goals
    go_wp2_with fail
    exact hR

/-- Where Right$1 comes to. -/
def WalkPost (bm : Nat) (w : World) (r : Bool × Int) (e : Ending) (w' : World) : Prop :=
  e = .returned (.bool r.1) ∧ Ext (· = bm) w w' ∧ Blk w' bm #[.int .i64 r.2] 3

theorem walk_many : ∀ (e : Ex) (deep many : Int), 0 ≤ many → many ≤ 200 → 0 ≤ (walkF e deep many).2 ∧ (walkF e deep many).2 ≤ 201 ∧ ((walkF e deep many).1 = true → (walkF e deep many).2 ≤ 200) := by
  intro e
  refine Ex.rec (motive_1 := fun e => ∀ (deep many : Int), 0 ≤ many → many ≤ 200 → 0 ≤ (walkF e deep many).2 ∧ (walkF e deep many).2 ≤ 201 ∧ ((walkF e deep many).1 = true → (walkF e deep many).2 ≤ 200))
    (motive_2 := fun l => ∀ (deep many : Int), 0 ≤ many → many ≤ 200 → 0 ≤ (walkL l deep many).2 ∧ (walkL l deep many).2 ≤ 201 ∧ ((walkL l deep many).1 = true → (walkL l deep many).2 ≤ 200)) ?_ ?_ ?_ e
  · intro op kind num vs rel col n s l ih deep many h0 h1
    rw [walkF]
    split
    · simp; omega
    · rename_i hc
      exact ih (deep + 1) (many + 1) (by omega) (by omega)
  · intro deep many h0 h1
    simp [walkL]; omega
  · intro x l ihx ihl deep many h0 h1
    have h := ihx deep many h0 h1
    rw [walkL]
    split
    · rename_i hx
      exact ihl deep _ h.1 (h.2.2 hx)
    · simp; omega
theorem walkL_many (l : List Ex) : ∀ (deep many : Int), 0 ≤ many → many ≤ 200 → 0 ≤ (walkL l deep many).2 ∧ (walkL l deep many).2 ≤ 201 ∧ ((walkL l deep many).1 = true → (walkL l deep many).2 ≤ 200) := by
  induction l with
  | nil => intro deep many h0 h1; simp [walkL]; omega
  | cons x l ihl =>
    intro deep many h0 h1
    have h := walk_many x deep many h0 h1
    rw [walkL]
    split
    · rename_i hx
      exact ihl deep _ h.1 (h.2.2 hx)
    · simp; omega

theorem expr_Right1 (w0 : World) (ok : Nat → Prop) (bm bw : Nat) (hm : ¬ ok bm) (hmw : bw ≠ bm) (hbw : Blk w0 bw #[walkFn bm bw] 71)
    (e : Ex) (cs : List Value) (h : Rep w0 ok e cs) : ∀ (deep many : Int) (w : World), 0 ≤ deep → deep ≤ 21 → 0 ≤ many → many ≤ 200 → Ext (· = bm) w0 w → Blk w bm #[.int .i64 many] 3 →
      Calls Tryd.prog 33 #[.agg cs.toArray, .int .i64 deep, .pointer (some ⟨bm, 0, none⟩), .pointer (some ⟨bw, 0, none⟩)] w (WalkPost bm w (walkF e deep many)) := by
  induction h with
  | mk e A cap css hcap hmax h1 h2 h3 h4 h5 h6 h7 h8 hA hl ih =>
  intro deep many w hd0 hd1 hm0 hm1 hx hb
  have c1 := hb.cell 0; have z1 := hb.thaw 0; have l1 := hb.lt
  simp at c1
  have IH := Lib.hid ih; have HL := Lib.hid hl; have HA := Lib.hid hA; clear ih hl hA
  have HX := Lib.hid hx; have HB := Lib.hid hb; clear hx hb
  simp only [cells]
  go_enter Tryd.func33, Tryd.ntmps33
  go_upto_region 2 with (fail)
  have hb1 := ((HB.out.setCell 0 (.int .i64 (many + 1))).alloc (.cells (cells e A cap).toArray 39)).alloc (.cells #[.int .i64 deep] 3)
  have he1 := (Blk.newAt (w := w.setCell ⟨bm, 0, none⟩ (.int .i64 (many + 1))) (n := w.heap.size) (by simp) (cells e A cap).toArray 39).alloc (.cells #[.int .i64 deep] 3)
  have hg1 := Blk.newAt (w := (w.setCell ⟨bm, 0, none⟩ (.int .i64 (many + 1))).alloc (.cells (cells e A cap).toArray 39)) (n := w.heap.size + 1) (by simp) #[.int .i64 deep] 3
  have hw1 := (((Ext.refl (· = bm) w).setCell ⟨bm, 0, none⟩ (.int .i64 (many + 1)) (fun _ => rfl)).alloc (.cells (cells e A cap).toArray 39)).alloc (.cells #[.int .i64 deep] 3)
  simp only [cells] at hb1 he1 hg1 hw1
  generalize ((w.setCell ⟨bm, 0, none⟩ (.int .i64 (many + 1))).alloc _).alloc _ = w1 at hb1 he1 hg1 hw1 ⊢
  have d0 := hb1.cell 0; have d1 := hg1.cell 0; have d2 := he1.cell
  have HB1 := Lib.hid hb1; have HE1 := Lib.hid he1; have HG1 := Lib.hid hg1; have HW1 := Lib.hid hw1; clear hb1 he1 hg1 hw1 HB
  simp at d0 d1
  by_cases hA1 : 200 < many + 1
  · go_wp2_with fail
    go_ret
    exact ⟨by rw [walkF_eq, if_pos (.inl hA1)]; rfl, HW1.out, by rw [walkF_eq, if_pos (.inl hA1)]; exact HB1.out⟩
  by_cases hA2 : 20 < deep
  · go_wp2_with fail
    go_ret
    exact ⟨by rw [walkF_eq, if_pos (.inr (.inl hA2))]; rfl, HW1.out, by rw [walkF_eq, if_pos (.inr (.inl hA2))]; exact HB1.out⟩
  have e0 := d2 0; have e1 := d2 1; have e2 := d2 2; have e3 := d2 3; have e4 := d2 4; have e5 := d2 5; have e6 := d2 6; have e7 := d2 7; have e8 := d2 8
  clear d2
  simp at e0 e1 e2 e3 e4 e5 e6 e7 e8
  have lt1 := HE1.out.lt
  have hO := expr_own e.op e.kind e.num e.vs e.rel e.col e.n e.s A e.l.length cap w1
  by_cases hA3 : nodeOwn e = false
  · have hO3 : ownF e.op e.kind e.num e.vs e.rel e.col e.n e.s e.l.length = false := hA3
    rw [hO3] at hO
    have HO := Lib.hid hO; have HA3 := Lib.hid hA3; clear hO hO3 hA3
    go_wp2_with (go_at_call 34; refine HO.out.mono ?_; rintro r w2 ⟨rfl, hg2⟩; have HG2 := Lib.hid hg2; clear hg2)
    go_ret
    have hA3 := HA3.out
    exact ⟨by rw [walkF_eq, if_pos (.inr (.inr hA3))]; rfl, HW1.out.then_ HG2.out, by rw [walkF_eq, if_pos (.inr (.inr hA3))]; exact HB1.out.ext HG2.out id⟩
  · have hA4 : nodeOwn e = true := by simpa using hA3
    have hO3 : ownF e.op e.kind e.num e.vs e.rel e.col e.n e.s e.l.length = true := hA4
    rw [hO3] at hO
    have HO := Lib.hid hO; have HA4 := Lib.hid hA4; clear hO hO3 hA3 hA4
    go_wp2_with (go_at_call 34; refine HO.out.mono ?_; rintro r w2 ⟨rfl, hg2⟩; obtain ⟨r1, r2⟩ := hg2.rules; have HG2 := Lib.hid hg2; clear hg2)
    have hx2 : Ext (· = bm) w0 w2 := (HX.out.same HW1.out).then_ HG2.out
    have hb2 : Blk w2 bm #[.int .i64 (many + 1)] 3 := HB1.out.ext HG2.out id
    have hg2 : Blk w2 (w.heap.size + 1) #[.int .i64 deep] 3 := HG1.out.ext HG2.out id
    have hbw2 : Blk w2 bw #[walkFn bm bw] 71 := hbw.ext hx2 hmw
    have hlw : w.heap.size + 1 < w2.heap.size := hg2.lt
    have hlw0 : w0.heap.size ≤ w.heap.size := HX.out.size
    refine (slices_ContainsFunc 36 #[.pointer (some ⟨bw, 0, none⟩), .pointer (some ⟨w.heap.size + 1, 0, none⟩)] A e.l.length cap css
      (fun i w' => (walkL (e.l.take i) (deep + 1) (many + 1)).1 = true ∧ Ext (· = bm) w2 w' ∧ Blk w' bm #[.int .i64 (walkL (e.l.take i) (deep + 1) (many + 1)).2] 3)
      (fun w' => (walkL e.l (deep + 1) (many + 1)).1 = false ∧ Ext (· = bm) w2 w' ∧ Blk w' bm #[.int .i64 (walkL e.l (deep + 1) (many + 1)).2] 3)
      w2 (Nat.le_trans hcap hmax) (fun _ _ => by kernel_rfl) ⟨by simp [walkL], Ext.refl _ _, by simpa [walkL] using hb2⟩ ?_ ?_).mono ?_
    · rintro i w3 hi ⟨_, hx3, _⟩
      obtain ⟨b, off, rfl, hok, hc⟩ := HA.out (by omega)
      exact ⟨(HL.out i hi).length, b, off, rfl, fun j v hv => (hx2.same hx3).cell (hc i hi j v hv) (fun h => hm (h ▸ hok))⟩
    · rintro i w3 hi ⟨ht, hx3, hb3⟩
      have hm3 := walkL_many (e.l.take i) (deep + 1) (many + 1) (by omega) (by omega)
      have hIH := IH.out i hi (deep + 1) (walkL (e.l.take i) (deep + 1) (many + 1)).2 (w3.alloc (.cells (css i).toArray 39)) (by omega) (by omega) hm3.1 (hm3.2.2 ht) ((hx2.same hx3).alloc _) (hb3.alloc _)
      have htake : e.l.take (i + 1) = e.l.take i ++ [e.l[i]] := List.take_succ_eq_append_getElem hi
      have happ := walkL_append (e.l.take i) e.l[i] (deep + 1) (many + 1)
      rw [← htake, if_pos ht] at happ
      refine expr_Right11 (css i) (HL.out i hi).length (HL.out i hi).oneCell deep bm bw (w.heap.size + 1) w3 _ hd0 (by omega) (hbw2.ext hx3 hmw) (hg2.ext hx3 (fun h => by have := HX.out.size; omega)) (hIH.mono ?_)
      rintro r w4 ⟨rfl, hx4, hb4⟩
      refine ⟨_, rfl, ?_⟩
      have hx5 : Ext (· = bm) w2 w4 := (hx3.alloc _).same hx4
      cases hr : (walkF e.l[i] (deep + 1) (walkL (e.l.take i) (deep + 1) (many + 1)).2).1 with
      | true => exact .inl ⟨rfl, by rw [happ]; exact hr, hx5, by rw [happ]; exact hb4⟩
      | false =>
        have hfull : walkL e.l (deep + 1) (many + 1) = walkF e.l[i] (deep + 1) (walkL (e.l.take i) (deep + 1) (many + 1)).2 := by
          have h := walkL_false (e.l.take (i + 1)) (e.l.drop (i + 1)) (deep + 1) (many + 1) (by rw [happ]; exact hr)
          rw [List.take_append_drop] at h
          rw [h, happ]
        exact .inr ⟨rfl, by rw [hfull]; exact hr, hx5, by rw [hfull]; exact hb4⟩
    · have hw5 : Ext (· = bm) w w2 := HW1.out.then_ HG2.out
      have hF : walkF e deep many = walkL e.l (deep + 1) (many + 1) := by rw [walkF_eq, if_neg (by have := HA4.out; simp [this]; omega)]
      rintro r w3 (⟨rfl, ht, hx3, hb3⟩ | ⟨rfl, ht, hx3, hb3⟩)
      · rw [List.take_length] at ht hb3
        have HT := Lib.hid ht; have HF := Lib.hid hF; clear ht hF
        go_wp2_with fail
        go_ret
        exact ⟨by rw [HF.out, HT.out]; rfl, hw5.same hx3, by rw [HF.out]; exact hb3⟩
      · have HT := Lib.hid ht; have HF := Lib.hid hF; clear ht hF
        go_wp2_with fail
        go_ret
        exact ⟨by rw [HF.out, HT.out]; rfl, hw5.same hx3, by rw [HF.out]; exact hb3⟩

theorem Rep.old {w : World} {ok : Nat → Prop} {e : Ex} {cs : List Value} (h : Rep w ok e cs) : Rep w (fun b => ok b ∧ b < w.heap.size) e cs := h.mono fun _ hb hl => ⟨⟨hb, hl⟩, rfl⟩

theorem expr_Right (ok : Nat → Prop) (e : Ex) (cs : List Value) (w : World) (h : Rep w ok e cs) :
    Calls Tryd.prog 14 #[.agg cs.toArray] w fun r w' => r = .returned (.bool (rightF e)) ∧ Gro w w' := by
  have hlen := h.length
  have h1 := h.oneCell
  have HR := Lib.hid h.old; clear h
  obtain ⟨a, b, c, d, p, f, g, x, i, rfl⟩ := list9 cs hlen
  clear hlen h1
  go_enter Tryd.func14, Tryd.ntmps14
  go_wp2_with fail
  have hW := (((Ext.refl (fun _ => False) w).alloc (.cells #[a, b, c, d, p, f, g, x, i] 39)).alloc (.cells #[.int .i64 0] 3)).alloc (.cells #[walkFn (w.heap.size + 1) (w.heap.size + 1 + 1)] 71)
  have hb1 := (Blk.newAt (w := w.alloc (.cells #[a, b, c, d, p, f, g, x, i] 39)) (n := w.heap.size + 1) (by simp) #[.int .i64 0] 3).alloc (.cells #[walkFn (w.heap.size + 1) (w.heap.size + 1 + 1)] 71)
  have hb2 := Blk.newAt (w := (w.alloc (.cells #[a, b, c, d, p, f, g, x, i] 39)).alloc (.cells #[.int .i64 0] 3)) (n := w.heap.size + 1 + 1) (by simp) #[walkFn (w.heap.size + 1) (w.heap.size + 1 + 1)] 71
  refine (expr_Right1 _ _ (w.heap.size + 1) (w.heap.size + 1 + 1) (fun h => by have := h.2; omega) (by omega) hb2 e _ (HR.out.gro hW) 1 0 _ (by omega) (by omega) (by omega) (by omega) (Ext.refl _ _) hb1).mono ?_
  rintro r w' ⟨rfl, hx, _⟩
  have HX := Lib.hid (hW.trans hx (fun i hi he => by omega)); clear hx hW hb1 hb2
  go_wp2_with fail
  go_ret
  exact ⟨rfl, HX.out⟩
end Go.Proofs.YtgikebkgihcogaaDoor
