/- Walks: expr.some, whatever the function does; expr.Tables. -/
import Derived.Test.YtgikebkgihcogaaDoorW3
namespace Go.Proofs.YtgikebkgihcogaaDoor
open Go.RowKit
set_option maxHeartbeats 400000

mutual
/-- An expression's parts, itself first. -/
def preF : Ex → List Ex
  | .mk a b c d e f g h l => .mk a b c d e f g h l :: preL l
def preL : List Ex → List Ex
  | [] => []
  | x :: xs => preF x ++ preL xs
end
theorem preF_eq (e : Ex) : preF e = e :: preL e.l := by cases e; rw [preF]; rfl
theorem preL_append (l r : List Ex) : preL (l ++ r) = preL l ++ preL r := by
  induction l with
  | nil => simp [preL]
  | cons x l ih => simp [preL, ih]
theorem preL_snoc (l : List Ex) (x : Ex) : preL (l ++ [x]) = preL l ++ preF x := by rw [preL_append]; simp [preL]

theorem expr_some1 (cs : List Value) (hcs : cs.length = 9) (f : Value) (hf : ∃ g cb, f = .func (.func g) #[] cb) (gf : Nat) (w : World) (J K : World → Prop) (hg : Blk w gf #[f] 42)
    (hcall : Calls Tryd.prog 45 #[.agg cs.toArray, f] (w.alloc (.cells cs.toArray 39)) (StepPost J K)) :
    Calls Tryd.prog 62 (#[.agg cs.toArray] ++ #[.pointer (some ⟨gf, 0, none⟩)]) w (StepPost J K) := by
  obtain ⟨a, b, c, d, e, p, q, h, i, rfl⟩ := list9 cs hcs
  obtain ⟨g, cb, rfl⟩ := hf
  have c1 := hg.cell 0
  have l1 := hg.lt
  simp at c1
  have HC := Lib.hid hcall; clear hcall hg
  go_enter Tryd.func62, Tryd.ntmps62
  go_wp2_with fail
  refine HC.out.mono ?_
  rintro e w1 (⟨rfl, hj⟩ | ⟨rfl, hj⟩)
  · go_wp2_with fail
    go_ret
    exact .inl ⟨rfl, hj⟩
  · go_wp2_with fail
    go_ret
    exact .inr ⟨rfl, hj⟩

theorem expr_some (g : Nat) (cb : Array Value) (w0 : World) (ok S : Nat → Prop) (hok : ∀ b, ok b → ¬ S b) (hS : ∀ b, S b → b < w0.heap.size) (J : List Ex → World → Prop) (K : World → Prop) (Pr : Ex → Prop) (hPr : ∀ x, Pr x → ∀ y ∈ x.l, Pr y)
    (eg : ∀ args w, (callFunc g args).run Tryd.prog w = .ok (.enter g args) w)
    (hJG : ∀ seen w w', J seen w → Gro w w' → J seen w')
    (hcall : ∀ seen x cs w, Ext S w0 w → Pr x → Rep w ok x cs → J seen w → Calls Tryd.prog g (#[.agg cs.toArray] ++ cb) w (StepPost (fun w' => J (seen ++ [x]) w' ∧ Ext S w w') (fun w' => K w' ∧ Ext S w w')))
    (e : Ex) (cs : List Value) (h : Rep w0 ok e cs) : ∀ (seen : List Ex) (w : World), Pr e → Ext S w0 w → J seen w →
      Calls Tryd.prog 45 #[.agg cs.toArray, .func (.func g) #[] cb] w (StepPost (fun w' => J (seen ++ preF e) w' ∧ Ext S w w') (fun w' => K w' ∧ Ext S w w')) := by
  induction h with
  | mk e A cap css hcap hmax h1 h2 h3 h4 h5 h6 h7 h8 hA hl ih =>
  intro seen w hpr hx hj
  have hrep : Rep w0 ok e (cells e A cap) := .mk e A cap css hcap hmax h1 h2 h3 h4 h5 h6 h7 h8 hA hl
  have IH := Lib.hid ih; have HL := Lib.hid hl; have HA := Lib.hid hA; have HX := Lib.hid hx; have HJ := Lib.hid hj; have HREP := Lib.hid hrep
  have HC := Lib.hid hcall; have HJG := Lib.hid hJG
  clear ih hl hA hx hj hrep hcall hJG
  simp only [cells]
  go_enter Tryd.func45, Tryd.ntmps45
  go_upto_region 1 with (fail)
  have hw1 := ((Ext.refl (fun _ => False) w).alloc (.cells (cells e A cap).toArray 39)).alloc (.cells #[.func (.func g) #[] cb] 42)
  have he1 := (Blk.newAt (w := w) (n := w.heap.size) rfl (cells e A cap).toArray 39).alloc (.cells #[.func (.func g) #[] cb] 42)
  have hf1 := Blk.newAt (w := w.alloc (.cells (cells e A cap).toArray 39)) (n := w.heap.size + 1) (by simp) #[.func (.func g) #[] cb] 42
  simp only [cells] at hw1 he1 hf1
  generalize (w.alloc _).alloc _ = w1 at hw1 he1 hf1 ⊢
  have e0 := he1.cell 0; have e1 := he1.cell 1; have e2 := he1.cell 2; have e3 := he1.cell 3; have e4 := he1.cell 4; have e5 := he1.cell 5; have e6 := he1.cell 6; have e7 := he1.cell 7; have e8 := he1.cell 8
  have f0 := hf1.cell 0
  simp at e0 e1 e2 e3 e4 e5 e6 e7 e8 f0
  have hx1 : Ext S w0 w1 := HX.out.then_ hw1
  have hcall1 := HC.out seen e _ w1 hx1 hpr (HREP.out.ext hx1 (fun b hb _ => hok b hb)) (HJ.out |> fun h => HJG.out seen w w1 h hw1)
  have HC1 := Lib.hid hcall1; have HW1 := Lib.hid hw1; have HE1 := Lib.hid he1; have HF1 := Lib.hid hf1; have HX1 := Lib.hid hx1
  clear hcall1 hw1 he1 hf1 hx1
  simp only [cells] at HC1
  go_wp2_with fail
  refine HC1.out.mono ?_
  rintro r w2 (⟨rfl, hj2, hx2⟩ | ⟨rfl, hk2, hx2⟩)
  · have he2 := HE1.out.ext hx2 (fun h => by have := hS _ h; have := HX.out.size; omega)
    have e8' := he2.cell 8
    simp at e8'
    clear e0 e1 e2 e3 e4 e5 e6 e7 e8 f0
    have HX2 := Lib.hid hx2; have HJ2 := Lib.hid hj2; clear hx2 hj2 he2
    go_wp2_with fail
    have hf2 : Blk w2 (w.heap.size + 1) #[.func (.func g) #[] cb] 42 := HF1.out.ext HX2.out (fun h => by have := hS _ h; have := HX.out.size; omega)
    have hx02 : Ext S w0 w2 := HX1.out.same HX2.out
    refine (slices_ContainsFunc 62 #[.pointer (some ⟨w.heap.size + 1, 0, none⟩)] A e.l.length cap css
      (fun i w' => J (seen ++ [e] ++ preL (e.l.take i)) w' ∧ Ext S w2 w') (fun w' => K w' ∧ Ext S w2 w') w2 (Nat.le_trans hcap hmax) (fun _ _ => by kernel_rfl)
      ⟨by simpa [preL] using HJ2.out, Ext.refl _ _⟩ ?_ ?_).mono ?_
    · rintro i w3 hi ⟨_, hx3⟩
      obtain ⟨b, off, rfl, hok', hc⟩ := HA.out (by omega)
      exact ⟨(HL.out i hi).length, b, off, rfl, fun j v hv => (hx02.same hx3).cell (hc i hi j v hv) (hok b hok')⟩
    · rintro i w3 hi ⟨hj3, hx3⟩
      have hg3 : Gro w3 (w3.alloc (.cells (css i).toArray 39)) := (Ext.refl _ _).alloc _
      have hIH := IH.out i hi (seen ++ [e] ++ preL (e.l.take i)) (w3.alloc (.cells (css i).toArray 39)) (hPr e hpr _ (List.getElem_mem hi)) ((hx02.same hx3).then_ hg3) (HJG.out _ _ _ hj3 hg3)
      have htake : e.l.take (i + 1) = e.l.take i ++ [e.l[i]] := List.take_succ_eq_append_getElem hi
      have hF : seen ++ [e] ++ preL (e.l.take (i + 1)) = seen ++ [e] ++ preL (e.l.take i) ++ preF e.l[i] := by rw [htake, preL_snoc, List.append_assoc, List.append_assoc, List.append_assoc]
      refine expr_some1 (css i) (HL.out i hi).length _ ⟨g, cb, rfl⟩ (w.heap.size + 1) w3 _ _ (hf2.ext hx3 (fun h => by have := hS _ h; have := HX.out.size; omega)) (hIH.mono ?_)
      rintro r w4 (⟨rfl, hj4, hx4⟩ | ⟨rfl, hk4, hx4⟩)
      · exact .inl ⟨rfl, by rw [hF]; exact hj4, (hx3.then_ hg3).same hx4⟩
      · exact .inr ⟨rfl, hk4, (hx3.then_ hg3).same hx4⟩
    · have hfull : seen ++ [e] ++ preL (e.l.take e.l.length) = seen ++ preF e := by rw [List.take_length, preF_eq]; simp
      have hww : Ext S w w2 := (HW1.out.mono (fun _ _ h => h.elim)).same HX2.out
      rintro r w3 (⟨rfl, hj3, hx3⟩ | ⟨rfl, hk3, hx3⟩)
      · rw [hfull] at hj3
        go_wp2_with fail
        go_ret
        exact .inl ⟨rfl, hj3, hww.same hx3⟩
      · go_wp2_with fail
        go_ret
        exact .inr ⟨rfl, hk3, hww.same hx3⟩
  · have HX2 := Lib.hid hx2; have HK2 := Lib.hid hk2; clear hx2 hk2
    clear e0 e1 e2 e3 e4 e5 e6 e7 e8 f0
    go_wp2_with fail
    go_ret
    exact .inr ⟨rfl, HK2.out, (HW1.out.mono (fun _ _ h => h.elim)).same HX2.out⟩

/-- All parts' own fields are right. -/
def OwnAll (e : Ex) : Prop := ∀ y ∈ preF e, nodeOwn y = true
theorem OwnAll.sub {e : Ex} (h : OwnAll e) : ∀ y ∈ e.l, OwnAll y := by
  intro y hy z hz
  refine h z ?_
  rw [preF_eq]
  refine List.mem_cons_of_mem _ ?_
  have : ∀ l : List Ex, y ∈ l → z ∈ preL l := by
    intro l hl
    induction l with
    | nil => cases hl
    | cons x l ih =>
      rw [preL, List.mem_append]
      rcases List.mem_cons.1 hl with rfl | h
      · exact .inl hz
      · exact .inr (ih h)
  exact this _ hy
theorem OwnAll.self {e : Ex} (h : OwnAll e) : nodeOwn e = true := h e (by rw [preF_eq]; exact List.mem_cons_self)
theorem walk_own (e : Ex) : ∀ (deep many : Int), (walkF e deep many).1 = true → OwnAll e := by
  refine Ex.rec (motive_1 := fun e => ∀ (deep many : Int), (walkF e deep many).1 = true → OwnAll e)
    (motive_2 := fun l => ∀ (deep many : Int), (walkL l deep many).1 = true → ∀ y ∈ preL l, nodeOwn y = true) ?_ ?_ ?_ e
  · intro op kind num vs rel col n s l ih deep many h
    rw [walkF] at h
    split at h
    · simp at h
    · rename_i hc
      intro y hy
      rw [preF] at hy
      rcases List.mem_cons.1 hy with rfl | hy
      · simp only [not_or, Bool.not_eq_false] at hc; exact hc.2.2
      · exact ih _ _ h y hy
  · intro deep many _ y hy; cases hy
  · intro x l ihx ihl deep many h y hy
    rw [walkL] at h
    split at h
    · rename_i hx
      rw [preL, List.mem_append] at hy
      rcases hy with hy | hy
      · exact ihx _ _ hx y hy
      · exact ihl _ _ h y hy
    · simp at h
theorem right_own {e : Ex} (h : rightF e = true) : OwnAll e := walk_own e _ _ h
theorem own_ref {e : Ex} (h : nodeOwn e = true) (ho : e.op = 2) : 0 ≤ e.rel ∧ e.rel ≤ 15 ∧ 0 ≤ e.col ∧ e.col < 6 := by
  unfold nodeOwn ownF at h
  rw [ho] at h
  simp at h
  obtain ⟨_, _, ⟨⟨⟨⟨a, b⟩, c, d⟩, _⟩, _⟩⟩ := h
  exact ⟨a, b, c, d⟩

/-- Which tables some parts refer to: a number of bits. -/
def tabL (l : List Ex) : Nat := l.foldl (fun m x => if x.op = 2 then m ||| 2 ^ x.rel.toNat else m) 0
theorem tabL_snoc (l : List Ex) (x : Ex) : tabL (l ++ [x]) = if x.op = 2 then tabL l ||| 2 ^ x.rel.toNat else tabL l := by simp [tabL, List.foldl_append]
theorem tabL_lt (l : List Ex) (h : ∀ x ∈ l, nodeOwn x = true) : tabL l < 2 ^ 16 := by
  have : ∀ (l : List Ex), (∀ x ∈ l, nodeOwn x = true) → ∀ m, m < 2 ^ 16 → l.foldl (fun m x => if x.op = 2 then m ||| 2 ^ x.rel.toNat else m) m < 2 ^ 16 := by
    intro l
    induction l with
    | nil => intro _ m hm; exact hm
    | cons x l ih =>
      intro h m hm
      refine ih (fun y hy => h y (List.mem_cons_of_mem _ hy)) _ ?_
      dsimp only
      split
      · rename_i ho
        have hr := own_ref (h x List.mem_cons_self) ho
        exact Nat.or_lt_two_pow hm (Nat.pow_lt_pow_right (by decide) (by omega))
      · exact hm
  exact this l h 0 (by decide)
theorem bits_or_i64 (m r : Nat) (hm : m < 2 ^ 16) (hr : r ≤ 15) : bits .or .i64 (m : Int) (wrap64 (2 ^ r)) = ((m ||| 2 ^ r : Nat) : Int) := by
  have h1 : (2 : Nat) ^ r < 2 ^ 16 := Nat.pow_lt_pow_right (by decide) (by omega)
  have hw : wrap64 (2 ^ r) = ((2 ^ r : Nat) : Int) := by
    have : ((2 : Int) ^ r) = ((2 ^ r : Nat) : Int) := by simp
    rw [this]; generalize (2 : Nat) ^ r = q at h1; unfold wrap64; omega
  rw [hw]
  refine (bits_nat .i64 62 (by decide) (fun n h0 hn => by rw [IntKind.wrap_i64]; omega) m (2 ^ r) (by omega) (by omega)).2

theorem expr_Tables1 (e : Ex) (ok : Nat → Prop) (cs : List Value) (bs : Nat) (set : Nat) (w : World) (h : Rep w ok e cs) (hs : Blk w bs #[.int .i64 set] 3) (hset : set < 2 ^ 16) (hr : nodeOwn e = true) :
    Calls Tryd.prog 46 (#[.agg cs.toArray] ++ #[.pointer (some ⟨bs, 0, none⟩)]) w fun r w' => r = .returned (.bool false) ∧ Ext (· = bs) w w' ∧
      Blk w' bs #[.int .i64 ((if e.op = 2 then set ||| 2 ^ e.rel.toNat else set : Nat) : Int)] 3 := by
  cases h with
  | mk A cap css hcap hmax h1 h2 h3 h4 h5 h6 h7 h8 hA hl =>
  have c1 := hs.cell 0; have z1 := hs.thaw 0; have l1 := hs.lt
  simp at c1
  have HB := Lib.hid hs
  clear hA hl hs
  simp only [cells]
  go_enter Tryd.func46, Tryd.ntmps46
  by_cases ho : e.op = 2
  · have hrr := own_ref hr ho
    obtain ⟨hr0, hr1, _, _⟩ := hrr
    have hbits := bits_or_i64 set e.rel.toNat hset (by omega)
    rw [if_pos ho]
    have HBITS := Lib.hid hbits; clear hbits hset
    have ho' : (e.op == 2) = true := by simp [ho]
    have HO := Lib.hid ho; clear ho
    go_wp2_with fail
    go_region
    go_wp2_with fail
    go_ret
    rw [HBITS.out]
    exact ⟨rfl, (((Ext.refl (· = bs) w).setCell ⟨bs, 0, none⟩ _ (fun _ => rfl)).alloc _).drew, ((HB.out.setCell 0 _).alloc _).ext (Ext.refl (fun _ => False) _).drew id⟩
  · rw [if_neg ho]
    have ho' : (e.op == 2) = false := by simp [ho]
    have HO := Lib.hid ho; clear ho hset
    go_wp2_with fail
    go_ret
    exact ⟨rfl, (Ext.refl _ _).alloc _, HB.out.alloc _⟩

def tablesF (e : Ex) : Nat := if rightF e = true then tabL (preF e) else 0

theorem expr_Tables (ok : Nat → Prop) (e : Ex) (cs : List Value) (w : World) (h : Rep w ok e cs) :
    Calls Tryd.prog 18 #[.agg cs.toArray] w fun r w' => r = .returned (.int .i64 (tablesF e : Nat)) ∧ Gro w w' := by
  have hlen := h.length
  have HR := Lib.hid h.old; clear h
  obtain ⟨a, b, c, d, p, f, g, x, i, rfl⟩ := list9 cs hlen
  clear hlen
  go_enter Tryd.func18, Tryd.ntmps18
  go_upto_region 2 with (fail)
  have hW := ((Ext.refl (fun _ => False) w).alloc (.cells #[a, b, c, d, p, f, g, x, i] 39)).alloc (.cells #[.int .i64 0] 3)
  have hb1 := (Blk.newAt (w := w) (n := w.heap.size) rfl #[a, b, c, d, p, f, g, x, i] 39).alloc (.cells #[.int .i64 0] 3)
  have hb2 := Blk.newAt (w := w.alloc (.cells #[a, b, c, d, p, f, g, x, i] 39)) (n := w.heap.size + 1) (by simp) #[.int .i64 0] 3
  generalize (w.alloc _).alloc _ = w1 at hW hb1 hb2 ⊢
  have e0 := hb1.cell 0; have e1 := hb1.cell 1; have e2 := hb1.cell 2; have e3 := hb1.cell 3; have e4 := hb1.cell 4; have e5 := hb1.cell 5; have e6 := hb1.cell 6; have e7 := hb1.cell 7; have e8 := hb1.cell 8
  have f0 := hb2.cell 0
  simp at e0 e1 e2 e3 e4 e5 e6 e7 e8 f0
  have l1 := hb1.lt; have l2 := hb2.lt
  have hR := expr_Right _ e _ w1 (HR.out.gro hW)
  have HB1 := Lib.hid hb1; have HB2 := Lib.hid hb2; have HW := Lib.hid hW; clear hb1 hb2 hW
  by_cases hr : rightF e = true
  · rw [hr] at hR
    have HRR := Lib.hid hR; have HRF := Lib.hid hr; clear hR hr
    go_wp2_with (go_at_call 14; refine HRR.out.mono ?_; rintro r w2 ⟨rfl, hg2⟩; obtain ⟨r1, r2⟩ := hg2.rules; have HG2 := Lib.hid hg2; clear hg2)
    have hx2 : Gro w w2 := HW.out.same HG2.out
    have hf2 : Blk w2 (w.heap.size + 1) #[.int .i64 0] 3 := HB2.out.ext HG2.out id
    refine (expr_some 46 #[.pointer (some ⟨w.heap.size + 1, 0, none⟩)] w2 _ (· = w.heap.size + 1) (fun b h e => by have := h.2; omega) (fun b h => by have := hf2.lt; omega)
      (fun seen w' => (∀ y ∈ seen, nodeOwn y = true) ∧ Blk w' (w.heap.size + 1) #[.int .i64 (tabL seen : Nat)] 3) (fun _ => False) OwnAll (fun _ h => h.sub) (fun _ _ => by kernel_rfl)
      (fun _ _ _ hj hg => ⟨hj.1, hj.2.ext hg id⟩) ?_ e _ (HR.out.gro hx2) [] w2 (right_own HRF.out) (Ext.refl _ _) ⟨(by simp), hf2⟩).mono ?_
    · intro seen x cs w3 hx3 hp hrep hj
      refine (expr_Tables1 x _ cs _ (tabL seen) w3 hrep hj.2 (tabL_lt seen hj.1) hp.self).mono ?_
      rintro r w4 ⟨rfl, hx4, hb4⟩
      refine .inl ⟨rfl, ⟨?_, ?_⟩, hx4⟩
      · intro y hy
        rcases List.mem_append.1 hy with h | h
        · exact hj.1 y h
        · rw [List.mem_singleton.1 h]; exact hp.self
      · rw [tabL_snoc]; exact hb4
    · rintro r w3 (⟨rfl, ⟨_, hb3⟩, hx3⟩ | ⟨rfl, hf, _⟩)
      · have c3 := hb3.cell 0
        simp at c3
        have HX3 := Lib.hid hx3; clear hx3 hb3 r1 r2 e0 e1 e2 e3 e4 e5 e6 e7 e8 f0
        go_wp2_with fail
        go_ret
        refine ⟨?_, hx2.trans HX3.out (fun i hi he => by omega)⟩
        rw [tablesF, if_pos HRF.out]; rfl
      · exact hf.elim
  · have hr' : rightF e = false := by simpa using hr
    rw [hr'] at hR
    have HRR := Lib.hid hR; have HRF := Lib.hid hr; clear hR hr hr'
    go_wp2_with (go_at_call 14; refine HRR.out.mono ?_; rintro r w2 ⟨rfl, hg2⟩; obtain ⟨r1, r2⟩ := hg2.rules; have HG2 := Lib.hid hg2; clear hg2)
    go_ret
    refine ⟨?_, HW.out.same HG2.out⟩
    rw [tablesF, if_neg HRF.out]; rfl
end Go.Proofs.YtgikebkgihcogaaDoor
