/- Walks: sign.normal, Normal. -/
import Derived.Test.YtgikebkgihcogaaDoorW11
import Derived.Maps.OwnOps
namespace Go.Proofs.YtgikebkgihcogaaDoor
open Go.RowKit
set_option maxHeartbeats 1000000

theorem size_expr {cs : List Value} (h : cs.length = 9) : (Tryd.prog.info? 39).map (·.size) = some cs.toArray.size := by
  rw [List.size_toArray, h]; kernel_rfl
theorem all_one {cs : List Value} (h : ∀ v ∈ cs, v.oneCell' = true) : cs.toArray.all (·.oneCell') = true := by simpa using h

/-- A function value that makes an expression out of another: boxes it, calls, hands the answer on out of a variable. -/
theorem sign_normal1 (cs : List Value) (hcs : cs.length = 9) (h1 : ∀ v ∈ cs, v.oneCell' = true) (r gm : Nat) (w : World) (y : Ex) (hg : Blk w gm #[.map (some r)] 69)
    (hcall : ∀ W, Gro w W → W.heap.size = w.heap.size + 2 → Calls Tryd.prog 31 #[.agg cs.toArray, .map (some r)] W (ExPost W y)) :
    Calls Tryd.prog 54 (#[.agg cs.toArray] ++ #[.pointer (some ⟨gm, 0, none⟩)]) w (ExPost w y) := by
  obtain ⟨a, b, c, d, p, f, g, x, i, rfl⟩ := list9 cs hcs
  have c1 := hg.cell 0
  have l1 := hg.lt
  simp at c1
  have HC := Lib.hid hcall; clear hcall hg
  go_enter Tryd.func54, Tryd.ntmps54
  go_wp2_with fail
  have hg1 : Gro w (w.alloc (.cells #[a, b, c, d, p, f, g, x, i] 39)) := (Ext.refl _ _).alloc _
  refine (HC.out _ (hg1.alloc _) (by simp)).mono ?_
  rintro e w1 ⟨ds, rfl, hrep, hg⟩
  have hb := (Blk.newAt (w := w.alloc (.cells #[a, b, c, d, p, f, g, x, i] 39)) (n := w.heap.size + 1) (by simp) #[.int .i64 0, .int .i64 0, .int .i64 0, .string ⟨#[]⟩, .int .i64 0, .int .i64 0, .int .i64 0, .string ⟨#[]⟩, .slice none 0 0] 39).ext hg id
  have hg2 := (hg1.alloc _).same hg
  have hlen := hrep.length
  have hone := hrep.oneCell
  have HB := Lib.hid hb; have HREP := Lib.hid hrep; have HG := Lib.hid hg2; have HL := Lib.hid hlen; have HO := Lib.hid hone
  clear hb hrep hg2 hg hg1 hlen hone
  go_wp2_with (refine wpList_store_row rfl 39 (.tmp 3) (.tmp 6) rfl (w.heap.size + 1) ds.toArray rfl rfl 39 _ HB.out (size_expr HL.out) (by simp [HL.out]) (all_one HO.out) ?_)
  refine bodyPost_ret (results_cell_row (P := Tryd.prog) rfl _ _ (w.heap.size + 1) 39 ds.toArray (0, 0) _ rfl (HB.out.setRow _) Tryd.underlying39 rfl (size_expr HL.out)) rfl ?_
  refine ⟨ds, rfl, HREP.out.mono fun k hk hlt => ⟨⟨by have := hk.1; simp at this; omega, by simpa using hk.2⟩, heap_setRow_other _ _ _ _ (by have := hk.1; simp at this; omega)⟩, HG.out.setRow _ _ (fun h => by omega)⟩

theorem Made.rep {w : World} {base n cap : Nat} {A : Option Addr} {xs : List Ex} (h : Made w base (.slice A n cap) xs) : n = xs.length ∧ xs.length ≤ cap ∧ cap ≤ maxLen ∧ ∃ css, LRep w (fun b => base ≤ b ∧ b < w.heap.size) A xs css := by
  obtain ⟨A', cap', css, he, h1, h2, h3⟩ := h.lrep
  injection he with a b c
  subst a; subst c
  exact ⟨b, h1, h2, css, h3⟩
def nth (l : List Ex) (i : Nat) : Ex := l.getD i (.mk 0 0 0 ⟨#[]⟩ 0 0 0 ⟨#[]⟩ [])
def Ex.withL (e : Ex) (op : Int) (l : List Ex) : Ex := .mk op e.kind e.num e.vs e.rel e.col e.n e.s l
/-- Is one's text less than another's? -/
def lessT (x y : Ex) : Bool := Op.bytesLess (textF x).toList (textF y).toList
def turnsR (e : Ex) (l : List Ex) : Bool := turnOk e.op && (decide (turnOp e.op ≠ e.op) || lessT (nth l 1) (nth l 0))
def turnIt (e : Ex) (l : List Ex) : Ex := if turnsR e l = true then e.withL (turnOp e.op) l.reverse else e.withL e.op l
mutual
/-- A right expression, however it is written. -/
def normF : Ex → Ex
  | .mk a b c d e f g h l => turnIt (.mk a b c d e f g h l) (normL l)
def normL : List Ex → List Ex
  | [] => []
  | x :: xs => normF x :: normL xs
end
theorem normL_eq (l : List Ex) : normL l = l.map normF := by
  induction l with
  | nil => simp [normL]
  | cons x l ih => simp [normL, ih]
theorem normF_eq (e : Ex) : normF e = turnIt e (e.l.map normF) := by cases e; rw [normF, normL_eq]; rfl

theorem turnIt_yes {e : Ex} {l : List Ex} (h : turnsR e l = true) : turnIt e l = e.withL (turnOp e.op) l.reverse := by rw [turnIt, if_pos h]
theorem turnIt_no {e : Ex} {l : List Ex} (h : turnsR e l = false) : turnIt e l = e.withL e.op l := by rw [turnIt, if_neg (by simp [h])]
theorem Ex.Fits.withL {e : Ex} (h : e.Fits) (op : Int) (ho : I64 op) (l : List Ex) : (e.withL op l).Fits := ⟨ho, h.kind, h.num, h.vs, h.rel, h.col, h.n, h.s⟩
theorem turnOp_I64 {op : Int} (h : I64 op) : I64 (turnOp op) := by 
  unfold turnOp; unfold I64 at *
  repeat' split
  all_goals omega
theorem normal_end (w w1 w3 wc : World) (e x : Ex) (A : Option Addr) (cap : Nat) {n : Nat} (h1 : Gro w w1) (h13 : Ext (· = w.heap.size) w1 w3) (h3 : Gro w3 wc) (hf : x.Fits) (hM : Made wc w1.heap.size (.slice A n cap) x.l) (hlt : w.heap.size + 1 + 1 < w1.heap.size) (hx : normF e = x) :
    ExPost w (normF e) (.returned (.agg (cells x A cap).toArray)) (wc.setRow (w.heap.size + 1 + 1) (cells x A cap).toArray) := by
  obtain ⟨hn, hc, hmx, css, hL⟩ := hM.rep
  have hs1 := h13.size
  have hs3 := h3.size
  have hL' : LRep (wc.setRow (w.heap.size + 1 + 1) (cells x A cap).toArray) (fun b => w.heap.size ≤ b ∧ b < (wc.setRow (w.heap.size + 1 + 1) (cells x A cap).toArray).heap.size) A x.l css :=
    hL.mono fun b hb _ => ⟨⟨by have := hb.1; omega, by simpa using hb.2⟩, heap_setRow_other _ _ _ _ (by have := hb.1; omega)⟩
  refine ⟨_, rfl, ?_, ?_⟩
  · rw [hx]; exact Rep.of x hf hc hmx hL'
  · exact (((h1.mono (S' := (· = w.heap.size)) fun _ _ h => h.elim).same h13).then_ h3 |>.mono (S' := fun _ => False) fun i hi e => by omega).setRow _ _ (fun h => by omega)

set_option maxRecDepth 100000 in
theorem sign_normal (w0 : World) (ok : Nat → Prop) (e : Ex) (cs : List Value) (h : Rep w0 ok e cs) : ∀ (w : World) (r : Nat), Gro w0 w → Turns w r → OwnAll e → Tab w →
    Calls Tryd.prog 31 #[.agg cs.toArray, .map (some r)] w (ExPost w (normF e)) := by
  induction h with
  | mk e A cap css hcap hmax h1 h2 h3 h4 h5 h6 h7 h8 hA hl ih =>
  intro w r hx ht hown htab
  have hLR : LRep w0 ok A e.l css := ⟨hA, hl⟩
  have hll := own_len hown.self
  have hw2 := wants_le e.op
  have hfit : e.Fits := ⟨h1, h2, h3, h4, h5, h6, h7, h8⟩
  have IH := Lib.hid ih; have HLR := Lib.hid hLR; have HX := Lib.hid hx; have HT := Lib.hid ht; have HTAB := Lib.hid htab; have HFIT := Lib.hid hfit
  clear ih hA hl hx hLR ht htab hfit
  simp only [cells]
  go_enter Tryd.func31, Tryd.ntmps31
  go_upto_region 1 with (fail)
  have hE := ((Blk.newAt (w := w) (n := w.heap.size) rfl (cells e A cap).toArray 39).alloc (.cells #[.map (some r)] 69)).alloc (.cells #[.int .i64 0, .int .i64 0, .int .i64 0, .string ⟨#[]⟩, .int .i64 0, .int .i64 0, .int .i64 0, .string ⟨#[]⟩, .slice none 0 0] 39)
  have hM := (Blk.newAt (w := w.alloc (.cells (cells e A cap).toArray 39)) (n := w.heap.size + 1) (by simp) #[.map (some r)] 69).alloc (.cells #[.int .i64 0, .int .i64 0, .int .i64 0, .string ⟨#[]⟩, .int .i64 0, .int .i64 0, .int .i64 0, .string ⟨#[]⟩, .slice none 0 0] 39)
  have hRr := Blk.newAt (w := (w.alloc (.cells (cells e A cap).toArray 39)).alloc (.cells #[.map (some r)] 69)) (n := w.heap.size + 1 + 1) (by simp) #[.int .i64 0, .int .i64 0, .int .i64 0, .string ⟨#[]⟩, .int .i64 0, .int .i64 0, .int .i64 0, .string ⟨#[]⟩, .slice none 0 0] 39
  have hG := (((Ext.refl (fun _ => False) w).alloc (.cells (cells e A cap).toArray 39)).alloc (.cells #[.map (some r)] 69)).alloc (.cells #[.int .i64 0, .int .i64 0, .int .i64 0, .string ⟨#[]⟩, .int .i64 0, .int .i64 0, .int .i64 0, .string ⟨#[]⟩, .slice none 0 0] 39)
  have hsz : (((w.alloc (.cells (cells e A cap).toArray 39)).alloc (.cells #[.map (some r)] 69)).alloc (.cells #[.int .i64 0, .int .i64 0, .int .i64 0, .string ⟨#[]⟩, .int .i64 0, .int .i64 0, .int .i64 0, .string ⟨#[]⟩, .slice none 0 0] 39)).heap.size = w.heap.size + 3 := by simp
  simp only [cells] at hE hM hRr hG hsz
  generalize ((w.alloc _).alloc _).alloc _ = w1 at hE hM hRr hG hsz ⊢
  have e8 := hE.cell 8; have z8 := hE.thaw 8
  simp at e8
  have lt1 : w.heap.size < w1.heap.size := by omega
  have HE := Lib.hid hE; have HM := Lib.hid hM; have HR := Lib.hid hRr; have HG := Lib.hid hG
  clear hE hM hRr hG
  have hEach := sign_each 54 #[.pointer (some ⟨w.heap.size + 1, 0, none⟩)] (fun _ _ => by kernel_rfl) normF w1 ok A cap e.l css (HLR.out.gro (HX.out.same HG.out)) (by omega) (by
    intro j hj w2 hg2
    refine sign_normal1 (css j) (HLR.out.hl j hj).length (HLR.out.hl j hj).oneCell r (w.heap.size + 1) w2 _ (HM.out.ext hg2 id) ?_
    intro W hgW _
    have hg := (HG.out.same hg2).same hgW
    exact IH.out j hj W r (HX.out.same hg) (HT.out.ext hg id) (hown.sub _ (List.getElem_mem hj)) (HTAB.out.gro hg))
  have HEACH := Lib.hid hEach; clear hEach
  go_upto_region 2 with (go_at_call 38; refine HEACH.out.mono ?_; rintro rr w2 ⟨v, rfl, hM2, hg2⟩; obtain ⟨r1, r2⟩ := hg2.rules; obtain ⟨A2, cap2, css2, rfl, hcap2, hmax2, hL2⟩ := hM2.lrep; have HL2 := Lib.hid hL2; clear hL2; have HM2 := Lib.hid hM2; have HG2 := Lib.hid hg2; clear hM2 hg2)
  have hE3 := (HE.out.ext HG2.out id).setCell 8 (.slice A2 e.l.length cap2)
  have hx3 := (Ext.refl (· = w.heap.size) w2).setCell ⟨w.heap.size, 8, none⟩ (.slice A2 e.l.length cap2) (fun _ => rfl)
  have hR3 := (HR.out.ext HG2.out id).ext hx3 (by omega)
  have hM3 := (HM.out.ext HG2.out id).ext hx3 (by omega)
  generalize w2.setCell ⟨w.heap.size, 8, none⟩ (.slice A2 e.l.length cap2) = w3 at hE3 hx3 hR3 hM3 ⊢
  have hg13 : Ext (· = w.heap.size) w1 w3 := (HG2.out.mono (fun _ _ h => h.elim)).same hx3
  have hMade3 := HM2.out.old hx3 (fun b e => by omega)
  have hT3 : Turns w3 r := (HT.out.ext HG.out id).ext hg13 (fun e => by have := HT.out.lt; omega)
  have hTab3 : Tab w3 := (HTAB.out.gro HG.out).ext hg13 (fun e => by have := HTAB.out.lt; omega)
  clear e8 z8 r1 r2
  have e0 := hE3.cell 0; have m0 := hM3.cell 0
  have hlt3 := hE3.lt
  simp at e0 m0
  have htr := run_turn w3 r hT3 e.op
  have HE3 := Lib.hid hE3; have HR3 := Lib.hid hR3; have HX13 := Lib.hid hg13; have HMADE := Lib.hid hMade3; have HTAB3 := Lib.hid hTab3; have HTR := Lib.hid htr
  clear hE3 hx3 hR3 hM3 hg13 hMade3 hT3 hTab3 htr HE HM HM2 HL2 HTAB HT
  have hnr := normF_eq e
  go_upto_region 3 with (at_lookup; refine wpList_lookup_run rfl 69 _ _ true rfl _ _ _ rfl rfl HTR.out ?_)
  have mixed : Tryd.prog.follows .mixedOrders = true := by kernel_rfl
  clear e0 m0
  by_cases hk : turnOk e.op = true
  · rw [hk]
    go_cut [38] (fun s38 wx => s38 = .bool (turnsR e (e.l.map normF)) ∧ Gro w3 wx)
    case first =>
      have hE3 := HE3.out
      have c0 : ∀ m os, (Sort.grow (w3.drewN m) os).cell? ⟨w.heap.size, 0, none⟩ = some (.int .i64 e.op) := fun m os => (hE3.grown m os).cell 0
      have c8 : ∀ m os, (Sort.grow (w3.drewN m) os).cell? ⟨w.heap.size, 8, none⟩ = some (.slice A2 e.l.length cap2) := fun m os => (hE3.grown m os).cell 8
      clear hE3 hnr
      by_cases hne : turnOp e.op = e.op
      · have hop : e.op = 4 ∨ e.op = 6 ∨ e.op = 9 ∨ e.op = 10 ∨ e.op = 15 ∨ e.op = 16 := by
          unfold turnOk at hk
          unfold turnOp at hne
          simp only [decide_eq_true_eq] at hk
          rcases hk with h | h | h
          · rw [h] at hne; simp at hne
          · rw [h] at hne; simp at hne
          · exact h
        have hw : wantsF e.op = 2 := by unfold wantsF; rw [if_neg (by omega), if_neg (by omega), if_neg (by omega)]
        have hl2 : e.l.length = 2 := by omega
        have hlm : (e.l.map normF).length = 2 := by simp [hl2]
        obtain ⟨_, _, _, css3, hL3⟩ := HMADE.out.rep
        obtain ⟨b, off, rfl, hokb, hcells⟩ := hL3.hA (by omega)
        have h0 : 0 < (e.l.map normF).length := by omega
        have h1' : 1 < (e.l.map normF).length := by omega
        obtain ⟨B0, k0, hs0⟩ := (hL3.hl 0 h0).shape
        obtain ⟨B1, k1, hs1⟩ := (hL3.hl 1 h1').shape
        have hR0 := hL3.hl 0 h0
        have hR1 := hL3.hl 1 h1'
        have hn0 : nth (e.l.map normF) 0 = (e.l.map normF)[0] := by rw [nth, List.getD_eq_getElem?_getD, List.getElem?_eq_getElem h0]; rfl
        have hn1 : nth (e.l.map normF) 1 = (e.l.map normF)[1] := by rw [nth, List.getD_eq_getElem?_getD, List.getElem?_eq_getElem h1']; rfl
        have HT : Hid (turnsR e (e.l.map normF) = lessT (e.l.map normF)[1] (e.l.map normF)[0]) := Lib.hid (by simp only [turnsR, hk, hne, hn0, hn1]; simp)
        have hc0 : ∀ i v, (cells (e.l.map normF)[0] B0 k0)[i]? = some v → w3.cell? ⟨b, off + i, none⟩ = some v := fun i v hv => by have := hcells 0 h0 i v (by rw [hs0]; exact hv); simpa using this
        have hc1 : ∀ i v, (cells (e.l.map normF)[1] B1 k1)[i]? = some v → w3.cell? ⟨b, off + (9 + i), none⟩ = some v := fun i v hv => by have := hcells 1 h1' i v (by rw [hs1]; exact hv); rw [← Nat.add_assoc]; simpa using this
        rw [hs0] at hR0
        rw [hs1] at hR1
        generalize (e.l.map normF)[0] = x0 at hc0 hR0 HT
        generalize (e.l.map normF)[1] = x1 at hc1 hR1 HT
        have hbl : b < w3.heap.size := hokb.2
        have p0 : ∀ m os, (Sort.grow (w3.drewN m) os).cell? ⟨b, off, none⟩ = some (Value.int .i64 x0.op) := fun m os => cell_grown hbl (hc0 0 _ rfl) m os
        have p1 : ∀ m os, (Sort.grow (w3.drewN m) os).cell? ⟨b, off + 1, none⟩ = some (Value.int .i64 x0.kind) := fun m os => cell_grown hbl (hc0 1 _ rfl) m os
        have p2 : ∀ m os, (Sort.grow (w3.drewN m) os).cell? ⟨b, off + 2, none⟩ = some (Value.int .i64 x0.num) := fun m os => cell_grown hbl (hc0 2 _ rfl) m os
        have p3 : ∀ m os, (Sort.grow (w3.drewN m) os).cell? ⟨b, off + 3, none⟩ = some (Value.string x0.vs) := fun m os => cell_grown hbl (hc0 3 _ rfl) m os
        have p4 : ∀ m os, (Sort.grow (w3.drewN m) os).cell? ⟨b, off + 4, none⟩ = some (Value.int .i64 x0.rel) := fun m os => cell_grown hbl (hc0 4 _ rfl) m os
        have p5 : ∀ m os, (Sort.grow (w3.drewN m) os).cell? ⟨b, off + 5, none⟩ = some (Value.int .i64 x0.col) := fun m os => cell_grown hbl (hc0 5 _ rfl) m os
        have p6 : ∀ m os, (Sort.grow (w3.drewN m) os).cell? ⟨b, off + 6, none⟩ = some (Value.int .i64 x0.n) := fun m os => cell_grown hbl (hc0 6 _ rfl) m os
        have p7 : ∀ m os, (Sort.grow (w3.drewN m) os).cell? ⟨b, off + 7, none⟩ = some (Value.string x0.s) := fun m os => cell_grown hbl (hc0 7 _ rfl) m os
        have p8 : ∀ m os, (Sort.grow (w3.drewN m) os).cell? ⟨b, off + 8, none⟩ = some (Value.slice B0 x0.l.length k0) := fun m os => cell_grown hbl (hc0 8 _ rfl) m os
        have q0 : ∀ m os, (Sort.grow (w3.drewN m) os).cell? ⟨b, off + 9, none⟩ = some (Value.int .i64 x1.op) := fun m os => cell_grown hbl (hc1 0 _ rfl) m os
        have q1 : ∀ m os, (Sort.grow (w3.drewN m) os).cell? ⟨b, off + 10, none⟩ = some (Value.int .i64 x1.kind) := fun m os => cell_grown hbl (hc1 1 _ rfl) m os
        have q2 : ∀ m os, (Sort.grow (w3.drewN m) os).cell? ⟨b, off + 11, none⟩ = some (Value.int .i64 x1.num) := fun m os => cell_grown hbl (hc1 2 _ rfl) m os
        have q3 : ∀ m os, (Sort.grow (w3.drewN m) os).cell? ⟨b, off + 12, none⟩ = some (Value.string x1.vs) := fun m os => cell_grown hbl (hc1 3 _ rfl) m os
        have q4 : ∀ m os, (Sort.grow (w3.drewN m) os).cell? ⟨b, off + 13, none⟩ = some (Value.int .i64 x1.rel) := fun m os => cell_grown hbl (hc1 4 _ rfl) m os
        have q5 : ∀ m os, (Sort.grow (w3.drewN m) os).cell? ⟨b, off + 14, none⟩ = some (Value.int .i64 x1.col) := fun m os => cell_grown hbl (hc1 5 _ rfl) m os
        have q6 : ∀ m os, (Sort.grow (w3.drewN m) os).cell? ⟨b, off + 15, none⟩ = some (Value.int .i64 x1.n) := fun m os => cell_grown hbl (hc1 6 _ rfl) m os
        have q7 : ∀ m os, (Sort.grow (w3.drewN m) os).cell? ⟨b, off + 16, none⟩ = some (Value.string x1.s) := fun m os => cell_grown hbl (hc1 7 _ rfl) m os
        have q8 : ∀ m os, (Sort.grow (w3.drewN m) os).cell? ⟨b, off + 17, none⟩ = some (Value.slice B1 x1.l.length k1) := fun m os => cell_grown hbl (hc1 8 _ rfl) m os
        have hT0 : ∀ m os, Calls Tryd.prog 25 #[.agg (cells x0 B0 k0).toArray] (Sort.grow (w3.drewN m) os) fun e w' => e = .returned (.string (textF x0)) ∧ ∃ q os', w' = Sort.grow ((Sort.grow (w3.drewN m) os).drewN q) os' := fun m os =>
          (sign_text _ x0 _ _ (hR0.gro (Ext.of_grow w3 m os)) (HTAB3.out.gro (Ext.of_grow w3 m os))).mono fun _ _ h => ⟨h.1, h.2.grow⟩
        have hT1 : ∀ m os, Calls Tryd.prog 25 #[.agg (cells x1 B1 k1).toArray] (Sort.grow (w3.drewN m) os) fun e w' => e = .returned (.string (textF x1)) ∧ ∃ q os', w' = Sort.grow ((Sort.grow (w3.drewN m) os).drewN q) os' := fun m os =>
          (sign_text _ x1 _ _ (hR1.gro (Ext.of_grow w3 m os)) (HTAB3.out.gro (Ext.of_grow w3 m os))).mono fun _ _ h => ⟨h.1, h.2.grow⟩
        simp only [cells] at hT0 hT1
        have HT0 := Lib.hid hT0; have HT1 := Lib.hid hT1
        have hne' : (turnOp e.op != e.op) = false := by simp [hne]
        have hlt2 : (0 : Int) < (e.l.length : Int) := by omega
        have hlt3 : (1 : Int) < (e.l.length : Int) := by omega
        clear hT0 hT1 hne hc0 hc1 hs0 hs1 hR0 hR1 hn0 hn1 hcells hL3 hlm hl2 hw hop h0 h1' hokb
        refine wp_region_quiet_grown mixed (by kernel_rfl) ?_
        repeat (go_big_quiet_step (first | (go_at_call 25; with_reducible refine Calls.grown_of (HT1.out _ _)) | (go_at_call 25; with_reducible refine Calls.grown_of (HT0.out _ _))))
        refine wpQuiet_nil ?_
        intro _ hw'
        obtain ⟨⟨nq, osq⟩, hw''⟩ := hw'
        subst hw''
        go_wp2_with fail
        go_meet
        exact ⟨by rw [HT.out]; rfl, Ext.of_grow w3 nq osq⟩
      · have hne' : (turnOp e.op != e.op) = true := by simp [hne]
        have HT : Hid (turnsR e (e.l.map normF) = true) := Lib.hid (by simp [turnsR, hk, hne])
        clear hne
        refine wp_region_quiet_grown mixed (by kernel_rfl) ?_
        repeat (go_big_quiet_step (fail))
        refine wpQuiet_nil ?_
        intro _ hw'
        obtain ⟨⟨nq, osq⟩, hw''⟩ := hw'
        subst hw''
        go_wp2_with fail
        go_meet
        exact ⟨by rw [HT.out], Ext.of_grow w3 nq osq⟩
    case rest =>
      obtain ⟨rfl, hgc⟩ := hcut
      have HGC := Lib.hid hgc; clear hgc hnr
      by_cases hT : turnsR e (e.l.map normF) = true
      · rw [hT]
        have HTN := Lib.hid hT; clear hT
        have hB4 : Blk wc w.heap.size (cells (e.withL e.op (e.l.map normF)) A2 cap2).toArray 39 := by
          have := HE3.out.ext HGC.out id
          simpa [cells, Ex.withL, Ex.op, Ex.kind, Ex.num, Ex.vs, Ex.rel, Ex.col, Ex.n, Ex.s, Ex.l] using this
        have c0 : wc.cell? ⟨w.heap.size, 0, none⟩ = some (.int .i64 e.op) := hB4.cell 0
        have z0 := hB4.thaw 0; have lt4 := hB4.lt
        have HB4 := Lib.hid hB4; clear hB4
        go_upto_region 5 with (fail)
        have hB5 := HB4.out.setCell 0 (.int .i64 (turnOp e.op))
        have hx5 := (Ext.refl (· = w.heap.size) wc).setCell ⟨w.heap.size, 0, none⟩ (.int .i64 (turnOp e.op)) (fun _ => rfl)
        generalize wc.setCell ⟨w.heap.size, 0, none⟩ (.int .i64 (turnOp e.op)) = w5 at hB5 hx5 ⊢
        have hx35 : Ext (· = w.heap.size) w1 w5 := (HX13.out.then_ HGC.out).same hx5
        have hM5 := (HMADE.out.gro HGC.out).old hx5 (fun b h => by omega)
        have hR5 := (HR3.out.ext HGC.out id).ext hx5 (by omega)
        have hB5' : Blk w5 w.heap.size (cells (e.withL (turnOp e.op) (e.l.map normF)) A2 cap2).toArray 39 := by
          simpa [cells, Ex.withL, Ex.op, Ex.kind, Ex.num, Ex.vs, Ex.rel, Ex.col, Ex.n, Ex.s, Ex.l] using hB5
        clear c0 z0 lt4
        have c8 : w5.cell? ⟨w.heap.size, 8, none⟩ = some (.slice A2 e.l.length cap2) := by rw [hB5'.cell 8, show e.l.length = (e.l.map normF).length from by simp]; rfl
        have lt5 := hB5'.lt
        have hRev := slices_Reverse w5 _ _ _ hM5 (by simp; omega)
        simp only [List.length_map] at hRev
        have HB5 := Lib.hid hB5'; have HM5 := Lib.hid hM5; have HR5 := Lib.hid hR5; have HX35 := Lib.hid hx35; have HREV := Lib.hid hRev
        clear hB5 hB5' hM5 hR5 hx35 hx5 hRev
        go_upto_region 6 with (go_at_call 55; refine HREV.out.mono ?_; rintro rr w6 ⟨rfl, hM6, hx6⟩; have HM6 := Lib.hid hM6; have HX6 := Lib.hid hx6; clear hM6 hx6; clear c8)
        have hob := HM5.out.own_base
        simp only [List.length_map] at hob
        have hx16 : Ext (· = w.heap.size) w1 w6 := HX35.out.trans HX6.out (fun i hi h => by have := hob i h; omega)
        have hcl : (cells (e.withL (turnOp e.op) (e.l.map normF)) A2 cap2) = cells (e.withL (turnOp e.op) (e.l.map normF).reverse) A2 cap2 := by simp [cells, Ex.withL, Ex.op, Ex.kind, Ex.num, Ex.vs, Ex.rel, Ex.col, Ex.n, Ex.s, Ex.l]
        have hB6 := HB5.out.ext HX6.out (fun h => by have := hob _ h; omega)
        have hR6 := HR5.out.ext HX6.out (fun h => by have := hob _ h; omega)
        rw [hcl] at hB6
        obtain ⟨x, hx⟩ : ∃ x, x = e.withL (turnOp e.op) (e.l.map normF).reverse := ⟨_, rfl⟩
        rw [← hx] at hB6
        have HXE := Lib.hid hx; clear hx
        have HB6 := Lib.hid hB6; have HR6 := Lib.hid hR6; have HX16 := Lib.hid hx16; clear hB6 hR6 hx16 hob hcl
        go_wp2_with (first
          | (refine wpList_load_row rfl 39 (.tmp 2) rfl w.heap.size rfl 39 _ (0, 0) _ HB6.out Tryd.underlying39 rfl (size_expr rfl) ?_)
          | (refine wpList_store_row rfl 39 (.tmp 4) (.tmp 44) rfl (w.heap.size + 1 + 1) (cells x A2 cap2).toArray rfl rfl 39 _ HR6.out (size_expr rfl) rfl (all_one (by simp [cells, Value.oneCell'])) ?_))
        refine bodyPost_ret (results_cell_row (P := Tryd.prog) rfl _ _ (w.heap.size + 1 + 1) 39 (cells x A2 cap2).toArray (0, 0) _ rfl (HR6.out.setRow _) Tryd.underlying39 rfl (size_expr rfl)) rfl ?_
        exact normal_end w w1 w6 _ e x A2 cap2 HG.out HX16.out (Ext.refl _ _) (by rw [HXE.out]; exact HFIT.out.withL _ (turnOp_I64 HFIT.out.op) _) (by rw [HXE.out]; exact HM6.out) (by omega) (by rw [normF_eq, turnIt_yes HTN.out, HXE.out])
      · have hT' : turnsR e (e.l.map normF) = false := by simpa using hT
        rw [hT']
        have HTN := Lib.hid hT'; clear hT hT'
        have hB4 : Blk wc w.heap.size (cells (e.withL e.op (e.l.map normF)) A2 cap2).toArray 39 := by
          have := HE3.out.ext HGC.out id
          simpa [cells, Ex.withL, Ex.op, Ex.kind, Ex.num, Ex.vs, Ex.rel, Ex.col, Ex.n, Ex.s, Ex.l] using this
        have hM4 := HMADE.out.gro HGC.out
        have hR4 := HR3.out.ext HGC.out id
        have HB4 := Lib.hid hB4; have HM4 := Lib.hid hM4; have HR4 := Lib.hid hR4; clear hB4 hM4 hR4
        go_wp2_with (first
          | (refine wpList_load_row rfl 39 (.tmp 2) rfl w.heap.size rfl 39 _ (0, 0) _ HB4.out Tryd.underlying39 rfl (size_expr rfl) ?_)
          | (refine wpList_store_row rfl 39 (.tmp 4) (.tmp 44) rfl (w.heap.size + 1 + 1) (cells (e.withL e.op (e.l.map normF)) A2 cap2).toArray rfl rfl 39 _ HR4.out (size_expr rfl) rfl (all_one (by simp [cells, Value.oneCell'])) ?_))
        refine bodyPost_ret (results_cell_row (P := Tryd.prog) rfl _ _ (w.heap.size + 1 + 1) 39 (cells (e.withL e.op (e.l.map normF)) A2 cap2).toArray (0, 0) _ rfl (HR4.out.setRow _) Tryd.underlying39 rfl (size_expr rfl)) rfl ?_
        exact normal_end w w1 w3 _ e _ A2 cap2 HG.out HX13.out HGC.out (HFIT.out.withL _ HFIT.out.op _) HM4.out (by omega) (by rw [normF_eq, turnIt_no HTN.out])
  · have hk' : turnOk e.op = false := by simpa using hk
    have HTN : Hid (turnsR e (e.l.map normF) = false) := Lib.hid (by simp [turnsR, hk'])
    rw [hk']
    clear hk hnr
    refine wp_region_quiet_grown mixed (by kernel_rfl) ?_
    repeat (go_big_quiet_step (fail))
    refine wpQuiet_nil ?_
    intro _ hw'
    obtain ⟨⟨nq, osq⟩, hw''⟩ := hw'
    subst hw''
    have hgc := Ext.of_grow w3 nq osq
    have HGC := Lib.hid hgc; clear hgc
    generalize Sort.grow (w3.drewN nq) osq = wc at HGC ⊢
    have hB4 : Blk wc w.heap.size (cells (e.withL e.op (e.l.map normF)) A2 cap2).toArray 39 := by
      have := HE3.out.ext HGC.out id
      simpa [cells, Ex.withL, Ex.op, Ex.kind, Ex.num, Ex.vs, Ex.rel, Ex.col, Ex.n, Ex.s, Ex.l] using this
    have hM4 := HMADE.out.gro HGC.out
    have hR4 := HR3.out.ext HGC.out id
    have HB4 := Lib.hid hB4; have HM4 := Lib.hid hM4; have HR4 := Lib.hid hR4; clear hB4 hM4 hR4
    go_wp2_with (first
      | (refine wpList_load_row rfl 39 (.tmp 2) rfl w.heap.size rfl 39 _ (0, 0) _ HB4.out Tryd.underlying39 rfl (size_expr rfl) ?_)
      | (refine wpList_store_row rfl 39 (.tmp 4) (.tmp 44) rfl (w.heap.size + 1 + 1) (cells (e.withL e.op (e.l.map normF)) A2 cap2).toArray rfl rfl 39 _ HR4.out (size_expr rfl) rfl (all_one (by simp [cells, Value.oneCell'])) ?_))
    refine bodyPost_ret (results_cell_row (P := Tryd.prog) rfl _ _ (w.heap.size + 1 + 1) 39 (cells (e.withL e.op (e.l.map normF)) A2 cap2).toArray (0, 0) _ rfl (HR4.out.setRow _) Tryd.underlying39 rfl (size_expr rfl)) rfl ?_
    exact normal_end w w1 w3 _ e _ A2 cap2 HG.out HX13.out HGC.out (HFIT.out.withL _ HFIT.out.op _) HM4.out (by omega) (by rw [normF_eq, turnIt_no HTN.out])
end Go.Proofs.YtgikebkgihcogaaDoor
