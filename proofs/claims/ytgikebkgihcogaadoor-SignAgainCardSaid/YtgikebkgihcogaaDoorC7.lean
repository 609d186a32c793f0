/- sign.ranked. -/
import Derived.Test.YtgikebkgihcogaaDoorC6
namespace Go.Proofs.YtgikebkgihcogaaDoor
open Go.RowKit Go.Sort
set_option maxHeartbeats 1000000

/-- A slice of integers at B reads as is. -/
def IRep (w : World) (ok : Nat → Prop) (B : Option Addr) (is : List Int) : Prop :=
  0 < is.length → ∃ b off, B = some ⟨b, off, none⟩ ∧ ok b ∧ ∀ j x, is[j]? = some x → w.cell? ⟨b, off + j, none⟩ = some (.int .i64 x)
theorem IRep.mono {w w' : World} {ok ok' : Nat → Prop} {B : Option Addr} {is : List Int} (h : IRep w ok B is) (hk : ∀ b, ok b → b < w.heap.size → ok' b ∧ w'.heap[b]? = w.heap[b]?) : IRep w' ok' B is := by
  intro hp
  obtain ⟨b, off, rfl, hb, hc⟩ := h hp
  have hlt : b < w.heap.size := World.block_lt_of_cell? w ⟨b, off + 0, none⟩ (hc 0 _ (List.getElem?_eq_getElem hp))
  exact ⟨b, off, rfl, (hk b hb hlt).1, fun j x hx => by rw [World.cell?_of_block (a := ⟨b, off + j, none⟩) (hk b hb hlt).2]; exact hc j x hx⟩
theorem IRep.ext {S : Nat → Prop} {w w' : World} {ok : Nat → Prop} {B : Option Addr} {is : List Int} (h : IRep w ok B is) (hx : Ext S w w') (hs : ∀ b, ok b → b < w.heap.size → ¬ S b) : IRep w' ok B is :=
  h.mono fun b hb hlt => ⟨hb, hx.block b hlt (hs b hb hlt)⟩
theorem IRep.gro {w w' : World} {ok : Nat → Prop} {B : Option Addr} {is : List Int} (h : IRep w ok B is) (hx : Gro w w') : IRep w' ok B is := h.ext hx fun _ _ _ e => e
theorem IRep.old {w : World} {ok : Nat → Prop} {B : Option Addr} {is : List Int} (h : IRep w ok B is) : IRep w (fun b => b < w.heap.size) B is := h.mono fun _ _ hlt => ⟨hlt, rfl⟩

mutual
/-- Ranks in the place of the tables' numbers. -/
def rankF (rs : List Int) : Ex → Ex
  | .mk a b c d e f g h l => .mk a b c d (if a = 2 then rs.getD e.toNat 0 else e) f g h (rankL rs l)
def rankL (rs : List Int) : List Ex → List Ex
  | [] => []
  | x :: xs => rankF rs x :: rankL rs xs
end
theorem rankL_eq (rs : List Int) (l : List Ex) : rankL rs l = l.map (rankF rs) := by
  induction l with
  | nil => simp [rankL]
  | cons x l ih => simp [rankL, ih]
def rankR (rs : List Int) (e : Ex) : Int := if e.op = 2 then rs.getD e.rel.toNat 0 else e.rel
def Ex.withRL (e : Ex) (rel : Int) (l : List Ex) : Ex := .mk e.op e.kind e.num e.vs rel e.col e.n e.s l
theorem rankF_eq (rs : List Int) (e : Ex) : rankF rs e = e.withRL (rankR rs e) (e.l.map (rankF rs)) := by cases e; rw [rankF, rankL_eq]; rfl
theorem Ex.Fits.withRL {e : Ex} (h : e.Fits) (rel : Int) (hr : I64 rel) (l : List Ex) : (e.withRL rel l).Fits := ⟨h.op, h.kind, h.num, h.vs, hr, h.col, h.n, h.s⟩
/-- Each table referred to has a rank. -/
def RefOk (n : Nat) (e : Ex) : Prop := ∀ y ∈ preF e, y.op = 2 → 0 ≤ y.rel ∧ y.rel < n
theorem RefOk.self {n : Nat} {e : Ex} (h : RefOk n e) (ho : e.op = 2) : 0 ≤ e.rel ∧ e.rel < n := h e (by rw [preF_eq]; exact List.mem_cons_self) ho
theorem RefOk.sub {n : Nat} {e : Ex} (h : RefOk n e) : ∀ y ∈ e.l, RefOk n y := by
  intro y hy z hz
  refine h z ?_
  rw [preF_eq]
  refine List.mem_cons_of_mem _ ?_
  have : ∀ l : List Ex, y ∈ l → z ∈ preL l := by
    intro l hl
    induction l with
    | nil => cases hl
    | cons x l ih =>
      rw [preL, List.mem_append]
      rcases List.mem_cons.1 hl with rfl | h
      · exact .inl hz
      · exact .inr (ih h)
  exact this _ hy

theorem sign_ranked1 (cs : List Value) (hcs : cs.length = 9) (h1 : ∀ v ∈ cs, v.oneCell' = true) (R : Value) (gm : Nat) (w : World) (y : Ex) (hg : Blk w gm #[R] 22)
    (hcall : ∀ W, Gro w W → W.heap.size = w.heap.size + 2 → Calls Tryd.prog 24 #[.agg cs.toArray, R] W (ExPost W y)) :
    Calls Tryd.prog 51 (#[.agg cs.toArray] ++ #[.pointer (some ⟨gm, 0, none⟩)]) w (ExPost w y) := by
  obtain ⟨a, b, c, d, p, f, g, x, i, rfl⟩ := list9 cs hcs
  have c1 := hg.cell 0
  have l1 := hg.lt
  simp at c1
  have HC := Lib.hid hcall; clear hcall hg
  go_enter Tryd.func51, Tryd.ntmps51
  go_wp2_with fail
  have hg1 : Gro w (w.alloc (.cells #[a, b, c, d, p, f, g, x, i] 39)) := (Ext.refl _ _).alloc _
  refine (HC.out _ (hg1.alloc _) (by simp)).mono ?_
  rintro e w1 ⟨ds, rfl, hrep, hg⟩
  have hb := (Blk.newAt (w := w.alloc (.cells #[a, b, c, d, p, f, g, x, i] 39)) (n := w.heap.size + 1) (by simp) #[.int .i64 0, .int .i64 0, .int .i64 0, .string ⟨#[]⟩, .int .i64 0, .int .i64 0, .int .i64 0, .string ⟨#[]⟩, .slice none 0 0] 39).ext hg id
  have hg2 := (hg1.alloc _).same hg
  have hlen := hrep.length
  have hone := hrep.oneCell
  have HB := Lib.hid hb; have HREP := Lib.hid hrep; have HG := Lib.hid hg2; have HL := Lib.hid hlen; have HO := Lib.hid hone
  clear hb hrep hg2 hg hg1 hlen hone
  go_wp2_with (refine wpList_store_row rfl 39 (.tmp 3) (.tmp 6) rfl (w.heap.size + 1) ds.toArray rfl rfl 39 _ HB.out (size_expr HL.out) (by simp [HL.out]) (all_one HO.out) ?_)
  refine bodyPost_ret (results_cell_row (P := Tryd.prog) rfl _ _ (w.heap.size + 1) 39 ds.toArray (0, 0) _ rfl (HB.out.setRow _) Tryd.underlying39 rfl (size_expr HL.out)) rfl ?_
  refine ⟨ds, rfl, HREP.out.mono fun k hk hlt => ⟨⟨by have := hk.1; simp at this; omega, by simpa using hk.2⟩, heap_setRow_other _ _ _ _ (by have := hk.1; simp at this; omega)⟩, HG.out.setRow _ _ (fun h => by omega)⟩

theorem ranked_end (w w1 w3 : World) (x y : Ex) (A : Option Addr) (cap : Nat) {n : Nat} (h1 : Gro w w1) (h13 : Ext (· = w.heap.size) w1 w3) (hf : x.Fits) (hM : Made w3 w1.heap.size (.slice A n cap) x.l) (hlt : w.heap.size + 1 + 1 < w1.heap.size) (hx : y = x) :
    ExPost w y (.returned (.agg (cells x A cap).toArray)) (w3.setRow (w.heap.size + 1 + 1) (cells x A cap).toArray) := by
  obtain ⟨hn, hc, hmx, css, hL⟩ := hM.rep
  have hs1 := h13.size
  have hL' : LRep (w3.setRow (w.heap.size + 1 + 1) (cells x A cap).toArray) (fun b => w.heap.size ≤ b ∧ b < (w3.setRow (w.heap.size + 1 + 1) (cells x A cap).toArray).heap.size) A x.l css :=
    hL.mono fun b hb _ => ⟨⟨by have := hb.1; omega, by simpa using hb.2⟩, heap_setRow_other _ _ _ _ (by have := hb.1; omega)⟩
  refine ⟨_, rfl, ?_, ?_⟩
  · rw [hx]; exact Rep.of x hf hc hmx hL'
  · exact (((h1.mono (S' := (· = w.heap.size)) fun _ _ h => h.elim).same h13) |>.mono (S' := fun _ => False) fun i hi e => by omega).setRow _ _ (fun h => by omega)

set_option maxRecDepth 100000 in
theorem sign_ranked (rs : List Int) (hrs : ∀ x ∈ rs, I64 x) (w0 : World) (ok : Nat → Prop) (e : Ex) (cs : List Value) (h : Rep w0 ok e cs) : ∀ (w : World) (okr : Nat → Prop) (B : Option Addr) (rcap : Nat), Gro w0 w → IRep w okr B rs → OwnAll e → RefOk rs.length e →
    Calls Tryd.prog 24 #[.agg cs.toArray, .slice B rs.length rcap] w (ExPost w (rankF rs e)) := by
  induction h with
  | mk e A cap css hcap hmax h1 h2 h3 h4 h5 h6 h7 h8 hA hl ih =>
  intro w okr B rcap hx hI hown href
  have hLR : LRep w0 ok A e.l css := ⟨hA, hl⟩
  have hll := own_len hown.self
  have hw2 := wants_le e.op
  have hfit : e.Fits := ⟨h1, h2, h3, h4, h5, h6, h7, h8⟩
  have IH := Lib.hid ih; have HLR := Lib.hid hLR; have HX := Lib.hid hx; have HI := Lib.hid hI.old; have HFIT := Lib.hid hfit
  clear ih hA hl hx hLR hI hfit
  simp only [cells]
  go_enter Tryd.func24, Tryd.ntmps24
  go_upto_region 1 with (fail)
  have hE := ((Blk.newAt (w := w) (n := w.heap.size) rfl (cells e A cap).toArray 39).alloc (.cells #[.slice B rs.length rcap] 22)).alloc (.cells #[.int .i64 0, .int .i64 0, .int .i64 0, .string ⟨#[]⟩, .int .i64 0, .int .i64 0, .int .i64 0, .string ⟨#[]⟩, .slice none 0 0] 39)
  have hM := (Blk.newAt (w := w.alloc (.cells (cells e A cap).toArray 39)) (n := w.heap.size + 1) (by simp) #[.slice B rs.length rcap] 22).alloc (.cells #[.int .i64 0, .int .i64 0, .int .i64 0, .string ⟨#[]⟩, .int .i64 0, .int .i64 0, .int .i64 0, .string ⟨#[]⟩, .slice none 0 0] 39)
  have hRr := Blk.newAt (w := (w.alloc (.cells (cells e A cap).toArray 39)).alloc (.cells #[.slice B rs.length rcap] 22)) (n := w.heap.size + 1 + 1) (by simp) #[.int .i64 0, .int .i64 0, .int .i64 0, .string ⟨#[]⟩, .int .i64 0, .int .i64 0, .int .i64 0, .string ⟨#[]⟩, .slice none 0 0] 39
  have hG := (((Ext.refl (fun _ => False) w).alloc (.cells (cells e A cap).toArray 39)).alloc (.cells #[.slice B rs.length rcap] 22)).alloc (.cells #[.int .i64 0, .int .i64 0, .int .i64 0, .string ⟨#[]⟩, .int .i64 0, .int .i64 0, .int .i64 0, .string ⟨#[]⟩, .slice none 0 0] 39)
  have hsz : (((w.alloc (.cells (cells e A cap).toArray 39)).alloc (.cells #[.slice B rs.length rcap] 22)).alloc (.cells #[.int .i64 0, .int .i64 0, .int .i64 0, .string ⟨#[]⟩, .int .i64 0, .int .i64 0, .int .i64 0, .string ⟨#[]⟩, .slice none 0 0] 39)).heap.size = w.heap.size + 3 := by simp
  simp only [cells] at hE hM hRr hG hsz
  generalize ((w.alloc _).alloc _).alloc _ = w1 at hE hM hRr hG hsz ⊢
  have e0 := hE.cell 0; have e4 := hE.cell 4; have z4 := hE.thaw 4; have m0 := hM.cell 0
  simp at e0 e4 m0
  have lt1 : w.heap.size < w1.heap.size := by omega
  have lt2 : w.heap.size + 1 < w1.heap.size := by omega
  have hI1 := HI.out.gro hG
  have HE := Lib.hid hE; have HM := Lib.hid hM; have HR := Lib.hid hRr; have HG := Lib.hid hG; have HI1 := Lib.hid hI1
  clear hE hM hRr hG hI1
  have hrr : I64 (rankR rs e) := by
    unfold rankR
    split
    · rw [List.getD_eq_getElem?_getD]
      cases hq : rs[e.rel.toNat]? with
      | none => exact by show I64 0; unfold I64; omega
      | some x => exact hrs x (List.mem_of_getElem? hq)
    · exact HFIT.out.rel
  have HRR := Lib.hid hrr; clear hrr
  by_cases hop : e.op = 2
  · obtain ⟨hr0, hr1⟩ := href.self hop
    obtain ⟨n, hn⟩ : ∃ n : Nat, e.rel = n := ⟨e.rel.toNat, by omega⟩
    have hnl : n < rs.length := by omega
    have hrk : rankR rs e = rs[n] := by unfold rankR; rw [if_pos hop, hn, List.getD_eq_getElem?_getD, Int.toNat_natCast, List.getElem?_eq_getElem hnl]; rfl
    obtain ⟨b, off, rfl, hokb, hcb⟩ := HI1.out (by omega)
    have c5 := hcb n rs[n] (List.getElem?_eq_getElem hnl)
    rw [← hrk] at c5
    rw [hn] at e4
    have hop' : (e.op == 2) = true := by simp [hop]
    have HOP := Lib.hid hop; have HN := Lib.hid hn; clear hop hn hcb hrk hr0 hr1
    go_upto_region 3 with (fail)
    have hE3 := HE.out.setCell 4 (.int .i64 (rankR rs e))
    have hx3 := (Ext.refl (· = w.heap.size) w1).setCell ⟨w.heap.size, 4, none⟩ (.int .i64 (rankR rs e)) (fun _ => rfl)
    have hR3 := HR.out.ext hx3 (by omega)
    have hM3 := HM.out.ext hx3 (by omega)
    have hI3 := HI1.out.ext hx3 (fun b hb _ => by omega)
    clear e0 e4 z4 m0 c5
    generalize w1.setCell ⟨w.heap.size, 4, none⟩ (.int .i64 (rankR rs e)) = w3 at hE3 hx3 hR3 hM3 hI3 ⊢
    have hcl : ((#[.int .i64 e.op, .int .i64 e.kind, .int .i64 e.num, .string e.vs, .int .i64 e.rel, .int .i64 e.col, .int .i64 e.n, .string e.s, .slice A e.l.length cap] : Array Value).setIfInBounds 4 (.int .i64 (rankR rs e))) = (cells (e.withRL (rankR rs e) e.l) A cap).toArray := by
      simp [cells, Ex.withRL, Ex.op, Ex.kind, Ex.num, Ex.vs, Ex.rel, Ex.col, Ex.n, Ex.s, Ex.l]
    rw [hcl] at hE3
    clear hcl
    have e8 : w3.cell? ⟨w.heap.size, 8, none⟩ = some (.slice A e.l.length cap) := hE3.cell 8
    have m0 := hM3.cell 0; have z8 := hE3.thaw 8
    simp at m0
    have lt3 := hE3.lt; have lt4 := hM3.lt
    have hG03 : Gro w0 w3 := (HX.out.same HG.out).trans hx3 (fun i hi h => by have := HX.out.size; omega)
    have hEach := sign_each 51 #[.pointer (some ⟨w.heap.size + 1, 0, none⟩)] (fun _ _ => by kernel_rfl) (rankF rs) w3 ok A cap e.l css (HLR.out.gro hG03) (by omega) (by
      intro j hj w2 hg2
      refine sign_ranked1 (css j) (HLR.out.hl j hj).length (HLR.out.hl j hj).oneCell (.slice (some ⟨b, off, none⟩) rs.length rcap) (w.heap.size + 1) w2 _ (hM3.ext hg2 id) ?_
      intro W hgW _
      have hg := hg2.same hgW
      exact IH.out j hj W _ _ rcap (hG03.same hg) (hI3.gro hg) (hown.sub _ (List.getElem_mem hj)) (href.sub _ (List.getElem_mem hj)))
    have hs13 := hx3.size
    have HEACH := Lib.hid hEach; have HE3 := Lib.hid hE3; have HX3 := Lib.hid hx3; have HR3 := Lib.hid hR3
    clear hEach hE3 hx3 hR3 hM3 hI3 hG03
    go_upto_region 4 with (go_at_call 38; refine HEACH.out.mono ?_; rintro rr w4 ⟨v, rfl, hM4, hg4⟩; obtain ⟨r1, r2⟩ := hg4.rules; obtain ⟨A2, cap2, css2, rfl, hcap2, hmax2, hL2⟩ := hM4.lrep; clear hL2; have HM4 := Lib.hid hM4; have HG4 := Lib.hid hg4; clear hM4 hg4)
    have hE5 := (HE3.out.ext HG4.out id).setCell 8 (.slice A2 (e.l.map (rankF rs)).length cap2)
    have hx5 := (Ext.refl (· = w.heap.size) w4).setCell ⟨w.heap.size, 8, none⟩ (.slice A2 (e.l.map (rankF rs)).length cap2) (fun _ => rfl)
    have hR5 := (HR3.out.ext HG4.out id).ext hx5 (by omega)
    have hM5 := HM4.out.old hx5 (fun b h => by omega)
    clear e8 m0 r1 r2 z8
    simp only [List.length_map] at hE5 hx5 hR5 hM5 ⊢
    generalize w4.setCell ⟨w.heap.size, 8, none⟩ (.slice A2 e.l.length cap2) = w5 at hE5 hx5 hR5 hM5 ⊢
    have hx15 : Ext (· = w.heap.size) w1 w5 := (HX3.out.then_ HG4.out).same hx5
    have hB5 : Blk w5 w.heap.size (cells (e.withRL (rankR rs e) (e.l.map (rankF rs))) A2 cap2).toArray 39 := by
      simpa [cells, Ex.withRL, Ex.op, Ex.kind, Ex.num, Ex.vs, Ex.rel, Ex.col, Ex.n, Ex.s, Ex.l] using hE5
    have HB5 := Lib.hid hB5; have HM5 := Lib.hid (hM5.base hs13); have HR5 := Lib.hid hR5; have HX15 := Lib.hid hx15; clear hE5 hx5 hR5 hM5 hx15 hB5
    go_wp2_with (first
      | (refine wpList_load_row rfl 39 (.tmp 2) rfl w.heap.size rfl 39 _ (0, 0) _ HB5.out Tryd.underlying39 rfl (size_expr rfl) ?_)
      | (refine wpList_store_row rfl 39 (.tmp 4) (.tmp 19) rfl (w.heap.size + 1 + 1) (cells (e.withRL (rankR rs e) (e.l.map (rankF rs))) A2 cap2).toArray rfl rfl 39 _ HR5.out (size_expr rfl) rfl (all_one (by simp [cells, Value.oneCell'])) ?_))
    refine bodyPost_ret (results_cell_row (P := Tryd.prog) rfl _ _ (w.heap.size + 1 + 1) 39 (cells (e.withRL (rankR rs e) (e.l.map (rankF rs))) A2 cap2).toArray (0, 0) _ rfl (HR5.out.setRow _) Tryd.underlying39 rfl (size_expr rfl)) rfl ?_
    exact ranked_end w w1 w5 _ _ A2 cap2 HG.out HX15.out (HFIT.out.withRL _ HRR.out _) HM5.out (by omega) (rankF_eq rs e)
  · have hrk : rankR rs e = e.rel := by unfold rankR; rw [if_neg hop]
    have hop' : (e.op == 2) = false := by simp [hop]
    have hE3 : Blk w1 w.heap.size (cells (e.withRL (rankR rs e) e.l) A cap).toArray 39 := by
      rw [hrk]
      simpa [cells, Ex.withRL, Ex.op, Ex.kind, Ex.num, Ex.vs, Ex.rel, Ex.col, Ex.n, Ex.s, Ex.l] using HE.out
    have hx3 := Ext.refl (· = w.heap.size) w1
    have hR3 := HR.out
    have hM3 := HM.out
    have hI3 := HI1.out
    clear e4 z4 m0 hop hrk
    go_upto_region 3 with (fail)
    clear e0
    obtain ⟨w3, hw3⟩ : ∃ w3, w3 = w1 := ⟨w1, rfl⟩
    have hx3' : Ext (· = w.heap.size) w1 w3 := by rw [hw3]; exact hx3
    rw [← hw3] at hE3 hR3 hM3 hI3 ⊢
    clear hx3 hw3
    have hx3 := hx3'
    clear hx3'
    have e8 : w3.cell? ⟨w.heap.size, 8, none⟩ = some (.slice A e.l.length cap) := hE3.cell 8
    have m0 := hM3.cell 0; have z8 := hE3.thaw 8
    simp at m0
    have lt3 := hE3.lt; have lt4 := hM3.lt
    have hG03 : Gro w0 w3 := (HX.out.same HG.out).trans hx3 (fun i hi h => by have := HX.out.size; omega)
    have hEach := sign_each 51 #[.pointer (some ⟨w.heap.size + 1, 0, none⟩)] (fun _ _ => by kernel_rfl) (rankF rs) w3 ok A cap e.l css (HLR.out.gro hG03) (by omega) (by
      intro j hj w2 hg2
      refine sign_ranked1 (css j) (HLR.out.hl j hj).length (HLR.out.hl j hj).oneCell (.slice B rs.length rcap) (w.heap.size + 1) w2 _ (hM3.ext hg2 id) ?_
      intro W hgW _
      have hg := hg2.same hgW
      exact IH.out j hj W _ _ rcap (hG03.same hg) (hI3.gro hg) (hown.sub _ (List.getElem_mem hj)) (href.sub _ (List.getElem_mem hj)))
    have hs13 := hx3.size
    have HEACH := Lib.hid hEach; have HE3 := Lib.hid hE3; have HX3 := Lib.hid hx3; have HR3 := Lib.hid hR3
    clear hEach hE3 hx3 hR3 hM3 hI3 hG03
    go_upto_region 4 with (go_at_call 38; refine HEACH.out.mono ?_; rintro rr w4 ⟨v, rfl, hM4, hg4⟩; obtain ⟨r1, r2⟩ := hg4.rules; obtain ⟨A2, cap2, css2, rfl, hcap2, hmax2, hL2⟩ := hM4.lrep; clear hL2; have HM4 := Lib.hid hM4; have HG4 := Lib.hid hg4; clear hM4 hg4)
    have hE5 := (HE3.out.ext HG4.out id).setCell 8 (.slice A2 (e.l.map (rankF rs)).length cap2)
    have hx5 := (Ext.refl (· = w.heap.size) w4).setCell ⟨w.heap.size, 8, none⟩ (.slice A2 (e.l.map (rankF rs)).length cap2) (fun _ => rfl)
    have hR5 := (HR3.out.ext HG4.out id).ext hx5 (by omega)
    have hM5 := HM4.out.old hx5 (fun b h => by omega)
    clear e8 m0 r1 r2 z8
    simp only [List.length_map] at hE5 hx5 hR5 hM5 ⊢
    generalize w4.setCell ⟨w.heap.size, 8, none⟩ (.slice A2 e.l.length cap2) = w5 at hE5 hx5 hR5 hM5 ⊢
    have hx15 : Ext (· = w.heap.size) w1 w5 := (HX3.out.then_ HG4.out).same hx5
    have hB5 : Blk w5 w.heap.size (cells (e.withRL (rankR rs e) (e.l.map (rankF rs))) A2 cap2).toArray 39 := by
      simpa [cells, Ex.withRL, Ex.op, Ex.kind, Ex.num, Ex.vs, Ex.rel, Ex.col, Ex.n, Ex.s, Ex.l] using hE5
    have HB5 := Lib.hid hB5; have HM5 := Lib.hid (hM5.base hs13); have HR5 := Lib.hid hR5; have HX15 := Lib.hid hx15; clear hE5 hx5 hR5 hM5 hx15 hB5
    go_wp2_with (first
      | (refine wpList_load_row rfl 39 (.tmp 2) rfl w.heap.size rfl 39 _ (0, 0) _ HB5.out Tryd.underlying39 rfl (size_expr rfl) ?_)
      | (refine wpList_store_row rfl 39 (.tmp 4) (.tmp 19) rfl (w.heap.size + 1 + 1) (cells (e.withRL (rankR rs e) (e.l.map (rankF rs))) A2 cap2).toArray rfl rfl 39 _ HR5.out (size_expr rfl) rfl (all_one (by simp [cells, Value.oneCell'])) ?_))
    refine bodyPost_ret (results_cell_row (P := Tryd.prog) rfl _ _ (w.heap.size + 1 + 1) 39 (cells (e.withRL (rankR rs e) (e.l.map (rankF rs))) A2 cap2).toArray (0, 0) _ rfl (HR5.out.setRow _) Tryd.underlying39 rfl (size_expr rfl)) rfl ?_
    exact ranked_end w w1 w5 _ _ A2 cap2 HG.out HX15.out (HFIT.out.withRL _ HRR.out _) HM5.out (by omega) (rankF_eq rs e)
end Go.Proofs.YtgikebkgihcogaaDoor
