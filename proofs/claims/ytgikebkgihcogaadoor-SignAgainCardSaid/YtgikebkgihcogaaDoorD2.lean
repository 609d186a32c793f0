/- The chapter's examples are so. -/
import Derived.Test.YtgikebkgihcogaaDoorD1
namespace Go.Proofs.YtgikebkgihcogaaDoor
open Go.RowKit Go.Sort
set_option maxHeartbeats 1000000

theorem normal_two (w : World) (g : Nat) (op : Int) (x y : Ex) (hop : I64 op) (hb : Blk w g (cells x none 0 ++ cells y none 0).toArray 39) (hx : Rep w (fun _ => True) x (cells x none 0)) (hy : Rep w (fun _ => True) y (cells y none 0)) (ht : Tab w) :
    Calls Tryd.prog 13 #[.agg (cells (opE op [x, y]) (some ⟨g, 0, none⟩) 2).toArray] w (NormalPost w (opE op [x, y])) :=
  sign_Normal (fun _ => True) _ _ w (Rep.of (opE op [x, y]) ⟨hop, by show I64 0; unfold I64; omega, by show I64 0; unfold I64; omega, by show 0 ≤ maxLen; omega, by show I64 0; unfold I64; omega, by show I64 0; unfold I64; omega, by show I64 0; unfold I64; omega, by show 0 ≤ maxLen; omega⟩ (Nat.le_refl 2) (by unfold maxLen; omega) (two_rep hb hx hy trivial)) ht
theorem fits_ref (rel col : Int) (h1 : I64 rel) (h2 : I64 col) : (refE rel col).Fits :=
  ⟨by show I64 2; unfold I64; omega, by show I64 0; unfold I64; omega, by show I64 0; unfold I64; omega, by show 0 ≤ maxLen; omega, h1, h2, by show I64 0; unfold I64; omega, by show 0 ≤ maxLen; omega⟩
theorem fits_five : fiveE.Fits :=
  ⟨by show I64 1; unfold I64; omega, by show I64 1; unfold I64; omega, by show I64 5; unfold I64; omega, by show 0 ≤ maxLen; omega, by show I64 0; unfold I64; omega, by show I64 0; unfold I64; omega, by show I64 0; unfold I64; omega, by show 0 ≤ maxLen; omega⟩
theorem rep_ref (w : World) (ok : Nat → Prop) (rel col : Int) (h1 : I64 rel) (h2 : I64 col) : Rep w ok (refE rel col) (cells (refE rel col) none 0) := leaf_rep w ok _ _ _ _ _ _ _ _ (fits_ref rel col h1 h2)
theorem rep_five (w : World) (ok : Nat → Prop) : Rep w ok fiveE (cells fiveE none 0) := leaf_rep w ok _ _ _ _ _ _ _ _ fits_five
theorem i64_0 : I64 0 := by unfold I64; omega
theorem i64_three : ∀ x ∈ ([3] : List Int), I64 x := by intro x hx; rw [List.mem_singleton.1 hx]; unfold I64; omega
theorem i64_1 : I64 1 := by unfold I64; omega

theorem of_example {r : Ending} (h : (((badOf [3] 1 1 = true ∨ ([] : List Ex).all rightF = false) ∧ r = .returned (.tuple #[.string ⟨#[]⟩, .int .i64 1])) ∨
    (badOf [3] 1 1 = false ∧ ([] : List Ex).all rightF = true ∧ ∃ ys, CondsRel (ofExprs 1 1 []) ys ∧ r = .returned (.tuple #[.string ⟨(83 :: (tabText 1 [3] (1 : Int).toNat ++ exText ys)).toArray⟩, .int .i64 0])))) :
    r = .returned (.tuple #[.string ⟨#[83, 51, 32]⟩, .int .i64 0]) := by
  have hb : badOf [3] 1 1 = false := by decide
  rcases h with ⟨h | h, _⟩ | ⟨_, _, ys, hc, rfl⟩
  · rw [hb] at h; cases h
  · cases h
  · have hys : ys = [] := CondsRel.nil hc
    subst hys
    rw [show (1 : Int).toNat = 1 from rfl, ex3_text]

set_option maxRecDepth 100000 in
theorem law_examples (w : World) (ht : Tab w) : Calls Tryd.prog 7 #[] w fun r w' => r = .returned (.bool true) ∧ Gro w w' := by
  have HT := Lib.hid ht; clear ht
  go_enter Tryd.func7, Tryd.ntmps7
  go_upto_region 3 with (
    go_at_call 13
    refine (normal_two _ (w.heap.size + 1) 13 (refE 1 0) fiveE (by unfold I64; omega) (Blk.newAt (by simp) _ _) (rep_ref _ _ 1 0 i64_1 i64_0) (rep_five _ _) (HT.out.gro (((Ext.refl _ w).alloc _).alloc _))).mono ?_
    rintro r w3 ⟨cs, rfl, hrep, hg3⟩
    have hg03 : Gro w w3 := (((Ext.refl _ w).alloc _).alloc _).same hg3
    rw [ex1_right, if_pos rfl, ex1_norm] at hrep
    obtain ⟨A1, k1, css1, rfl, _, _, hL1⟩ := hrep.kids
    have hcl : cells (opE 11 [fiveE, refE 1 0]) A1 k1 = [.int .i64 11, .int .i64 0, .int .i64 0, .string ⟨#[]⟩, .int .i64 0, .int .i64 0, .int .i64 0, .string ⟨#[]⟩, .slice A1 2 k1] := rfl
    rw [hcl, ex1_right, if_pos rfl]
    have HG3 := Lib.hid hg03; have HL1 := Lib.hid hL1; clear hg3 hg03 hrep hL1 hcl)
  have hB4 := Blk.new w3 #[.int .i64 11, .int .i64 0, .int .i64 0, .string ⟨#[]⟩, .int .i64 0, .int .i64 0, .int .i64 0, .string ⟨#[]⟩, .slice A1 2 k1] 39
  have hg4 := (Ext.refl (fun _ => False) w3).alloc (.cells #[.int .i64 11, .int .i64 0, .int .i64 0, .string ⟨#[]⟩, .int .i64 0, .int .i64 0, .int .i64 0, .string ⟨#[]⟩, .slice A1 2 k1] 39)
  generalize w3.alloc (.cells #[.int .i64 11, .int .i64 0, .int .i64 0, .string ⟨#[]⟩, .int .i64 0, .int .i64 0, .int .i64 0, .string ⟨#[]⟩, .slice A1 2 k1] 39) = w4 at hB4 hg4 ⊢
  have HB4 := Lib.hid hB4; have HG4 := Lib.hid (HG3.out.same hg4); have HL14 := Lib.hid (HL1.out.gro hg4); clear hB4 hg4
  go_upto_region 4 with (
    go_at_call 13
    refine (normal_two _ w4.heap.size 9 (refE 1 0) (refE 0 0) (by unfold I64; omega) (Blk.new _ _ _) (rep_ref _ _ 1 0 i64_1 i64_0) (rep_ref _ _ 0 0 i64_0 i64_0) (HT.out.gro (HG4.out.alloc _))).mono ?_
    rintro r w5 ⟨cs, rfl, hrep, hg5⟩
    have hg45 : Gro w4 w5 := ((Ext.refl _ w4).alloc _).same hg5
    rw [ex2_right, if_pos rfl, ex2_norm] at hrep
    obtain ⟨A2, k2, css2, rfl, _, _, hL2⟩ := hrep.kids
    have hcl : cells (opE 9 [refE 0 0, refE 1 0]) A2 k2 = [.int .i64 9, .int .i64 0, .int .i64 0, .string ⟨#[]⟩, .int .i64 0, .int .i64 0, .int .i64 0, .string ⟨#[]⟩, .slice A2 2 k2] := rfl
    rw [hcl, ex2_right, if_pos rfl]
    have HG5 := Lib.hid hg45; have HL2 := Lib.hid hL2; clear hg5 hg45 hrep hL2 hcl)
  have hB6 := Blk.new w5 #[.int .i64 9, .int .i64 0, .int .i64 0, .string ⟨#[]⟩, .int .i64 0, .int .i64 0, .int .i64 0, .string ⟨#[]⟩, .slice A2 2 k2] 39
  have hg6 := (Ext.refl (fun _ => False) w5).alloc (.cells #[.int .i64 9, .int .i64 0, .int .i64 0, .string ⟨#[]⟩, .int .i64 0, .int .i64 0, .int .i64 0, .string ⟨#[]⟩, .slice A2 2 k2] 39)
  generalize w5.alloc (.cells #[.int .i64 9, .int .i64 0, .int .i64 0, .string ⟨#[]⟩, .int .i64 0, .int .i64 0, .int .i64 0, .string ⟨#[]⟩, .slice A2 2 k2] 39) = w6 at hB6 hg6 ⊢
  have hg46 := HG5.out.same hg6
  have hB46 := HB4.out.ext hg46 id
  have hL16 := HL14.out.gro hg46
  have hL26 := HL2.out.gro hg6
  have hG6 : Gro w w6 := HG4.out.same hg46
  have a8 := hB46.cell 8; have b8 := hB6.cell 8
  simp at a8 b8
  have la := hB46.lt; have lb := hB6.lt
  have HB6 := Lib.hid hB6; have HB46 := Lib.hid hB46; have HL16 := Lib.hid hL16; have HL26 := Lib.hid hL26; have HG6 := Lib.hid hG6
  clear hB6 hB46 hL16 hL26 hG6 hg46 hg6
  go_upto_region 6 with (fail)
  have hG7 := HG6.out.alloc (.cells #[.int .i64 3] 3)
  have hI7 : IRep (w6.alloc (.cells #[.int .i64 3] 3)) (fun _ => True) (some ⟨w6.heap.size, 0, none⟩) [3] := fun _ => ⟨w6.heap.size, 0, rfl, trivial, fun j x hx => by
    have := (List.getElem?_eq_some_iff.1 hx).1
    have hj : j = 0 := by simp at this; omega
    subst hj
    rw [(Blk.new w6 #[.int .i64 3] 3).cell]
    simp at hx
    subst hx; rfl⟩
  have hOf : Calls Tryd.prog 11 #[.agg #[.slice (some ⟨w6.heap.size, 0, none⟩) 1 1, .int .i64 1, .slice none 0 0, .slice none 0 0, .slice none 0 0, .slice none 0 0, .slice none 0 0, .bool false, .slice none 0 0, .slice none 0 0, .bool false], .int .i64 1] (w6.alloc (.cells #[.int .i64 3] 3)) (OfPost (w6.alloc (.cells #[.int .i64 3] 3)) [3] 1 1 []) :=
    sign_Of _ (fun _ => True) (some ⟨w6.heap.size, 0, none⟩) none 1 0 [3] 1 1 [] (fun _ => []) ⟨.slice none 0 0, .slice none 0 0, .slice none 0 0, .slice none 0 0, .bool false, .slice none 0 0, .slice none 0 0, .bool false⟩ hI7 (LRep.none _ _) (HT.out.gro hG7) (by simp) i64_three i64_1 i64_1
  have HOF := Lib.hid hOf; have HG7 := Lib.hid hG7; clear hOf hI7 hG7
  go_upto_region 7 with (
    go_at_call 11
    refine Calls.mono HOF.out ?_
    intro r w7 hres
    obtain ⟨hg7, hres⟩ := hres
    have hr : r = .returned (.tuple #[.string ⟨#[83, 51, 32]⟩, .int .i64 0]) := of_example hres
    subst hr
    have HG8 := Lib.hid hg7; clear hg7 hres)
  have hg67 : Gro w6 w7 := ((Ext.refl _ w6).alloc _).same HG8.out
  have hBa := HB46.out.ext hg67 id
  have hBb := HB6.out.ext hg67 id
  have hLa := HL16.out.gro hg67
  have hLb := HL26.out.gro hg67
  obtain ⟨b1, o1, rfl, _, hc1⟩ := hLa.hA (by show 0 < 2; omega)
  obtain ⟨b2, o2, rfl, _, hc2⟩ := hLb.hA (by show 0 < 2; omega)
  obtain ⟨A3, k3, hs3⟩ := (hLa.hl 1 (by show 1 < 2; omega)).shape
  obtain ⟨A5, k5, hs5⟩ := (hLb.hl 0 (by show 0 < 2; omega)).shape
  have r1 : w7.cell? ⟨b1, o1 + 13, none⟩ = some (.int .i64 1) := hc1 1 (by show 1 < 2; omega) 4 (.int .i64 1) (by rw [hs3]; rfl)
  have r1' : w7.cell? ⟨b1, o1 + 9 + 4, none⟩ = some (.int .i64 1) := r1
  have r2 : w7.cell? ⟨b2, o2 + 4, none⟩ = some (.int .i64 0) := by
    have := hc2 0 (by show 0 < 2; omega) 4 (.int .i64 0) (by rw [hs5]; rfl)
    simpa using this
  have hGf : Gro w w7 := HG6.out.same hg67
  clear a8 b8
  have a0 := hBa.cell 0; have a8 := hBa.cell 8; have b8 := hBb.cell 8
  simp at a0 a8 b8
  have HGF := Lib.hid hGf
  clear hg67 hBa hBb hLa hLb hc1 hc2 hs3 hs5 hGf
  go_wp2_with fail
  go_ret
  exact ⟨rfl, HGF.out⟩
end Go.Proofs.YtgikebkgihcogaaDoor
