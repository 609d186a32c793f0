/- SignRanks: the walk. -/
import Derived.Test.YtgikebkgihcogaaDoorD4
namespace Go.Proofs.YtgikebkgihcogaaDoor
open Go.RowKit Go.Sort
set_option maxHeartbeats 1000000

set_option maxRecDepth 100000 in
theorem law_SignRanks (w : World) (ht : Tab w) (one two other col op : Int) (h1 : I64 one) (h2 : I64 two) (h3 : I64 other) (h4 : I64 col) (h5 : I64 op) :
    Calls Tryd.prog 6 #[.int .i64 one, .int .i64 two, .int .i64 other, .int .i64 col, .int .i64 op] w fun r w' => r = .returned (.bool true) ∧ Gro w w' := by
  have HT := Lib.hid ht; clear ht
  go_enter Tryd.func6, Tryd.ntmps6
  unfold I64 at h4 h5
  go_upto_region 2 with (go_at_call 7; refine (law_examples _ HT.out).mono ?_; rintro r w1 ⟨rfl, hg1⟩; have HG1 := Lib.hid hg1; clear hg1)
  by_cases ho : op < 0
  · by_cases hc : col < 0
    · go_upto_region 6 with (fail)
      have ho0 : 0 ≤ -(op + 1) := by omega
      have ho1 : -(op + 1) ≤ 9223372036854775807 := by omega
      generalize -(op + 1) = o at ho0 ho1 ⊢
      have hc0 : 0 ≤ -(col + 1) := by omega
      have hc1 : -(col + 1) ≤ 9223372036854775807 := by omega
      generalize -(col + 1) = c at hc0 hc1 ⊢
      go_upto_region 8 with (fail)
      have ha0 : 0 ≤ o % 6 := by omega
      have ha1 : o % 6 < 6 := by omega
      have hb0 : 0 ≤ c % 6 := by omega
      have hb1 : c % 6 < 6 := by omega
      generalize o % 6 = a at ha0 ha1 ⊢
      generalize c % 6 = b at hb0 hb1 ⊢
      have hE : Blk ((((w1.alloc (.cells (cells (refE 0 b) none 0 ++ cells (refE 1 2) none 0).toArray 39)).alloc (.cells (cells (ranksE a b) (some ⟨w1.heap.size, 0, none⟩) 2).toArray 39)).alloc (.cells (cells (refE 1 b) none 0 ++ cells (refE 3 2) none 0).toArray 39)).alloc (.cells (cells (ranksF a b) (some ⟨w1.heap.size + 1 + 1, 0, none⟩) 2).toArray 39)) (w1.heap.size + 1) (cells (ranksE a b) (some ⟨w1.heap.size, 0, none⟩) 2).toArray 39 := ((Blk.newAt (by simp) _ _).alloc _).alloc _
      have hX : Blk ((((w1.alloc (.cells (cells (refE 0 b) none 0 ++ cells (refE 1 2) none 0).toArray 39)).alloc (.cells (cells (ranksE a b) (some ⟨w1.heap.size, 0, none⟩) 2).toArray 39)).alloc (.cells (cells (refE 1 b) none 0 ++ cells (refE 3 2) none 0).toArray 39)).alloc (.cells (cells (ranksF a b) (some ⟨w1.heap.size + 1 + 1, 0, none⟩) 2).toArray 39)) w1.heap.size (cells (refE 0 b) none 0 ++ cells (refE 1 2) none 0).toArray 39 := (((Blk.new _ _ _).alloc _).alloc _).alloc _
      have hF : Blk ((((w1.alloc (.cells (cells (refE 0 b) none 0 ++ cells (refE 1 2) none 0).toArray 39)).alloc (.cells (cells (ranksE a b) (some ⟨w1.heap.size, 0, none⟩) 2).toArray 39)).alloc (.cells (cells (refE 1 b) none 0 ++ cells (refE 3 2) none 0).toArray 39)).alloc (.cells (cells (ranksF a b) (some ⟨w1.heap.size + 1 + 1, 0, none⟩) 2).toArray 39)) (w1.heap.size + 1 + 1 + 1) (cells (ranksF a b) (some ⟨w1.heap.size + 1 + 1, 0, none⟩) 2).toArray 39 := Blk.newAt (by simp) _ _
      have hY : Blk ((((w1.alloc (.cells (cells (refE 0 b) none 0 ++ cells (refE 1 2) none 0).toArray 39)).alloc (.cells (cells (ranksE a b) (some ⟨w1.heap.size, 0, none⟩) 2).toArray 39)).alloc (.cells (cells (refE 1 b) none 0 ++ cells (refE 3 2) none 0).toArray 39)).alloc (.cells (cells (ranksF a b) (some ⟨w1.heap.size + 1 + 1, 0, none⟩) 2).toArray 39)) (w1.heap.size + 1 + 1) (cells (refE 1 b) none 0 ++ cells (refE 3 2) none 0).toArray 39 := (Blk.newAt (by simp) _ _).alloc _
      have hg5 := ((((Ext.refl (fun _ => False) w1).alloc (.cells (cells (refE 0 b) none 0 ++ cells (refE 1 2) none 0).toArray 39)).alloc (.cells (cells (ranksE a b) (some ⟨w1.heap.size, 0, none⟩) 2).toArray 39)).alloc (.cells (cells (refE 1 b) none 0 ++ cells (refE 3 2) none 0).toArray 39)).alloc (.cells (cells (ranksF a b) (some ⟨w1.heap.size + 1 + 1, 0, none⟩) 2).toArray 39)
      have hg15 := HG1.out.same hg5
      simp only [cells, ranksE, ranksF, opE, refE, Ex.op, Ex.kind, Ex.num, Ex.vs, Ex.rel, Ex.col, Ex.n, Ex.s, Ex.l, List.length_cons, List.length_nil, List.cons_append, List.nil_append, Nat.zero_add, Nat.reduceAdd] at hE hX hF hY hg5 hg15
      generalize (((w1.alloc _).alloc _).alloc _).alloc _ = w5 at hE hX hF hY hg15 ⊢
      have e0 := hE.cell 0; have e1 := hE.cell 1; have e2 := hE.cell 2; have e3 := hE.cell 3; have e4 := hE.cell 4; have e5 := hE.cell 5; have e6 := hE.cell 6; have e7 := hE.cell 7; have e8 := hE.cell 8
      simp at e0 e1 e2 e3 e4 e5 e6 e7 e8
      have l5 := hE.lt
      obtain ⟨pe, pf, pxe, pxf⟩ := ranks_e a b ha0 ha1 hb0 hb1
      obtain ⟨pb1, pb2⟩ := ranks_bad one two other
      have hib : I64 b := by unfold I64; omega
      have hRe : Rep w5 (fun _ => True) (ranksE a b) (cells (ranksE a b) (some ⟨w1.heap.size, 0, none⟩) 2) := rep_two a 0 b 1 2 ha0 ha1 i64_0 hib i64_1 (by unfold I64; omega) hX
      have hRf : Rep w5 (fun _ => True) (ranksF a b) (cells (ranksF a b) (some ⟨w1.heap.size + 1 + 1, 0, none⟩) 2) := rep_two a 1 b 3 2 ha0 ha1 i64_1 hib (by unfold I64; omega) (by unfold I64; omega) hY
      have hg7 := fun X Y => ((Ext.refl (fun _ => False) w5).alloc X).alloc Y
      obtain ⟨S, hS⟩ : ∃ S : ByteArray, S = ⟨(83 :: (tabText 3 [one, two] (2 : Int).toNat ++ exText [normF (ranksE a b)])).toArray⟩ := ⟨_, rfl⟩
      obtain ⟨T, hT⟩ : ∃ T : ByteArray, T = ⟨(83 :: (tabText 3 [one, two] (2 : Int).toNat ++ exText [])).toArray⟩ := ⟨_, rfl⟩
      have hSS : (S.toList == S.toList) = true := by simp
      have hST : (S.toList == T.toList) = false := by
        rw [ByteArray.toList_eq, ByteArray.toList_eq, hS, hT]
        rw [Bool.eq_false_iff]
        intro h
        have h := eq_of_beq h
        simp only [List.cons.injEq, true_and] at h
        exact exText_one _ (List.append_cancel_left h)
      have hOf1 : Calls Tryd.prog 11 #[.agg #[.slice (some ⟨w5.heap.size, 0, none⟩) 2 2, .int .i64 2, .slice none 0 0, .slice none 0 0, .slice (some ⟨w5.heap.size + 1, 0, none⟩) 1 1, .slice none 0 0, .slice none 0 0, .bool false, .slice none 0 0, .slice none 0 0, .bool false], .int .i64 3]
          ((w5.alloc (.cells #[.int .i64 one, .int .i64 two] 3)).alloc (.cells #[.int .i64 (9 + a), .int .i64 0, .int .i64 0, .string ⟨#[]⟩, .int .i64 0, .int .i64 0, .int .i64 0, .string ⟨#[]⟩, .slice (some ⟨w1.heap.size, 0, none⟩) 2 2] 39)) _ :=
        of_one _ w5.heap.size (w5.heap.size + 1) [one, two] 2 rfl 2 3 (ranksE a b) (ranksE a b) (cells (ranksE a b) (some ⟨w1.heap.size, 0, none⟩) 2) (HT.out.gro (hg15.same (hg7 _ _))) (by intro y hy; simp at hy; rcases hy with rfl | rfl <;> assumption) (by unfold I64; omega) (by unfold I64; omega)
          ((Blk.new w5 _ _).alloc _) (Blk.newAt (by simp) _ _) (hRe.gro (hg7 _ _)) pe pb1 pxe pe
      rw [← hS] at hOf1
      have HS := Lib.hid hS; have HTT := Lib.hid hT; clear hS hT
      have HOF1 := Lib.hid hOf1; have HRE := Lib.hid hRe; have HRF := Lib.hid hRf; have HF := Lib.hid hF; have HE := Lib.hid hE; have HG15 := Lib.hid hg15
      clear hOf1 hRe hRf hg7 hF hE hg15 hX hY
      go_upto_region 9 with (go_at_call 11; refine Calls.mono HOF1.out ?_; rintro r w7 ⟨rfl, hg8⟩; have HG8 := Lib.hid hg8; clear hg8 e0 e1 e2 e3 e4 e5 e6 e7 e8 l5)
      have hg57 := ((Ext.refl (fun _ => False) w5).alloc (.cells #[.int .i64 one, .int .i64 two] 3)).alloc (.cells #[.int .i64 (9 + a), .int .i64 0, .int .i64 0, .string ⟨#[]⟩, .int .i64 0, .int .i64 0, .int .i64 0, .string ⟨#[]⟩, .slice (some ⟨w1.heap.size, 0, none⟩) 2 2] 39) |>.same HG8.out
      have hF7 := HF.out.ext hg57 id
      have e0 := hF7.cell 0; have e1 := hF7.cell 1; have e2 := hF7.cell 2; have e3 := hF7.cell 3; have e4 := hF7.cell 4; have e5 := hF7.cell 5; have e6 := hF7.cell 6; have e7 := hF7.cell 7; have e8 := hF7.cell 8
      simp at e0 e1 e2 e3 e4 e5 e6 e7 e8
      have l5 := hF7.lt
      have hg17 := HG15.out.same hg57
      have hg9 := fun X Y => ((Ext.refl (fun _ => False) w7).alloc X).alloc Y
      have hOf2 : Calls Tryd.prog 11 #[.agg #[.slice (some ⟨w7.heap.size, 0, none⟩) 4 4, .int .i64 4, .slice none 0 0, .slice none 0 0, .slice (some ⟨w7.heap.size + 1, 0, none⟩) 1 1, .slice none 0 0, .slice none 0 0, .bool false, .slice none 0 0, .slice none 0 0, .bool false], .int .i64 10]
          ((w7.alloc (.cells #[.int .i64 other, .int .i64 one, .int .i64 other, .int .i64 two] 3)).alloc (.cells #[.int .i64 (9 + a), .int .i64 0, .int .i64 0, .string ⟨#[]⟩, .int .i64 0, .int .i64 0, .int .i64 0, .string ⟨#[]⟩, .slice (some ⟨w1.heap.size + 1 + 1, 0, none⟩) 2 2] 39)) _ :=
        of_one _ w7.heap.size (w7.heap.size + 1) [other, one, other, two] 4 rfl 4 10 (ranksF a b) (ranksE a b) (cells (ranksF a b) (some ⟨w1.heap.size + 1 + 1, 0, none⟩) 2) (HT.out.gro (hg17.same (hg9 _ _))) (by intro y hy; simp at hy; rcases hy with rfl | rfl | rfl | rfl <;> assumption) (by unfold I64; omega) (by unfold I64; omega)
          ((Blk.new w7 _ _).alloc _) (Blk.newAt (by simp) _ _) (HRF.out.gro (hg57.same (hg9 _ _))) pf pb2 pxf pe
      rw [← ranks_tab one two other, ← HS.out] at hOf2
      have HOF2 := Lib.hid hOf2; have HG17 := Lib.hid hg17
      clear hOf2 hg9 hg57 hF7 hg17
      go_upto_region 10 with (go_at_call 11; refine Calls.mono HOF2.out ?_; rintro r w9 ⟨rfl, hg10⟩; have HG10 := Lib.hid hg10; clear hg10 e0 e1 e2 e3 e4 e5 e6 e7 e8 l5)
      have hg19 := HG17.out.same ((((Ext.refl (fun _ => False) w7).alloc (.cells #[.int .i64 other, .int .i64 one, .int .i64 other, .int .i64 two] 3)).alloc (.cells #[.int .i64 (9 + a), .int .i64 0, .int .i64 0, .string ⟨#[]⟩, .int .i64 0, .int .i64 0, .int .i64 0, .string ⟨#[]⟩, .slice (some ⟨w1.heap.size + 1 + 1, 0, none⟩) 2 2] 39)).same HG10.out)
      have hg20 := hg19.alloc (.cells #[.int .i64 one, .int .i64 two] 3)
      have hOf3 : Calls Tryd.prog 11 #[.agg #[.slice (some ⟨w9.heap.size, 0, none⟩) 2 2, .int .i64 2, .slice none 0 0, .slice none 0 0, .slice none 0 0, .slice none 0 0, .slice none 0 0, .bool false, .slice none 0 0, .slice none 0 0, .bool false], .int .i64 3]
          (w9.alloc (.cells #[.int .i64 one, .int .i64 two] 3)) _ :=
        of_none _ w9.heap.size [one, two] 2 rfl 2 3 (HT.out.gro hg20) (by intro y hy; simp at hy; rcases hy with rfl | rfl <;> assumption) (by unfold I64; omega) (by unfold I64; omega) (Blk.new w9 _ _) pb1
      rw [← HTT.out] at hOf3
      have HOF3 := Lib.hid hOf3; have HG20 := Lib.hid hg20
      clear hOf3 hg20 hg19
      go_upto_region 11 with (go_at_call 11; refine Calls.mono HOF3.out ?_; rintro r w11 ⟨rfl, hg12⟩; have HG12 := Lib.hid hg12; clear hg12)
      go_wp2_with fail
      go_ret
      exact ⟨by first | rfl | simp [hST], HG20.out.same HG12.out⟩
    · go_upto_region 6 with (fail)
      have ho0 : 0 ≤ -(op + 1) := by omega
      have ho1 : -(op + 1) ≤ 9223372036854775807 := by omega
      generalize -(op + 1) = o at ho0 ho1 ⊢
      have hc0 : 0 ≤ col := by omega
      have hc1 : col ≤ 9223372036854775807 := by omega
      obtain ⟨c, hce⟩ : ∃ c, c = col := ⟨_, rfl⟩
      rw [← hce] at hc0 hc1 ⊢
      clear hce
      go_upto_region 8 with (fail)
      have ha0 : 0 ≤ o % 6 := by omega
      have ha1 : o % 6 < 6 := by omega
      have hb0 : 0 ≤ c % 6 := by omega
      have hb1 : c % 6 < 6 := by omega
      generalize o % 6 = a at ha0 ha1 ⊢
      generalize c % 6 = b at hb0 hb1 ⊢
      have hE : Blk ((((w1.alloc (.cells (cells (refE 0 b) none 0 ++ cells (refE 1 2) none 0).toArray 39)).alloc (.cells (cells (ranksE a b) (some ⟨w1.heap.size, 0, none⟩) 2).toArray 39)).alloc (.cells (cells (refE 1 b) none 0 ++ cells (refE 3 2) none 0).toArray 39)).alloc (.cells (cells (ranksF a b) (some ⟨w1.heap.size + 1 + 1, 0, none⟩) 2).toArray 39)) (w1.heap.size + 1) (cells (ranksE a b) (some ⟨w1.heap.size, 0, none⟩) 2).toArray 39 := ((Blk.newAt (by simp) _ _).alloc _).alloc _
      have hX : Blk ((((w1.alloc (.cells (cells (refE 0 b) none 0 ++ cells (refE 1 2) none 0).toArray 39)).alloc (.cells (cells (ranksE a b) (some ⟨w1.heap.size, 0, none⟩) 2).toArray 39)).alloc (.cells (cells (refE 1 b) none 0 ++ cells (refE 3 2) none 0).toArray 39)).alloc (.cells (cells (ranksF a b) (some ⟨w1.heap.size + 1 + 1, 0, none⟩) 2).toArray 39)) w1.heap.size (cells (refE 0 b) none 0 ++ cells (refE 1 2) none 0).toArray 39 := (((Blk.new _ _ _).alloc _).alloc _).alloc _
      have hF : Blk ((((w1.alloc (.cells (cells (refE 0 b) none 0 ++ cells (refE 1 2) none 0).toArray 39)).alloc (.cells (cells (ranksE a b) (some ⟨w1.heap.size, 0, none⟩) 2).toArray 39)).alloc (.cells (cells (refE 1 b) none 0 ++ cells (refE 3 2) none 0).toArray 39)).alloc (.cells (cells (ranksF a b) (some ⟨w1.heap.size + 1 + 1, 0, none⟩) 2).toArray 39)) (w1.heap.size + 1 + 1 + 1) (cells (ranksF a b) (some ⟨w1.heap.size + 1 + 1, 0, none⟩) 2).toArray 39 := Blk.newAt (by simp) _ _
      have hY : Blk ((((w1.alloc (.cells (cells (refE 0 b) none 0 ++ cells (refE 1 2) none 0).toArray 39)).alloc (.cells (cells (ranksE a b) (some ⟨w1.heap.size, 0, none⟩) 2).toArray 39)).alloc (.cells (cells (refE 1 b) none 0 ++ cells (refE 3 2) none 0).toArray 39)).alloc (.cells (cells (ranksF a b) (some ⟨w1.heap.size + 1 + 1, 0, none⟩) 2).toArray 39)) (w1.heap.size + 1 + 1) (cells (refE 1 b) none 0 ++ cells (refE 3 2) none 0).toArray 39 := (Blk.newAt (by simp) _ _).alloc _
      have hg5 := ((((Ext.refl (fun _ => False) w1).alloc (.cells (cells (refE 0 b) none 0 ++ cells (refE 1 2) none 0).toArray 39)).alloc (.cells (cells (ranksE a b) (some ⟨w1.heap.size, 0, none⟩) 2).toArray 39)).alloc (.cells (cells (refE 1 b) none 0 ++ cells (refE 3 2) none 0).toArray 39)).alloc (.cells (cells (ranksF a b) (some ⟨w1.heap.size + 1 + 1, 0, none⟩) 2).toArray 39)
      have hg15 := HG1.out.same hg5
      simp only [cells, ranksE, ranksF, opE, refE, Ex.op, Ex.kind, Ex.num, Ex.vs, Ex.rel, Ex.col, Ex.n, Ex.s, Ex.l, List.length_cons, List.length_nil, List.cons_append, List.nil_append, Nat.zero_add, Nat.reduceAdd] at hE hX hF hY hg5 hg15
      generalize (((w1.alloc _).alloc _).alloc _).alloc _ = w5 at hE hX hF hY hg15 ⊢
      have e0 := hE.cell 0; have e1 := hE.cell 1; have e2 := hE.cell 2; have e3 := hE.cell 3; have e4 := hE.cell 4; have e5 := hE.cell 5; have e6 := hE.cell 6; have e7 := hE.cell 7; have e8 := hE.cell 8
      simp at e0 e1 e2 e3 e4 e5 e6 e7 e8
      have l5 := hE.lt
      obtain ⟨pe, pf, pxe, pxf⟩ := ranks_e a b ha0 ha1 hb0 hb1
      obtain ⟨pb1, pb2⟩ := ranks_bad one two other
      have hib : I64 b := by unfold I64; omega
      have hRe : Rep w5 (fun _ => True) (ranksE a b) (cells (ranksE a b) (some ⟨w1.heap.size, 0, none⟩) 2) := rep_two a 0 b 1 2 ha0 ha1 i64_0 hib i64_1 (by unfold I64; omega) hX
      have hRf : Rep w5 (fun _ => True) (ranksF a b) (cells (ranksF a b) (some ⟨w1.heap.size + 1 + 1, 0, none⟩) 2) := rep_two a 1 b 3 2 ha0 ha1 i64_1 hib (by unfold I64; omega) (by unfold I64; omega) hY
      have hg7 := fun X Y => ((Ext.refl (fun _ => False) w5).alloc X).alloc Y
      obtain ⟨S, hS⟩ : ∃ S : ByteArray, S = ⟨(83 :: (tabText 3 [one, two] (2 : Int).toNat ++ exText [normF (ranksE a b)])).toArray⟩ := ⟨_, rfl⟩
      obtain ⟨T, hT⟩ : ∃ T : ByteArray, T = ⟨(83 :: (tabText 3 [one, two] (2 : Int).toNat ++ exText [])).toArray⟩ := ⟨_, rfl⟩
      have hSS : (S.toList == S.toList) = true := by simp
      have hST : (S.toList == T.toList) = false := by
        rw [ByteArray.toList_eq, ByteArray.toList_eq, hS, hT]
        rw [Bool.eq_false_iff]
        intro h
        have h := eq_of_beq h
        simp only [List.cons.injEq, true_and] at h
        exact exText_one _ (List.append_cancel_left h)
      have hOf1 : Calls Tryd.prog 11 #[.agg #[.slice (some ⟨w5.heap.size, 0, none⟩) 2 2, .int .i64 2, .slice none 0 0, .slice none 0 0, .slice (some ⟨w5.heap.size + 1, 0, none⟩) 1 1, .slice none 0 0, .slice none 0 0, .bool false, .slice none 0 0, .slice none 0 0, .bool false], .int .i64 3]
          ((w5.alloc (.cells #[.int .i64 one, .int .i64 two] 3)).alloc (.cells #[.int .i64 (9 + a), .int .i64 0, .int .i64 0, .string ⟨#[]⟩, .int .i64 0, .int .i64 0, .int .i64 0, .string ⟨#[]⟩, .slice (some ⟨w1.heap.size, 0, none⟩) 2 2] 39)) _ :=
        of_one _ w5.heap.size (w5.heap.size + 1) [one, two] 2 rfl 2 3 (ranksE a b) (ranksE a b) (cells (ranksE a b) (some ⟨w1.heap.size, 0, none⟩) 2) (HT.out.gro (hg15.same (hg7 _ _))) (by intro y hy; simp at hy; rcases hy with rfl | rfl <;> assumption) (by unfold I64; omega) (by unfold I64; omega)
          ((Blk.new w5 _ _).alloc _) (Blk.newAt (by simp) _ _) (hRe.gro (hg7 _ _)) pe pb1 pxe pe
      rw [← hS] at hOf1
      have HS := Lib.hid hS; have HTT := Lib.hid hT; clear hS hT
      have HOF1 := Lib.hid hOf1; have HRE := Lib.hid hRe; have HRF := Lib.hid hRf; have HF := Lib.hid hF; have HE := Lib.hid hE; have HG15 := Lib.hid hg15
      clear hOf1 hRe hRf hg7 hF hE hg15 hX hY
      go_upto_region 9 with (go_at_call 11; refine Calls.mono HOF1.out ?_; rintro r w7 ⟨rfl, hg8⟩; have HG8 := Lib.hid hg8; clear hg8 e0 e1 e2 e3 e4 e5 e6 e7 e8 l5)
      have hg57 := ((Ext.refl (fun _ => False) w5).alloc (.cells #[.int .i64 one, .int .i64 two] 3)).alloc (.cells #[.int .i64 (9 + a), .int .i64 0, .int .i64 0, .string ⟨#[]⟩, .int .i64 0, .int .i64 0, .int .i64 0, .string ⟨#[]⟩, .slice (some ⟨w1.heap.size, 0, none⟩) 2 2] 39) |>.same HG8.out
      have hF7 := HF.out.ext hg57 id
      have e0 := hF7.cell 0; have e1 := hF7.cell 1; have e2 := hF7.cell 2; have e3 := hF7.cell 3; have e4 := hF7.cell 4; have e5 := hF7.cell 5; have e6 := hF7.cell 6; have e7 := hF7.cell 7; have e8 := hF7.cell 8
      simp at e0 e1 e2 e3 e4 e5 e6 e7 e8
      have l5 := hF7.lt
      have hg17 := HG15.out.same hg57
      have hg9 := fun X Y => ((Ext.refl (fun _ => False) w7).alloc X).alloc Y
      have hOf2 : Calls Tryd.prog 11 #[.agg #[.slice (some ⟨w7.heap.size, 0, none⟩) 4 4, .int .i64 4, .slice none 0 0, .slice none 0 0, .slice (some ⟨w7.heap.size + 1, 0, none⟩) 1 1, .slice none 0 0, .slice none 0 0, .bool false, .slice none 0 0, .slice none 0 0, .bool false], .int .i64 10]
          ((w7.alloc (.cells #[.int .i64 other, .int .i64 one, .int .i64 other, .int .i64 two] 3)).alloc (.cells #[.int .i64 (9 + a), .int .i64 0, .int .i64 0, .string ⟨#[]⟩, .int .i64 0, .int .i64 0, .int .i64 0, .string ⟨#[]⟩, .slice (some ⟨w1.heap.size + 1 + 1, 0, none⟩) 2 2] 39)) _ :=
        of_one _ w7.heap.size (w7.heap.size + 1) [other, one, other, two] 4 rfl 4 10 (ranksF a b) (ranksE a b) (cells (ranksF a b) (some ⟨w1.heap.size + 1 + 1, 0, none⟩) 2) (HT.out.gro (hg17.same (hg9 _ _))) (by intro y hy; simp at hy; rcases hy with rfl | rfl | rfl | rfl <;> assumption) (by unfold I64; omega) (by unfold I64; omega)
          ((Blk.new w7 _ _).alloc _) (Blk.newAt (by simp) _ _) (HRF.out.gro (hg57.same (hg9 _ _))) pf pb2 pxf pe
      rw [← ranks_tab one two other, ← HS.out] at hOf2
      have HOF2 := Lib.hid hOf2; have HG17 := Lib.hid hg17
      clear hOf2 hg9 hg57 hF7 hg17
      go_upto_region 10 with (go_at_call 11; refine Calls.mono HOF2.out ?_; rintro r w9 ⟨rfl, hg10⟩; have HG10 := Lib.hid hg10; clear hg10 e0 e1 e2 e3 e4 e5 e6 e7 e8 l5)
      have hg19 := HG17.out.same ((((Ext.refl (fun _ => False) w7).alloc (.cells #[.int .i64 other, .int .i64 one, .int .i64 other, .int .i64 two] 3)).alloc (.cells #[.int .i64 (9 + a), .int .i64 0, .int .i64 0, .string ⟨#[]⟩, .int .i64 0, .int .i64 0, .int .i64 0, .string ⟨#[]⟩, .slice (some ⟨w1.heap.size + 1 + 1, 0, none⟩) 2 2] 39)).same HG10.out)
      have hg20 := hg19.alloc (.cells #[.int .i64 one, .int .i64 two] 3)
      have hOf3 : Calls Tryd.prog 11 #[.agg #[.slice (some ⟨w9.heap.size, 0, none⟩) 2 2, .int .i64 2, .slice none 0 0, .slice none 0 0, .slice none 0 0, .slice none 0 0, .slice none 0 0, .bool false, .slice none 0 0, .slice none 0 0, .bool false], .int .i64 3]
          (w9.alloc (.cells #[.int .i64 one, .int .i64 two] 3)) _ :=
        of_none _ w9.heap.size [one, two] 2 rfl 2 3 (HT.out.gro hg20) (by intro y hy; simp at hy; rcases hy with rfl | rfl <;> assumption) (by unfold I64; omega) (by unfold I64; omega) (Blk.new w9 _ _) pb1
      rw [← HTT.out] at hOf3
      have HOF3 := Lib.hid hOf3; have HG20 := Lib.hid hg20
      clear hOf3 hg20 hg19
      go_upto_region 11 with (go_at_call 11; refine Calls.mono HOF3.out ?_; rintro r w11 ⟨rfl, hg12⟩; have HG12 := Lib.hid hg12; clear hg12)
      go_wp2_with fail
      go_ret
      exact ⟨by first | rfl | simp [hST], HG20.out.same HG12.out⟩
  · by_cases hc : col < 0
    · go_upto_region 6 with (fail)
      have ho0 : 0 ≤ op := by omega
      have ho1 : op ≤ 9223372036854775807 := by omega
      obtain ⟨o, hoe⟩ : ∃ o, o = op := ⟨_, rfl⟩
      rw [← hoe] at ho0 ho1 ⊢
      clear hoe
      have hc0 : 0 ≤ -(col + 1) := by omega
      have hc1 : -(col + 1) ≤ 9223372036854775807 := by omega
      generalize -(col + 1) = c at hc0 hc1 ⊢
      go_upto_region 8 with (fail)
      have ha0 : 0 ≤ o % 6 := by omega
      have ha1 : o % 6 < 6 := by omega
      have hb0 : 0 ≤ c % 6 := by omega
      have hb1 : c % 6 < 6 := by omega
      generalize o % 6 = a at ha0 ha1 ⊢
      generalize c % 6 = b at hb0 hb1 ⊢
      have hE : Blk ((((w1.alloc (.cells (cells (refE 0 b) none 0 ++ cells (refE 1 2) none 0).toArray 39)).alloc (.cells (cells (ranksE a b) (some ⟨w1.heap.size, 0, none⟩) 2).toArray 39)).alloc (.cells (cells (refE 1 b) none 0 ++ cells (refE 3 2) none 0).toArray 39)).alloc (.cells (cells (ranksF a b) (some ⟨w1.heap.size + 1 + 1, 0, none⟩) 2).toArray 39)) (w1.heap.size + 1) (cells (ranksE a b) (some ⟨w1.heap.size, 0, none⟩) 2).toArray 39 := ((Blk.newAt (by simp) _ _).alloc _).alloc _
      have hX : Blk ((((w1.alloc (.cells (cells (refE 0 b) none 0 ++ cells (refE 1 2) none 0).toArray 39)).alloc (.cells (cells (ranksE a b) (some ⟨w1.heap.size, 0, none⟩) 2).toArray 39)).alloc (.cells (cells (refE 1 b) none 0 ++ cells (refE 3 2) none 0).toArray 39)).alloc (.cells (cells (ranksF a b) (some ⟨w1.heap.size + 1 + 1, 0, none⟩) 2).toArray 39)) w1.heap.size (cells (refE 0 b) none 0 ++ cells (refE 1 2) none 0).toArray 39 := (((Blk.new _ _ _).alloc _).alloc _).alloc _
      have hF : Blk ((((w1.alloc (.cells (cells (refE 0 b) none 0 ++ cells (refE 1 2) none 0).toArray 39)).alloc (.cells (cells (ranksE a b) (some ⟨w1.heap.size, 0, none⟩) 2).toArray 39)).alloc (.cells (cells (refE 1 b) none 0 ++ cells (refE 3 2) none 0).toArray 39)).alloc (.cells (cells (ranksF a b) (some ⟨w1.heap.size + 1 + 1, 0, none⟩) 2).toArray 39)) (w1.heap.size + 1 + 1 + 1) (cells (ranksF a b) (some ⟨w1.heap.size + 1 + 1, 0, none⟩) 2).toArray 39 := Blk.newAt (by simp) _ _
      have hY : Blk ((((w1.alloc (.cells (cells (refE 0 b) none 0 ++ cells (refE 1 2) none 0).toArray 39)).alloc (.cells (cells (ranksE a b) (some ⟨w1.heap.size, 0, none⟩) 2).toArray 39)).alloc (.cells (cells (refE 1 b) none 0 ++ cells (refE 3 2) none 0).toArray 39)).alloc (.cells (cells (ranksF a b) (some ⟨w1.heap.size + 1 + 1, 0, none⟩) 2).toArray 39)) (w1.heap.size + 1 + 1) (cells (refE 1 b) none 0 ++ cells (refE 3 2) none 0).toArray 39 := (Blk.newAt (by simp) _ _).alloc _
      have hg5 := ((((Ext.refl (fun _ => False) w1).alloc (.cells (cells (refE 0 b) none 0 ++ cells (refE 1 2) none 0).toArray 39)).alloc (.cells (cells (ranksE a b) (some ⟨w1.heap.size, 0, none⟩) 2).toArray 39)).alloc (.cells (cells (refE 1 b) none 0 ++ cells (refE 3 2) none 0).toArray 39)).alloc (.cells (cells (ranksF a b) (some ⟨w1.heap.size + 1 + 1, 0, none⟩) 2).toArray 39)
      have hg15 := HG1.out.same hg5
      simp only [cells, ranksE, ranksF, opE, refE, Ex.op, Ex.kind, Ex.num, Ex.vs, Ex.rel, Ex.col, Ex.n, Ex.s, Ex.l, List.length_cons, List.length_nil, List.cons_append, List.nil_append, Nat.zero_add, Nat.reduceAdd] at hE hX hF hY hg5 hg15
      generalize (((w1.alloc _).alloc _).alloc _).alloc _ = w5 at hE hX hF hY hg15 ⊢
      have e0 := hE.cell 0; have e1 := hE.cell 1; have e2 := hE.cell 2; have e3 := hE.cell 3; have e4 := hE.cell 4; have e5 := hE.cell 5; have e6 := hE.cell 6; have e7 := hE.cell 7; have e8 := hE.cell 8
      simp at e0 e1 e2 e3 e4 e5 e6 e7 e8
      have l5 := hE.lt
      obtain ⟨pe, pf, pxe, pxf⟩ := ranks_e a b ha0 ha1 hb0 hb1
      obtain ⟨pb1, pb2⟩ := ranks_bad one two other
      have hib : I64 b := by unfold I64; omega
      have hRe : Rep w5 (fun _ => True) (ranksE a b) (cells (ranksE a b) (some ⟨w1.heap.size, 0, none⟩) 2) := rep_two a 0 b 1 2 ha0 ha1 i64_0 hib i64_1 (by unfold I64; omega) hX
      have hRf : Rep w5 (fun _ => True) (ranksF a b) (cells (ranksF a b) (some ⟨w1.heap.size + 1 + 1, 0, none⟩) 2) := rep_two a 1 b 3 2 ha0 ha1 i64_1 hib (by unfold I64; omega) (by unfold I64; omega) hY
      have hg7 := fun X Y => ((Ext.refl (fun _ => False) w5).alloc X).alloc Y
      obtain ⟨S, hS⟩ : ∃ S : ByteArray, S = ⟨(83 :: (tabText 3 [one, two] (2 : Int).toNat ++ exText [normF (ranksE a b)])).toArray⟩ := ⟨_, rfl⟩
      obtain ⟨T, hT⟩ : ∃ T : ByteArray, T = ⟨(83 :: (tabText 3 [one, two] (2 : Int).toNat ++ exText [])).toArray⟩ := ⟨_, rfl⟩
      have hSS : (S.toList == S.toList) = true := by simp
      have hST : (S.toList == T.toList) = false := by
        rw [ByteArray.toList_eq, ByteArray.toList_eq, hS, hT]
        rw [Bool.eq_false_iff]
        intro h
        have h := eq_of_beq h
        simp only [List.cons.injEq, true_and] at h
        exact exText_one _ (List.append_cancel_left h)
      have hOf1 : Calls Tryd.prog 11 #[.agg #[.slice (some ⟨w5.heap.size, 0, none⟩) 2 2, .int .i64 2, .slice none 0 0, .slice none 0 0, .slice (some ⟨w5.heap.size + 1, 0, none⟩) 1 1, .slice none 0 0, .slice none 0 0, .bool false, .slice none 0 0, .slice none 0 0, .bool false], .int .i64 3]
          ((w5.alloc (.cells #[.int .i64 one, .int .i64 two] 3)).alloc (.cells #[.int .i64 (9 + a), .int .i64 0, .int .i64 0, .string ⟨#[]⟩, .int .i64 0, .int .i64 0, .int .i64 0, .string ⟨#[]⟩, .slice (some ⟨w1.heap.size, 0, none⟩) 2 2] 39)) _ :=
        of_one _ w5.heap.size (w5.heap.size + 1) [one, two] 2 rfl 2 3 (ranksE a b) (ranksE a b) (cells (ranksE a b) (some ⟨w1.heap.size, 0, none⟩) 2) (HT.out.gro (hg15.same (hg7 _ _))) (by intro y hy; simp at hy; rcases hy with rfl | rfl <;> assumption) (by unfold I64; omega) (by unfold I64; omega)
          ((Blk.new w5 _ _).alloc _) (Blk.newAt (by simp) _ _) (hRe.gro (hg7 _ _)) pe pb1 pxe pe
      rw [← hS] at hOf1
      have HS := Lib.hid hS; have HTT := Lib.hid hT; clear hS hT
      have HOF1 := Lib.hid hOf1; have HRE := Lib.hid hRe; have HRF := Lib.hid hRf; have HF := Lib.hid hF; have HE := Lib.hid hE; have HG15 := Lib.hid hg15
      clear hOf1 hRe hRf hg7 hF hE hg15 hX hY
      go_upto_region 9 with (go_at_call 11; refine Calls.mono HOF1.out ?_; rintro r w7 ⟨rfl, hg8⟩; have HG8 := Lib.hid hg8; clear hg8 e0 e1 e2 e3 e4 e5 e6 e7 e8 l5)
      have hg57 := ((Ext.refl (fun _ => False) w5).alloc (.cells #[.int .i64 one, .int .i64 two] 3)).alloc (.cells #[.int .i64 (9 + a), .int .i64 0, .int .i64 0, .string ⟨#[]⟩, .int .i64 0, .int .i64 0, .int .i64 0, .string ⟨#[]⟩, .slice (some ⟨w1.heap.size, 0, none⟩) 2 2] 39) |>.same HG8.out
      have hF7 := HF.out.ext hg57 id
      have e0 := hF7.cell 0; have e1 := hF7.cell 1; have e2 := hF7.cell 2; have e3 := hF7.cell 3; have e4 := hF7.cell 4; have e5 := hF7.cell 5; have e6 := hF7.cell 6; have e7 := hF7.cell 7; have e8 := hF7.cell 8
      simp at e0 e1 e2 e3 e4 e5 e6 e7 e8
      have l5 := hF7.lt
      have hg17 := HG15.out.same hg57
      have hg9 := fun X Y => ((Ext.refl (fun _ => False) w7).alloc X).alloc Y
      have hOf2 : Calls Tryd.prog 11 #[.agg #[.slice (some ⟨w7.heap.size, 0, none⟩) 4 4, .int .i64 4, .slice none 0 0, .slice none 0 0, .slice (some ⟨w7.heap.size + 1, 0, none⟩) 1 1, .slice none 0 0, .slice none 0 0, .bool false, .slice none 0 0, .slice none 0 0, .bool false], .int .i64 10]
          ((w7.alloc (.cells #[.int .i64 other, .int .i64 one, .int .i64 other, .int .i64 two] 3)).alloc (.cells #[.int .i64 (9 + a), .int .i64 0, .int .i64 0, .string ⟨#[]⟩, .int .i64 0, .int .i64 0, .int .i64 0, .string ⟨#[]⟩, .slice (some ⟨w1.heap.size + 1 + 1, 0, none⟩) 2 2] 39)) _ :=
        of_one _ w7.heap.size (w7.heap.size + 1) [other, one, other, two] 4 rfl 4 10 (ranksF a b) (ranksE a b) (cells (ranksF a b) (some ⟨w1.heap.size + 1 + 1, 0, none⟩) 2) (HT.out.gro (hg17.same (hg9 _ _))) (by intro y hy; simp at hy; rcases hy with rfl | rfl | rfl | rfl <;> assumption) (by unfold I64; omega) (by unfold I64; omega)
          ((Blk.new w7 _ _).alloc _) (Blk.newAt (by simp) _ _) (HRF.out.gro (hg57.same (hg9 _ _))) pf pb2 pxf pe
      rw [← ranks_tab one two other, ← HS.out] at hOf2
      have HOF2 := Lib.hid hOf2; have HG17 := Lib.hid hg17
      clear hOf2 hg9 hg57 hF7 hg17
      go_upto_region 10 with (go_at_call 11; refine Calls.mono HOF2.out ?_; rintro r w9 ⟨rfl, hg10⟩; have HG10 := Lib.hid hg10; clear hg10 e0 e1 e2 e3 e4 e5 e6 e7 e8 l5)
      have hg19 := HG17.out.same ((((Ext.refl (fun _ => False) w7).alloc (.cells #[.int .i64 other, .int .i64 one, .int .i64 other, .int .i64 two] 3)).alloc (.cells #[.int .i64 (9 + a), .int .i64 0, .int .i64 0, .string ⟨#[]⟩, .int .i64 0, .int .i64 0, .int .i64 0, .string ⟨#[]⟩, .slice (some ⟨w1.heap.size + 1 + 1, 0, none⟩) 2 2] 39)).same HG10.out)
      have hg20 := hg19.alloc (.cells #[.int .i64 one, .int .i64 two] 3)
      have hOf3 : Calls Tryd.prog 11 #[.agg #[.slice (some ⟨w9.heap.size, 0, none⟩) 2 2, .int .i64 2, .slice none 0 0, .slice none 0 0, .slice none 0 0, .slice none 0 0, .slice none 0 0, .bool false, .slice none 0 0, .slice none 0 0, .bool false], .int .i64 3]
          (w9.alloc (.cells #[.int .i64 one, .int .i64 two] 3)) _ :=
        of_none _ w9.heap.size [one, two] 2 rfl 2 3 (HT.out.gro hg20) (by intro y hy; simp at hy; rcases hy with rfl | rfl <;> assumption) (by unfold I64; omega) (by unfold I64; omega) (Blk.new w9 _ _) pb1
      rw [← HTT.out] at hOf3
      have HOF3 := Lib.hid hOf3; have HG20 := Lib.hid hg20
      clear hOf3 hg20 hg19
      go_upto_region 11 with (go_at_call 11; refine Calls.mono HOF3.out ?_; rintro r w11 ⟨rfl, hg12⟩; have HG12 := Lib.hid hg12; clear hg12)
      go_wp2_with fail
      go_ret
      exact ⟨by first | rfl | simp [hST], HG20.out.same HG12.out⟩
    · go_upto_region 6 with (fail)
      have ho0 : 0 ≤ op := by omega
      have ho1 : op ≤ 9223372036854775807 := by omega
      obtain ⟨o, hoe⟩ : ∃ o, o = op := ⟨_, rfl⟩
      rw [← hoe] at ho0 ho1 ⊢
      clear hoe
      have hc0 : 0 ≤ col := by omega
      have hc1 : col ≤ 9223372036854775807 := by omega
      obtain ⟨c, hce⟩ : ∃ c, c = col := ⟨_, rfl⟩
      rw [← hce] at hc0 hc1 ⊢
      clear hce
      go_upto_region 8 with (fail)
      have ha0 : 0 ≤ o % 6 := by omega
      have ha1 : o % 6 < 6 := by omega
      have hb0 : 0 ≤ c % 6 := by omega
      have hb1 : c % 6 < 6 := by omega
      generalize o % 6 = a at ha0 ha1 ⊢
      generalize c % 6 = b at hb0 hb1 ⊢
      have hE : Blk ((((w1.alloc (.cells (cells (refE 0 b) none 0 ++ cells (refE 1 2) none 0).toArray 39)).alloc (.cells (cells (ranksE a b) (some ⟨w1.heap.size, 0, none⟩) 2).toArray 39)).alloc (.cells (cells (refE 1 b) none 0 ++ cells (refE 3 2) none 0).toArray 39)).alloc (.cells (cells (ranksF a b) (some ⟨w1.heap.size + 1 + 1, 0, none⟩) 2).toArray 39)) (w1.heap.size + 1) (cells (ranksE a b) (some ⟨w1.heap.size, 0, none⟩) 2).toArray 39 := ((Blk.newAt (by simp) _ _).alloc _).alloc _
      have hX : Blk ((((w1.alloc (.cells (cells (refE 0 b) none 0 ++ cells (refE 1 2) none 0).toArray 39)).alloc (.cells (cells (ranksE a b) (some ⟨w1.heap.size, 0, none⟩) 2).toArray 39)).alloc (.cells (cells (refE 1 b) none 0 ++ cells (refE 3 2) none 0).toArray 39)).alloc (.cells (cells (ranksF a b) (some ⟨w1.heap.size + 1 + 1, 0, none⟩) 2).toArray 39)) w1.heap.size (cells (refE 0 b) none 0 ++ cells (refE 1 2) none 0).toArray 39 := (((Blk.new _ _ _).alloc _).alloc _).alloc _
      have hF : Blk ((((w1.alloc (.cells (cells (refE 0 b) none 0 ++ cells (refE 1 2) none 0).toArray 39)).alloc (.cells (cells (ranksE a b) (some ⟨w1.heap.size, 0, none⟩) 2).toArray 39)).alloc (.cells (cells (refE 1 b) none 0 ++ cells (refE 3 2) none 0).toArray 39)).alloc (.cells (cells (ranksF a b) (some ⟨w1.heap.size + 1 + 1, 0, none⟩) 2).toArray 39)) (w1.heap.size + 1 + 1 + 1) (cells (ranksF a b) (some ⟨w1.heap.size + 1 + 1, 0, none⟩) 2).toArray 39 := Blk.newAt (by simp) _ _
      have hY : Blk ((((w1.alloc (.cells (cells (refE 0 b) none 0 ++ cells (refE 1 2) none 0).toArray 39)).alloc (.cells (cells (ranksE a b) (some ⟨w1.heap.size, 0, none⟩) 2).toArray 39)).alloc (.cells (cells (refE 1 b) none 0 ++ cells (refE 3 2) none 0).toArray 39)).alloc (.cells (cells (ranksF a b) (some ⟨w1.heap.size + 1 + 1, 0, none⟩) 2).toArray 39)) (w1.heap.size + 1 + 1) (cells (refE 1 b) none 0 ++ cells (refE 3 2) none 0).toArray 39 := (Blk.newAt (by simp) _ _).alloc _
      have hg5 := ((((Ext.refl (fun _ => False) w1).alloc (.cells (cells (refE 0 b) none 0 ++ cells (refE 1 2) none 0).toArray 39)).alloc (.cells (cells (ranksE a b) (some ⟨w1.heap.size, 0, none⟩) 2).toArray 39)).alloc (.cells (cells (refE 1 b) none 0 ++ cells (refE 3 2) none 0).toArray 39)).alloc (.cells (cells (ranksF a b) (some ⟨w1.heap.size + 1 + 1, 0, none⟩) 2).toArray 39)
      have hg15 := HG1.out.same hg5
      simp only [cells, ranksE, ranksF, opE, refE, Ex.op, Ex.kind, Ex.num, Ex.vs, Ex.rel, Ex.col, Ex.n, Ex.s, Ex.l, List.length_cons, List.length_nil, List.cons_append, List.nil_append, Nat.zero_add, Nat.reduceAdd] at hE hX hF hY hg5 hg15
      generalize (((w1.alloc _).alloc _).alloc _).alloc _ = w5 at hE hX hF hY hg15 ⊢
      have e0 := hE.cell 0; have e1 := hE.cell 1; have e2 := hE.cell 2; have e3 := hE.cell 3; have e4 := hE.cell 4; have e5 := hE.cell 5; have e6 := hE.cell 6; have e7 := hE.cell 7; have e8 := hE.cell 8
      simp at e0 e1 e2 e3 e4 e5 e6 e7 e8
      have l5 := hE.lt
      obtain ⟨pe, pf, pxe, pxf⟩ := ranks_e a b ha0 ha1 hb0 hb1
      obtain ⟨pb1, pb2⟩ := ranks_bad one two other
      have hib : I64 b := by unfold I64; omega
      have hRe : Rep w5 (fun _ => True) (ranksE a b) (cells (ranksE a b) (some ⟨w1.heap.size, 0, none⟩) 2) := rep_two a 0 b 1 2 ha0 ha1 i64_0 hib i64_1 (by unfold I64; omega) hX
      have hRf : Rep w5 (fun _ => True) (ranksF a b) (cells (ranksF a b) (some ⟨w1.heap.size + 1 + 1, 0, none⟩) 2) := rep_two a 1 b 3 2 ha0 ha1 i64_1 hib (by unfold I64; omega) (by unfold I64; omega) hY
      have hg7 := fun X Y => ((Ext.refl (fun _ => False) w5).alloc X).alloc Y
      obtain ⟨S, hS⟩ : ∃ S : ByteArray, S = ⟨(83 :: (tabText 3 [one, two] (2 : Int).toNat ++ exText [normF (ranksE a b)])).toArray⟩ := ⟨_, rfl⟩
      obtain ⟨T, hT⟩ : ∃ T : ByteArray, T = ⟨(83 :: (tabText 3 [one, two] (2 : Int).toNat ++ exText [])).toArray⟩ := ⟨_, rfl⟩
      have hSS : (S.toList == S.toList) = true := by simp
      have hST : (S.toList == T.toList) = false := by
        rw [ByteArray.toList_eq, ByteArray.toList_eq, hS, hT]
        rw [Bool.eq_false_iff]
        intro h
        have h := eq_of_beq h
        simp only [List.cons.injEq, true_and] at h
        exact exText_one _ (List.append_cancel_left h)
      have hOf1 : Calls Tryd.prog 11 #[.agg #[.slice (some ⟨w5.heap.size, 0, none⟩) 2 2, .int .i64 2, .slice none 0 0, .slice none 0 0, .slice (some ⟨w5.heap.size + 1, 0, none⟩) 1 1, .slice none 0 0, .slice none 0 0, .bool false, .slice none 0 0, .slice none 0 0, .bool false], .int .i64 3]
          ((w5.alloc (.cells #[.int .i64 one, .int .i64 two] 3)).alloc (.cells #[.int .i64 (9 + a), .int .i64 0, .int .i64 0, .string ⟨#[]⟩, .int .i64 0, .int .i64 0, .int .i64 0, .string ⟨#[]⟩, .slice (some ⟨w1.heap.size, 0, none⟩) 2 2] 39)) _ :=
        of_one _ w5.heap.size (w5.heap.size + 1) [one, two] 2 rfl 2 3 (ranksE a b) (ranksE a b) (cells (ranksE a b) (some ⟨w1.heap.size, 0, none⟩) 2) (HT.out.gro (hg15.same (hg7 _ _))) (by intro y hy; simp at hy; rcases hy with rfl | rfl <;> assumption) (by unfold I64; omega) (by unfold I64; omega)
          ((Blk.new w5 _ _).alloc _) (Blk.newAt (by simp) _ _) (hRe.gro (hg7 _ _)) pe pb1 pxe pe
      rw [← hS] at hOf1
      have HS := Lib.hid hS; have HTT := Lib.hid hT; clear hS hT
      have HOF1 := Lib.hid hOf1; have HRE := Lib.hid hRe; have HRF := Lib.hid hRf; have HF := Lib.hid hF; have HE := Lib.hid hE; have HG15 := Lib.hid hg15
      clear hOf1 hRe hRf hg7 hF hE hg15 hX hY
      go_upto_region 9 with (go_at_call 11; refine Calls.mono HOF1.out ?_; rintro r w7 ⟨rfl, hg8⟩; have HG8 := Lib.hid hg8; clear hg8 e0 e1 e2 e3 e4 e5 e6 e7 e8 l5)
      have hg57 := ((Ext.refl (fun _ => False) w5).alloc (.cells #[.int .i64 one, .int .i64 two] 3)).alloc (.cells #[.int .i64 (9 + a), .int .i64 0, .int .i64 0, .string ⟨#[]⟩, .int .i64 0, .int .i64 0, .int .i64 0, .string ⟨#[]⟩, .slice (some ⟨w1.heap.size, 0, none⟩) 2 2] 39) |>.same HG8.out
      have hF7 := HF.out.ext hg57 id
      have e0 := hF7.cell 0; have e1 := hF7.cell 1; have e2 := hF7.cell 2; have e3 := hF7.cell 3; have e4 := hF7.cell 4; have e5 := hF7.cell 5; have e6 := hF7.cell 6; have e7 := hF7.cell 7; have e8 := hF7.cell 8
      simp at e0 e1 e2 e3 e4 e5 e6 e7 e8
      have l5 := hF7.lt
      have hg17 := HG15.out.same hg57
      have hg9 := fun X Y => ((Ext.refl (fun _ => False) w7).alloc X).alloc Y
      have hOf2 : Calls Tryd.prog 11 #[.agg #[.slice (some ⟨w7.heap.size, 0, none⟩) 4 4, .int .i64 4, .slice none 0 0, .slice none 0 0, .slice (some ⟨w7.heap.size + 1, 0, none⟩) 1 1, .slice none 0 0, .slice none 0 0, .bool false, .slice none 0 0, .slice none 0 0, .bool false], .int .i64 10]
          ((w7.alloc (.cells #[.int .i64 other, .int .i64 one, .int .i64 other, .int .i64 two] 3)).alloc (.cells #[.int .i64 (9 + a), .int .i64 0, .int .i64 0, .string ⟨#[]⟩, .int .i64 0, .int .i64 0, .int .i64 0, .string ⟨#[]⟩, .slice (some ⟨w1.heap.size + 1 + 1, 0, none⟩) 2 2] 39)) _ :=
        of_one _ w7.heap.size (w7.heap.size + 1) [other, one, other, two] 4 rfl 4 10 (ranksF a b) (ranksE a b) (cells (ranksF a b) (some ⟨w1.heap.size + 1 + 1, 0, none⟩) 2) (HT.out.gro (hg17.same (hg9 _ _))) (by intro y hy; simp at hy; rcases hy with rfl | rfl | rfl | rfl <;> assumption) (by unfold I64; omega) (by unfold I64; omega)
          ((Blk.new w7 _ _).alloc _) (Blk.newAt (by simp) _ _) (HRF.out.gro (hg57.same (hg9 _ _))) pf pb2 pxf pe
      rw [← ranks_tab one two other, ← HS.out] at hOf2
      have HOF2 := Lib.hid hOf2; have HG17 := Lib.hid hg17
      clear hOf2 hg9 hg57 hF7 hg17
      go_upto_region 10 with (go_at_call 11; refine Calls.mono HOF2.out ?_; rintro r w9 ⟨rfl, hg10⟩; have HG10 := Lib.hid hg10; clear hg10 e0 e1 e2 e3 e4 e5 e6 e7 e8 l5)
      have hg19 := HG17.out.same ((((Ext.refl (fun _ => False) w7).alloc (.cells #[.int .i64 other, .int .i64 one, .int .i64 other, .int .i64 two] 3)).alloc (.cells #[.int .i64 (9 + a), .int .i64 0, .int .i64 0, .string ⟨#[]⟩, .int .i64 0, .int .i64 0, .int .i64 0, .string ⟨#[]⟩, .slice (some ⟨w1.heap.size + 1 + 1, 0, none⟩) 2 2] 39)).same HG10.out)
      have hg20 := hg19.alloc (.cells #[.int .i64 one, .int .i64 two] 3)
      have hOf3 : Calls Tryd.prog 11 #[.agg #[.slice (some ⟨w9.heap.size, 0, none⟩) 2 2, .int .i64 2, .slice none 0 0, .slice none 0 0, .slice none 0 0, .slice none 0 0, .slice none 0 0, .bool false, .slice none 0 0, .slice none 0 0, .bool false], .int .i64 3]
          (w9.alloc (.cells #[.int .i64 one, .int .i64 two] 3)) _ :=
        of_none _ w9.heap.size [one, two] 2 rfl 2 3 (HT.out.gro hg20) (by intro y hy; simp at hy; rcases hy with rfl | rfl <;> assumption) (by unfold I64; omega) (by unfold I64; omega) (Blk.new w9 _ _) pb1
      rw [← HTT.out] at hOf3
      have HOF3 := Lib.hid hOf3; have HG20 := Lib.hid hg20
      clear hOf3 hg20 hg19
      go_upto_region 11 with (go_at_call 11; refine Calls.mono HOF3.out ?_; rintro r w11 ⟨rfl, hg12⟩; have HG12 := Lib.hid hg12; clear hg12)
      go_wp2_with fail
      go_ret
      exact ⟨by first | rfl | simp [hST], HG20.out.same HG12.out⟩
end Go.Proofs.YtgikebkgihcogaaDoor
