/- sign.Conds. -/
import Derived.Test.YtgikebkgihcogaaDoorC4
namespace Go.Proofs.YtgikebkgihcogaaDoor
open Go.RowKit Go.Sort
set_option maxHeartbeats 1000000

theorem dedup_sub (eq : Ex → Ex → Bool) : ∀ (xs : List Ex), (dedup eq xs).Sublist xs := by
  have h : ∀ (xs : List Ex) p, (dedupFrom eq p xs).Sublist xs := by
    intro xs
    induction xs with
    | nil => intro p; exact List.Sublist.refl _
    | cons x xs ih =>
      intro p
      rw [dedupFrom]
      split
      · exact (ih x).cons x
      · exact (ih x).cons_cons x
  intro xs
  cases xs with
  | nil => exact List.Sublist.refl _
  | cons x xs => exact (h xs x).cons_cons x

set_option maxRecDepth 100000 in
theorem sign_Conds (w : World) (ok : Nat → Prop) (A : Option Addr) (cap : Nat) (xs : List Ex) (css : Nat → List Value) (hL : LRep w ok A xs css) (ht : Tab w) (hn : xs.length ≤ 1353245080300) :
    Calls Tryd.prog 15 #[.slice A xs.length cap] w (CondsPost w xs) := by
  have hC := slices_ContainsFunc 37 #[] A xs.length cap css (fun i w1 => (∀ j (h : j < xs.length), j < i → rightF xs[j] = true) ∧ Gro w w1) (fun w1 => xs.all rightF = false ∧ Gro w w1) w (by unfold maxLen; omega)
    (fun _ _ => by kernel_rfl) ⟨fun j _ h => by omega, Ext.refl _ _⟩ (fun i w1 hi hj => (hL.gro hj.2).elem i hi) (fun i w1 hi hj => by
      refine (sign_Conds1 ok xs[i] (css i) w1 ((hL.gro hj.2).hl i hi)).mono ?_
      rintro r w2 ⟨rfl, hg⟩
      by_cases hr : rightF xs[i] = true
      · refine .inl ⟨by rw [hr]; rfl, fun j h hji => ?_, hj.2.same hg⟩
        rcases Nat.lt_or_eq_of_le (Nat.le_of_lt_succ hji) with h' | h'
        · exact hj.1 j h h'
        · subst h'; exact hr
      · have hr' : rightF xs[i] = false := by simpa using hr
        refine .inr ⟨by rw [hr']; rfl, ?_, hj.2.same hg⟩
        rw [List.all_eq_false]
        exact ⟨xs[i], List.getElem_mem hi, hr⟩)
  have HC := Lib.hid hC; have HL := Lib.hid hL; have HT := Lib.hid ht; clear hC hL ht
  go_enter Tryd.func15, Tryd.ntmps15
  go_wp2_with fail
  refine HC.out.mono ?_
  rintro e w1 (⟨rfl, hall, hg1⟩ | ⟨rfl, hall, hg1⟩)
  · have hall' : xs.all rightF = true := by
      rw [List.all_eq_true]
      intro x hx
      obtain ⟨j, hj, rfl⟩ := List.getElem_of_mem hx
      exact hall j hj hj
    have HALL := Lib.hid hall'; have HG1 := Lib.hid hg1; clear hall hall' hg1
    go_upto_region 4 with (go_at_call 32; refine (sign_turned _).mono ?_; rintro r w2 ⟨rfl, ht2, hg2⟩; have HT2 := Lib.hid ht2; have HG2 := Lib.hid hg2; clear ht2 hg2)
    have hb3 := Blk.new w2 #[.map (some w1.heap.size)] 69
    have hg3 := (Ext.refl (fun _ => False) w2).alloc (.cells #[.map (some w1.heap.size)] 69)
    generalize w2.alloc (.cells #[.map (some w1.heap.size)] 69) = w3 at hb3 hg3 ⊢
    have hgw3 : Gro w w3 := HG1.out.same (HG2.out.same hg3)
    have ht3 : Turns w3 w1.heap.size := HT2.out.ext hg3 id
    have hsz3 := hgw3.size
    have hEach := sign_each 39 #[.pointer (some ⟨w2.heap.size, 0, none⟩)] (fun _ _ => by kernel_rfl) normF w3 ok A cap xs css (HL.out.gro hgw3) (by omega) (by
      intro j hj W hgW
      refine sign_Conds2 (css j) (HL.out.hl j hj).length (HL.out.hl j hj).oneCell w1.heap.size w2.heap.size W _ (hb3.ext hgW id) ?_
      intro W2 hgW2 _
      have hg := hgW.same hgW2
      exact sign_normal w ok xs[j] (css j) (HL.out.hl j hj) W2 w1.heap.size (hgw3.same hg) (ht3.ext hg id) (right_own (List.all_eq_true.1 HALL.out _ (List.getElem_mem hj))) (HT.out.gro (hgw3.same hg)))
    have HEACH := Lib.hid hEach; have HGW3 := Lib.hid hgw3; clear hEach hb3 hg3 hgw3 ht3
    go_upto_region 5 with (go_at_call 38; refine HEACH.out.mono ?_; rintro r w4 ⟨v, rfl, hM4, hg4⟩; have HM4 := Lib.hid hM4; have HG4 := Lib.hid hg4; clear hM4 hg4)
    have hob := HM4.out.own_base
    have htl := HT.out.lt
    have hnt : ∀ {W : World}, Ext (fun k => v.ownBlock = some k) w4 W → Tab W := fun hx => (HT.out.gro (HGW3.out.same HG4.out)).ext hx (fun h => by have := hob _ h; omega)
    have hSort := slices_SortFunc w4 w3.heap.size v (xs.map normF) HM4.out (by simpa using hn) 41 (fun _ _ => by kernel_rfl) cmpE_swo (fun ok' x y cs ds W hx hR1 hR2 => sign_Conds3 ok' x y cs ds W hR1 hR2 (hnt hx))
    have HS := Lib.hid hSort; clear hSort
    go_upto_region 6 with (go_at_call 40; refine HS.out.mono ?_; rintro r w5 ⟨rfl, ys, hp, hpw, hM5, hx5⟩; have HP := Lib.hid hp; have HPW := Lib.hid hpw; have HM5 := Lib.hid hM5; have HX5 := Lib.hid hx5; clear hp hpw hM5 hx5)
    have hylen : ys.length = xs.length := by rw [HP.out.length_eq, List.length_map]
    have hCom := slices_CompactFunc w5 w3.heap.size v ys HM5.out (by omega) 44 (fun _ _ => by kernel_rfl) sameF (fun ok' x y cs ds W hx hR1 hR2 => expr_Same ok' x y cs ds W hR1 hR2 (hnt (HX5.out.same hx)))
    have HC2 := Lib.hid hCom; clear hCom
    go_wp2_with (go_at_call 43; refine HC2.out.mono ?_; rintro r w6 ⟨v', rfl, hM6, hx6⟩; have HM6 := Lib.hid hM6; have HX6 := Lib.hid hx6; clear hM6 hx6)
    refine bodyPost_ret (results_tmp2 rfl _ _ _) rfl ?_
    refine ⟨(HGW3.out.same HG4.out).trans (HX5.out.same HX6.out) (fun i hi h => by have := hob i h; omega), .inl ⟨v', ys, HALL.out, rfl, HP.out, HPW.out.imp (fun h => by omega), HM6.out.base hsz3⟩⟩
  · have HALL := Lib.hid hall; have HG1 := Lib.hid hg1; clear hall hg1
    go_wp2_with fail
    refine bodyPost_ret (results_tmp2 rfl _ _ _) rfl ?_
    exact ⟨HG1.out, .inr ⟨HALL.out, rfl⟩⟩
end Go.Proofs.YtgikebkgihcogaaDoor
