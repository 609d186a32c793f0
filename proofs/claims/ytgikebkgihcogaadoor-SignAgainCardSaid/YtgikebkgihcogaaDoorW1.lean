/- Walks: what a value, an expression's own fields may be. -/
import Derived.Test.YtgikebkgihcogaaDoorProg
import Derived.Test.YtgikebkgihcogaaDoorBase
import Derived.Shelf.SlSortCmp.QuietGrown
import Derived.Deep.Light
namespace Go.Proofs.YtgikebkgihcogaaDoor
open Go.RowKit
set_option maxHeartbeats 400000

def noS (s : ByteArray) : Bool := s.toList.isEmpty
/-- value.Right -/
def valRight (kind num : Int) (vs : ByteArray) : Bool :=
  if kind = 0 then decide (num = 0) && noS vs
  else if kind = 1 then noS vs
  else if kind = 2 then (decide (num = 0) || decide (num = 1)) && noS vs
  else if kind = 3 then decide (num = 0) && decide (vs.size ≤ 40)
  else false

theorem value_Right (kind num : Int) (vs : ByteArray) (w : World) : Calls Tryd.prog 57 #[.agg #[.int .i64 kind, .int .i64 num, .string vs]] w fun e w' => e = .returned (.bool (valRight kind num vs)) ∧ Gro w w' := by
  go_enter Tryd.func57, Tryd.ntmps57
  go_wp2_with fail
  all_goals
    go_ret
    refine ⟨congrArg (fun b => Ending.returned (Value.bool b)) ?_, (Ext.refl _ _).alloc _⟩
    simp_all [valRight, noS]
  all_goals omega

/-- expr.wants -/
def wantsF (op : Int) : Int :=
  if op < 1 ∨ 18 < op then -1 else if op ≤ 3 then 0 else if op = 8 ∨ op = 17 ∨ op = 18 then 1 else 2
def wantsArr : Array Value := #[.int .i64 0, .int .i64 0, .int .i64 0, .int .i64 0, .int .i64 2, .int .i64 2, .int .i64 2, .int .i64 2, .int .i64 1, .int .i64 2, .int .i64 2, .int .i64 2, .int .i64 2, .int .i64 2, .int .i64 2, .int .i64 2, .int .i64 2, .int .i64 1, .int .i64 1]
theorem wantsArr_at (k : Nat) (h1 : 1 ≤ k) (h2 : k ≤ 18) : wantsArr[k]? = some (.int .i64 (wantsF k)) := by
  obtain rfl | rfl | rfl | rfl | rfl | rfl | rfl | rfl | rfl | rfl | rfl | rfl | rfl | rfl | rfl | rfl | rfl | rfl : k = 1 ∨ k = 2 ∨ k = 3 ∨ k = 4 ∨ k = 5 ∨ k = 6 ∨ k = 7 ∨ k = 8 ∨ k = 9 ∨ k = 10 ∨ k = 11 ∨ k = 12 ∨ k = 13 ∨ k = 14 ∨ k = 15 ∨ k = 16 ∨ k = 17 ∨ k = 18 := by omega
  all_goals rfl
theorem expr_wants (op : Int) (w : World) : Calls Tryd.prog 56 #[.int .i64 op] w fun e w' => e = .returned (.int .i64 (wantsF op)) ∧ Gro w w' := by
  go_enter Tryd.func56, Tryd.ntmps56
  go_upto_region 1 with (fail)
  apply wp_region_lit
  refine wpList_is rfl (.agg wantsArr) w (by kernel_rfl) ?_
  refine wpList_is rfl (.pointer (some ⟨w.heap.size, 0, none⟩)) (w.alloc (.cells (Array.replicate 19 (.int .i64 0)) 98)) (by kernel_rfl) ?_
  refine wpList_store_row rfl 98 (.tmp 3) (.tmp 4) rfl w.heap.size wantsArr rfl rfl 98 _ (Blk.new w _ _) (by kernel_rfl) (by simp [wantsArr]) (by kernel_rfl) ?_
  refine wpList_nil ?_
  have hB := (Blk.new w (Array.replicate 19 (.int .i64 0)) 98).setRow wantsArr
  have hG : Gro w ((w.alloc (.cells (Array.replicate 19 (.int .i64 0)) 98)).setRow w.heap.size wantsArr) := ((Ext.refl _ _).alloc _).setRow _ _ (fun h => absurd h (Nat.lt_irrefl _))
  generalize (w.alloc (.cells (Array.replicate 19 (.int .i64 0)) 98)).setRow w.heap.size wantsArr = w1 at hB hG ⊢
  by_cases hop : 1 ≤ op ∧ op ≤ 18
  · have hc : w1.cell? ⟨w.heap.size, op.toNat, none⟩ = some (.int .i64 (wantsF op)) := by
      rw [hB.cell, wantsArr_at op.toNat (by omega) (by omega), Int.toNat_of_nonneg (by omega)]
    have HB := Lib.hid hB; have HG := Lib.hid hG; clear hB hG
    obtain ⟨hop1, hop2⟩ := hop
    go_wp2_with fail
    go_ret
    exact ⟨rfl, HG.out⟩
  · clear hB
    have HG := Lib.hid hG; clear hG
    have hw : wantsF op = -1 := by unfold wantsF; rw [if_pos (by omega)]
    have HW := Lib.hid hw; clear hw
    by_cases h1 : op < 1
    · go_wp2_with fail
      go_ret
      exact ⟨by rw [HW.out]; rfl, HG.out⟩
    · have h2 : 19 ≤ op := by omega
      go_wp2_with fail
      go_ret
      exact ⟨by rw [HW.out]; rfl, HG.out⟩

/-- Nought of a value. -/
def noV (kind num : Int) (vs : ByteArray) : Bool := decide (kind = 0) && (decide (num = 0) && noS vs)
/-- expr.own -/
def ownF (op kind num : Int) (vs : ByteArray) (rel col n : Int) (s : ByteArray) (len : Nat) : Bool :=
  if noS s = false then false else if (len : Int) ≠ wantsF op then false
  else if op = 1 then valRight kind num vs && (decide (rel = 0) && (decide (col = 0) && decide (n = 0)))
  else if op = 2 then (decide (0 ≤ rel) && decide (rel ≤ 15)) && (decide (0 ≤ col) && decide (col < 6)) && decide (n = 0) && noV kind num vs
  else if op = 3 then (decide (1 ≤ n) && decide (n ≤ 4)) && decide (rel = 0) && decide (col = 0) && noV kind num vs
  else decide (rel = 0) && decide (col = 0) && decide (n = 0) && noV kind num vs
set_option maxHeartbeats 2000000 in
theorem expr_own (op kind num : Int) (vs : ByteArray) (rel col n : Int) (s : ByteArray) (A : Option Addr) (len cap : Nat) (w : World) :
    Calls Tryd.prog 34 #[.agg #[.int .i64 op, .int .i64 kind, .int .i64 num, .string vs, .int .i64 rel, .int .i64 col, .int .i64 n, .string s, .slice A len cap]] w
      fun e w' => e = .returned (.bool (ownF op kind num vs rel col n s len)) ∧ Gro w w' := by
  go_enter Tryd.func34, Tryd.ntmps34
  have mixed : Tryd.prog.follows .mixedOrders = true := by kernel_rfl
  by_cases hs : s.toList = []
  · have hs' : (!s.toList.isEmpty) = false := by simp [hs]
    go_wp2_with fail
    have hB := Blk.new w #[.int .i64 op, .int .i64 kind, .int .i64 num, .string vs, .int .i64 rel, .int .i64 col, .int .i64 n, .string s, .slice A len cap] 39
    have hG : Gro w (w.alloc (.cells #[.int .i64 op, .int .i64 kind, .int .i64 num, .string vs, .int .i64 rel, .int .i64 col, .int .i64 n, .string s, .slice A len cap] 39)) := (Ext.refl _ _).alloc _
    generalize hw1 : (w.alloc (.cells #[.int .i64 op, .int .i64 kind, .int .i64 num, .string vs, .int .i64 rel, .int .i64 col, .int .i64 n, .string s, .slice A len cap] 39)) = w1 at hB hG ⊢
    clear hw1
    have c0 : ∀ m os, (Sort.grow (w1.drewN m) os).cell? ⟨w.heap.size, 0, none⟩ = some (.int .i64 op) := fun m os => (hB.grown m os).cell 0
    have c7 : ∀ m os, (Sort.grow (w1.drewN m) os).cell? ⟨w.heap.size, 7, none⟩ = some (.string s) := fun m os => (hB.grown m os).cell 7
    have c8 : ∀ m os, (Sort.grow (w1.drewN m) os).cell? ⟨w.heap.size, 8, none⟩ = some (.slice A len cap) := fun m os => (hB.grown m os).cell 8
    have HB := Lib.hid hB; have HG := Lib.hid hG; clear hB hG
    by_cases hl : (len : Int) = wantsF op
    · have hl' : ((len : Int) != wantsF op) = false := by simp [hl]
      have HL := Lib.hid hl; clear hl
      go_quiet_grown (first | (go_at_call 56; refine Calls.grown_of ((expr_wants _ _).mono fun _ _ h => ⟨h.1, h.2.grow⟩)))
      clear c0 c7 c8
      have hB := HB.out.grown nq osq
      have c8 := hB.cell 8; have c8z := hB.thaw 8; have c0 := hB.cell 0
      have hG := HG.out.then_ (Ext.of_grow w1 nq osq)
      have hB' := Lib.hid hB; have hG' := Lib.hid hG; clear hB hG
      generalize Sort.grow (w1.drewN nq) osq = w2 at c8 c8z c0 hB' hG' ⊢
      simp at c8 c0
      go_upto_block 0 with (fail)
      have hB := hB'.out.setCell 8 (.slice none 0 0)
      have hG := hG'.out.setCell ⟨w.heap.size, 8, none⟩ (.slice none 0 0) (fun h => absurd h (Nat.lt_irrefl _))
      clear c8 c8z c0 hB' hG'
      generalize w2.setCell ⟨w.heap.size, 8, none⟩ (.slice none 0 0) = w3 at hB hG ⊢
      have c1 := hB.cell 1; have c2 := hB.cell 2; have c3 := hB.cell 3; have c4 := hB.cell 4; have c5 := hB.cell 5; have c6 := hB.cell 6
      simp at c1 c2 c3 c4 c5 c6
      have hlt := hB.lt
      have HG3 := Lib.hid hG; clear hG hB
      by_cases h1 : op = 1
      · subst h1
        go_wp2_with (go_at_call 57; refine (value_Right _ _ _ _).mono ?_; rintro e w4 ⟨rfl, hg4⟩; obtain ⟨r1, r2⟩ := hg4.rules; have HG4 := Lib.hid hg4; clear hg4)
        all_goals
          go_ret
          refine ⟨congrArg (fun b => Ending.returned (Value.bool b)) ?_, HG3.out.then_ HG4.out⟩
          have e := HL.out
          go_light
          simp_all [ownF, noS]
          try rfl
      · have h1' : (op == 1) = false := by simp [h1]
        by_cases h2 : op = 2
        · subst h2
          go_wp2_with fail
          all_goals
            go_ret
            refine ⟨congrArg (fun b => Ending.returned (Value.bool b)) ?_, HG3.out⟩
            have e := HL.out
            go_light
            simp_all [ownF, noS, noV]
          all_goals omega
        · have h2' : (op == 2) = false := by simp [h2]
          by_cases h3 : op = 3
          · subst h3
            go_wp2_with fail
            all_goals
              go_ret
              refine ⟨congrArg (fun b => Ending.returned (Value.bool b)) ?_, HG3.out⟩
              have e := HL.out
              go_light
              simp_all [ownF, noS, noV]
            all_goals omega
          · have h3' : (op == 3) = false := by simp [h3]
            go_wp2_with fail
            all_goals
              go_ret
              refine ⟨congrArg (fun b => Ending.returned (Value.bool b)) ?_, HG3.out⟩
              have e := HL.out
              go_light
              simp_all [ownF, noS, noV]
    · have hl' : ((len : Int) != wantsF op) = true := by simp [hl]
      have HL := Lib.hid hl; clear hl
      go_quiet_grown (first | (go_at_call 56; refine Calls.grown_of ((expr_wants _ _).mono fun _ _ h => ⟨h.1, h.2.grow⟩)))
      go_wp2_with fail
      go_ret
      refine ⟨congrArg (fun b => Ending.returned (Value.bool b)) ?_, HG.out.then_ (Ext.of_grow w1 nq osq)⟩
      have e := HL.out
      simp [ownF, noS, hs, e]
  · have hs' : (!s.toList.isEmpty) = true := by simp [hs]
    have HS := Lib.hid hs; clear hs
    go_wp2_with fail
    have hB := Blk.new w #[.int .i64 op, .int .i64 kind, .int .i64 num, .string vs, .int .i64 rel, .int .i64 col, .int .i64 n, .string s, .slice A len cap] 39
    have hG : Gro w (w.alloc (.cells #[.int .i64 op, .int .i64 kind, .int .i64 num, .string vs, .int .i64 rel, .int .i64 col, .int .i64 n, .string s, .slice A len cap] 39)) := (Ext.refl _ _).alloc _
    generalize hw1 : (w.alloc (.cells #[.int .i64 op, .int .i64 kind, .int .i64 num, .string vs, .int .i64 rel, .int .i64 col, .int .i64 n, .string s, .slice A len cap] 39)) = w1 at hB hG ⊢
    clear hw1
    have c7 : ∀ m os, (Sort.grow (w1.drewN m) os).cell? ⟨w.heap.size, 7, none⟩ = some (.string s) := fun m os => (hB.grown m os).cell 7
    have HG := Lib.hid hG; clear hG hB
    go_quiet_grown (fail)
    go_wp2_with fail
    go_ret
    refine ⟨congrArg (fun b => Ending.returned (Value.bool b)) ?_, HG.out.then_ (Ext.of_grow w1 nq osq)⟩
    have hs := HS.out
    simp [ownF, noS, hs]
end Go.Proofs.YtgikebkgihcogaaDoor
