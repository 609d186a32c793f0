/- sign.each of integers; what sign.Of makes of a condition. -/
import Derived.Test.YtgikebkgihcogaaDoorC7
import Derived.Test.YtgikebkgihcogaaDoorW13
namespace Go.Proofs.YtgikebkgihcogaaDoor
open Go.RowKit Go.Sort
set_option maxHeartbeats 1000000

set_option maxRecDepth 100000 in
theorem sign_eachI (g : Nat) (cb : Array Value) (eg : ∀ args w, (callFunc g args).run Tryd.prog w = .ok (.enter g args) w) (f : Int → Ex) (w : World) (ok : Nat → Prop) (B : Option Addr) (cap : Nat) (is : List Int)
    (hI : IRep w ok B is) (hn : is.length ≤ 1353245080300)
    (hcall : ∀ j (hj : j < is.length) w1, Gro w w1 → Calls Tryd.prog g (#[.int .i64 is[j]] ++ cb) w1 (ExPost w1 (f is[j]))) :
    Calls Tryd.prog 22 #[.slice B is.length cap, .func (.func g) #[] cb] w (EachPost w.heap.size w (is.map f)) := by
  have HI := Lib.hid hI; have HC := Lib.hid hcall; clear hI hcall
  go_enter Tryd.func22, Tryd.ntmps22
  have hmx : is.length ≤ 9223372036854775807 := by omega
  go_wp2_with fail
  go_loopw [5, 10] (fun v i wr => ∃ k : Nat, k ≤ is.length ∧ i = .int .i64 k ∧ Made wr w.heap.size v ((is.take k).map f) ∧ Gro w wr) (fun _ i _ => is.length - (intOf i).toNat)
  case atStart => exact ⟨0, Nat.zero_le _, rfl, by simpa using Made.nil w w.heap.size, Ext.refl _ _⟩
  case round =>
    obtain ⟨k, hk, rfl, hM, hG⟩ := hrel
    by_cases hlt : k < is.length
    · obtain ⟨bB, off, rfl, _, hcB⟩ := HI.out.gro hG (by omega)
      have c1 := hcB k is[k] (List.getElem?_eq_getElem hlt)
      have hCk := HC.out k hlt wr hG
      have HCK := Lib.hid hCk; have HM := Lib.hid hM; have HG := Lib.hid hG
      clear hCk hM hG hcB
      generalize hx : is[k] = x at c1 HCK
      have HX := Lib.hid hx; clear hx
      go_wp2_with fail
      refine HCK.out.mono ?_
      rintro r w1 ⟨cs, rfl, hrep, hg1⟩
      have hsz := HG.out.size
      have hown := HM.out.own_lt
      obtain ⟨v', w2, hrun, hM2, hx2⟩ := (HM.out.gro hg1).append (hrep.mono (ok' := OkM w1 w.heap.size _) fun b hb _ => ⟨⟨by have := hb.1; omega, hb.2, fun e => by have := hown b e; have := hb.1; omega⟩, rfl⟩)
        (by have := hg1.size; omega) (by simp; omega)
      obtain ⟨A2, cap2, rfl⟩ := hrep.shape
      simp only [cells] at hrun
      have hG2 : Gro w w2 := (HG.out.same hg1).trans hx2 (fun i hi e => by have := (HM.out.own_base i e); omega)
      have HRUN := Lib.hid hrun; have HM2 := Lib.hid hM2; have HG2 := Lib.hid hG2
      clear hrun hM2 hx2 hG2 hrep hg1 hown
      simp only [cells]
      go_wp2_with (at_builtin; refine wpList_append_run rfl _ _ 23 23 rfl _ _ rfl rfl _ _ HRUN.out ?_)
      go_roundw
      case rel =>
        refine ⟨k + 1, by omega, by go_num, ?_, HG2.out⟩
        rw [List.take_succ_eq_append_getElem hlt, List.map_append, HX.out]; exact HM2.out
      case measure => simp [intOf]; omega
    · obtain rfl : k = is.length := by omega
      rw [List.take_length] at hM
      have HM := Lib.hid hM; have HG := Lib.hid hG; clear hM hG
      go_wp2_with fail
      go_ret
      exact ⟨_, rfl, HM.out, HG.out⟩

/-- The cells of an api.Block: its tables, its core, its conditions; what else it holds. -/
structure BRest where
  k2 : Value
  k3 : Value
  k5 : Value
  k6 : Value
  k7 : Value
  k8 : Value
  k9 : Value
  k10 : Value
def bcells (T : Value) (core : Int) (C : Value) (k : BRest) : Array Value := #[T, .int .i64 core, k.k2, k.k3, C, k.k5, k.k6, k.k7, k.k8, k.k9, k.k10]

set_option maxRecDepth 100000 in
theorem sign_Of1 (w : World) (gb gr : Nat) (T : Value) (core : Int) (kr : BRest) (A : Option Addr) (cap : Nat) (conds : List Ex) (css : Nat → List Value) (ok : Nat → Prop) (R : Value) (i : Nat) (hi : i < conds.length) (y : Ex)
    (hL : LRep w ok A conds css) (hb : Blk w gb (bcells T core (.slice A conds.length cap) kr) 26) (hr : Blk w gr #[R] 22)
    (hcall : ∀ W, Gro w W → Calls Tryd.prog 24 #[.agg (css i).toArray, R] W (ExPost W y)) :
    Calls Tryd.prog 23 (#[.int .i64 i] ++ #[.pointer (some ⟨gb, 0, none⟩), .pointer (some ⟨gr, 0, none⟩)]) w (ExPost w y) := by
  obtain ⟨hlen, bA, off, rfl, hcA⟩ := hL.elem i hi
  obtain ⟨A', cap', hcs⟩ := (hL.hl i hi).shape
  have c1 := hb.cell 4
  have c2 := hr.cell 0
  simp [bcells] at c1 c2
  have l1 := hb.lt; have l2 := hr.lt
  rw [hcs] at hcall hcA
  have lA : bA < w.heap.size := World.block_lt_of_cell? w ⟨bA, off + i * 9 + 0, none⟩ (hcA 0 _ rfl)
  have HL := Lib.hid hL; have HC := Lib.hid hcall; have HB := Lib.hid hb; have HR := Lib.hid hr
  have hcc : ∀ j v, (cells conds[i] A' cap')[j]? = some v → w.cell? ⟨bA, off + i * 9 + j, none⟩ = some v := hcA
  have HCA := Lib.hid hcc
  clear hL hcall hb hr hcA hcs hlen hcc
  generalize conds[i] = x at HC HCA
  go_enter Tryd.func23, Tryd.ntmps23
  go_upto_region 1 with (fail)
  have hW := (Ext.refl (fun _ => False) w).alloc (.cells (cells zeroEx none 0).toArray 39)
  have hN := Blk.new w (cells zeroEx none 0).toArray 39
  have hcz : cells zeroEx none 0 = [.int .i64 0, .int .i64 0, .int .i64 0, .string ⟨#[]⟩, .int .i64 0, .int .i64 0, .int .i64 0, .string ⟨#[]⟩, .slice none 0 0] := rfl
  rw [hcz] at hW hN
  generalize w.alloc _ = w1 at hW hN ⊢
  have hD : Gro w w1.drew := hW.drew
  have d1 := hD.cell c1 id
  have d2 := hD.cell c2 id
  have hq := fun j v h => hD.cell (HCA.out j v h) id
  have q0 := hq 0 _ rfl; have q1 := hq 1 _ rfl; have q2 := hq 2 _ rfl; have q3 := hq 3 _ rfl; have q4 := hq 4 _ rfl; have q5 := hq 5 _ rfl; have q6 := hq 6 _ rfl; have q7 := hq 7 _ rfl; have q8 := hq 8 _ rfl
  rw [Nat.add_zero] at q0
  have hs1 := hW.size
  have m1 : gb < w1.heap.size := by omega
  have m2 : gr < w1.heap.size := by omega
  have m3 : bA < w1.heap.size := by omega
  have HW := Lib.hid hW; have HN := Lib.hid hN; have HD := Lib.hid hD
  clear hW hN hcz hD c1 c2 hq l1 l2 lA hs1
  have hC := HC.out w1.drew HD.out
  simp only [cells] at hC
  have HC1 := Lib.hid hC; clear hC
  go_region_with (
    go_at_call 24
    refine HC1.out.mono ?_
    rintro r w4 ⟨ds, rfl, hrep4, hg4⟩
    have hb4 := (HN.out.ext (Ext.refl (fun _ => False) _).drew id).ext hg4 id
    have z0 := hb4.thaw 0; have z1 := hb4.thaw 1; have z2 := hb4.thaw 2; have z3 := hb4.thaw 3; have z4 := hb4.thaw 4; have z5 := hb4.thaw 5; have z6 := hb4.thaw 6; have z7 := hb4.thaw 7; have z8 := hb4.thaw 8
    have o0 := hb4.cell 0; have o1 := hb4.cell 1; have o2 := hb4.cell 2; have o3 := hb4.cell 3; have o4 := hb4.cell 4; have o5 := hb4.cell 5; have o6 := hb4.cell 6; have o7 := hb4.cell 7; have o8 := hb4.cell 8
    simp at o0 o1 o2 o3 o4 o5 o6 o7 o8
    have lt4 := hb4.lt
    obtain ⟨A4, cap4, rfl⟩ := hrep4.shape
    have HREP4 := Lib.hid hrep4; have HG4 := Lib.hid hg4; have HB4 := Lib.hid hb4; clear hrep4 hg4 hb4
    simp only [cells])
  all_goals
    have hfin := (((((((((HB4.out).setCell 0 (.int .i64 y.op)).setCell 1 (.int .i64 y.kind)).setCell 2 (.int .i64 y.num)).setCell 3 (.string y.vs)).setCell 4 (.int .i64 y.rel)).setCell 5 (.int .i64 y.col)).setCell 6 (.int .i64 y.n)).setCell 7 (.string y.s)).setCell 8 (.slice A4 y.l.length cap4)
    have hxf := (((((((((Ext.refl (· = w.heap.size) w4).setCell ⟨w.heap.size, 0, none⟩ (.int .i64 y.op) (fun _ => rfl)).setCell ⟨w.heap.size, 1, none⟩ (.int .i64 y.kind) (fun _ => rfl)).setCell ⟨w.heap.size, 2, none⟩ (.int .i64 y.num) (fun _ => rfl)).setCell ⟨w.heap.size, 3, none⟩ (.string y.vs) (fun _ => rfl)).setCell ⟨w.heap.size, 4, none⟩ (.int .i64 y.rel) (fun _ => rfl)).setCell ⟨w.heap.size, 5, none⟩ (.int .i64 y.col) (fun _ => rfl)).setCell ⟨w.heap.size, 6, none⟩ (.int .i64 y.n) (fun _ => rfl)).setCell ⟨w.heap.size, 7, none⟩ (.string y.s) (fun _ => rfl)).setCell ⟨w.heap.size, 8, none⟩ (.slice A4 y.l.length cap4) (fun _ => rfl)
    have HFIN := Lib.hid hfin; have HXF := Lib.hid hxf; clear hfin hxf
    go_wp2_with fail
    refine bodyPost_ret (results_cell_row (P := Tryd.prog) rfl _ _ w.heap.size 39 (cells y A4 cap4).toArray (0, 0) _ rfl (by have := HFIN.out; simp [Blk] at this; simpa [cells] using this) Tryd.underlying39 rfl (size_expr rfl)) rfl ?_
    have hww := HD.out.same HG4.out
    have hs3 := HN.out.lt
    have hs4 : w.heap.size < w1.drew.heap.size := hs3
    refine ⟨cells y A4 cap4, rfl, ?_, hww.trans HXF.out (fun i hi h => by omega)⟩
    exact HREP4.out.mono fun b hb hlt => ⟨⟨by have := hb.1; omega, Nat.lt_of_lt_of_le hb.2 HXF.out.size⟩, HXF.out.block b hlt (fun h => by have := hb.1; omega)⟩
end Go.Proofs.YtgikebkgihcogaaDoor
