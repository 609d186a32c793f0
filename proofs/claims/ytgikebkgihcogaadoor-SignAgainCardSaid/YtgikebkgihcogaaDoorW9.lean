/- Walks: the map of turned operations; what is read out of it. -/
import Derived.Test.YtgikebkgihcogaaDoorW8
namespace Go.Proofs.YtgikebkgihcogaaDoor
open Go.RowKit
set_option maxHeartbeats 1000000

def MapAt (w : World) (r : Nat) (es : Array MapEntry) (c : Nat) : Prop := w.heap[r]? = some (.map es c)
theorem MapAt.ext {S : Nat → Prop} {w w' : World} {r c : Nat} {es : Array MapEntry} (h : MapAt w r es c) (hx : Ext S w w') (hn : ¬ S r) : MapAt w' r es c := (hx.block r (Array.getElem?_eq_some_iff.1 h).1 hn).trans h
theorem MapAt.lt {w : World} {r c : Nat} {es : Array MapEntry} (h : MapAt w r es c) : r < w.heap.size := (Array.getElem?_eq_some_iff.1 h).1

theorem run_checkKey_at {P : Program} {kt : TypeId} (hk : P.underlying kt = some (.int .i64)) (b : Bool) (k : Int) (w : World) (n : Nat) : (Instr.checkKey b (n + 1) kt (.int .i64 k)).run P w = .ok () w := by
  simp only [Instr.checkKey, Sem.run_bind, run_underlying hk, Result.andThen_ok]
  rfl
theorem run_checkKey {P : Program} {kt : TypeId} (hk : P.underlying kt = some (.int .i64)) (b : Bool) (k : Int) (w : World) : (Instr.checkKey b 10000 kt (.int .i64 k)).run P w = .ok () w := run_checkKey_at hk b k w 9999
theorem run_findKey {P : Program} {kt : TypeId} (hk : P.underlying kt = some (.int .i64)) (k : Int) (es : List MapEntry) (r : Option (Nat × Value)) (h : Instr.findNow (.int .i64) (.int .i64 k) es 0 = some r) (w : World) :
    (Instr.findKey kt (.int .i64 k) es).run P w = .ok r w := by
  simp only [Instr.findKey, Sem.run_bind, run_underlying hk, Result.andThen_ok, h]
  rfl
theorem run_getMap {P : Program} {w : World} {r c : Nat} {es : Array MapEntry} (hm : MapAt w r es c) : (getObj r).run P w = .ok (.map es c) w := by
  have hm' : w.heap[r]? = some (.map es c) := hm
  simp [getObj, Sem.run, hm']
theorem wpList_is0 {P : Program} {ops : Array Oper} {rest : List Oper} {o : Oper} {a : Act} {w : World} {Q : Exit → Act → World → Prop} (hg : o.guard = none) (w' : World)
    (hrun : (execOp a.eval o).run P w = .ok .skip w') (hK : wpList P ops Q rest (a.put o.dst undef) w') : wpList P ops Q (o :: rest) a w :=
  wpList_plain hg fun K hK' => by unfold Oper.wp; rw [hrun]; exact hK' _ _ hK

theorem run_insert {P : Program} {w : World} {t kt et : TypeId} (hT : P.underlying t = some (.map kt et)) (hk : P.underlying kt = some (.int .i64)) {r c : Nat} {es : Array MapEntry} (hm : MapAt w r es c) (k v : Int)
    (hno : Instr.findNow (.int .i64) (.int .i64 k) es.toList 0 = some none) :
    (Instr.mapUpdate t (.map (some r)) (.int .i64 k) (.int .i64 v)).run P w = .ok () { w with heap := w.heap.setIfInBounds r (.map (es.push { key := .int .i64 k, val := .int .i64 v, born := c }) (c + 1)) } := by
  have hm' : w.heap[r]? = some (.map es c) := hm
  simp only [Instr.mapUpdate, Sem.run_bind, run_underlying hT, Result.andThen_ok, run_getMap hm, run_checkKey hk, run_findKey hk k es.toList none hno]
  simp [setObj, Sem.run, hm']

theorem wpList_insert {P : Program} {ops : Array Oper} {rest : List Oper} {o : Oper} {a : Act} {w : World} {Q : Exit → Act → World → Prop} (hgd : o.guard = none) (t kt et : TypeId) (m x y : Operand) (ho : o.op = .insert t m x y)
    (hT : P.underlying t = some (.map kt et)) (hk : P.underlying kt = some (.int .i64)) (r c : Nat) (es : Array MapEntry) (k v : Int) (h1 : a.eval m = .map (some r)) (h2 : a.eval x = .int .i64 k) (h3 : a.eval y = .int .i64 v) (hm : MapAt w r es c)
    (hno : Instr.findNow (.int .i64) (.int .i64 k) es.toList 0 = some none)
    (h : ∀ w', MapAt w' r (es.push { key := .int .i64 k, val := .int .i64 v, born := c }) (c + 1) → Ext (· = r) w w' → wpList P ops Q rest (a.put o.dst undef) w') : wpList P ops Q (o :: rest) a w := by
  refine wpList_is0 hgd _ ?_ (h { w with heap := w.heap.setIfInBounds r (.map (es.push { key := .int .i64 k, val := .int .i64 v, born := c }) (c + 1)) } ?_ ?_)
  · simp only [execOp, ho, h1, h2, h3, Sem.run_bind, run_insert hT hk hm k v hno, Result.andThen_ok, Sem.run_pure]
  · unfold MapAt; simp [hm.lt]
  · refine ⟨rfl, rfl, rfl, by simp, Nat.le_refl _, fun i hi hn => ?_⟩
    simp only [Array.getElem?_setIfInBounds]
    rw [if_neg (fun e => hn e.symm)]

theorem wpList_lookup_run {P : Program} {ops : Array Oper} {rest : List Oper} {o : Oper} {a : Act} {w : World} {Q : Exit → Act → World → Prop} (hgd : o.guard = none) (t : TypeId) (m x : Operand) (b : Bool) (ho : o.op = .lookup t m x b) (v1 v2 v : Value)
    (h1 : a.eval m = v1) (h2 : a.eval x = v2) (hrun : (Instr.lookup t v1 v2 b).run P w = .ok v w) (h : wpList P ops Q rest (a.put o.dst v) w) : wpList P ops Q (o :: rest) a w :=
  wpList_is hgd v w (by simp only [execOp, ho, h1, h2, Sem.run_bind, hrun, Result.andThen_ok, Sem.run_pure]) h

def turnEs : Array MapEntry := #[{ key := .int .i64 13, val := .int .i64 11, born := 0 }, { key := .int .i64 14, val := .int .i64 12, born := 1 }, { key := .int .i64 4, val := .int .i64 4, born := 2 }, { key := .int .i64 6, val := .int .i64 6, born := 3 },
  { key := .int .i64 9, val := .int .i64 9, born := 4 }, { key := .int .i64 10, val := .int .i64 10, born := 5 }, { key := .int .i64 15, val := .int .i64 15, born := 6 }, { key := .int .i64 16, val := .int .i64 16, born := 7 }]
/-- The map of turned operations lies at r. -/
def Turns (w : World) (r : Nat) : Prop := MapAt w r turnEs 8
theorem Turns.ext {S : Nat → Prop} {w w' : World} {r : Nat} (h : Turns w r) (hx : Ext S w w') (hn : ¬ S r) : Turns w' r := MapAt.ext h hx hn

theorem sign_turned (w : World) : Calls Tryd.prog 32 #[] w fun e w' => e = .returned (.map (some w.heap.size)) ∧ Turns w' w.heap.size ∧ Gro w w' := by
  go_enter Tryd.func32, Tryd.ntmps32
  go_upto_region 1 with (fail)
  apply wp_region_lit
  refine wpList_is rfl (.map (some w.heap.size)) (w.alloc (.map #[] 0)) (by kernel_rfl) ?_
  have hm : MapAt (w.alloc (.map #[] 0)) w.heap.size #[] 0 := heap_alloc_new w _
  have hx : Gro w (w.alloc (.map #[] 0)) := (Ext.refl _ _).alloc _
  generalize hr : w.heap.size = r at hm ⊢
  have hx0 : Ext (· = r) w (w.alloc (.map #[] 0)) := hx.mono fun _ _ h => h.elim
  generalize w.alloc (.map #[] 0) = w0 at hm hx0 ⊢
  refine wpList_insert rfl 69 3 3 _ _ _ rfl Tryd.underlying69 Tryd.underlying3 r _ _ 13 11 rfl rfl rfl hm rfl (fun w1 hm1 hx1 => ?_)
  refine wpList_insert rfl 69 3 3 _ _ _ rfl Tryd.underlying69 Tryd.underlying3 r _ _ 14 12 rfl rfl rfl hm1 rfl (fun w2 hm2 hx2 => ?_)
  refine wpList_insert rfl 69 3 3 _ _ _ rfl Tryd.underlying69 Tryd.underlying3 r _ _ 4 4 rfl rfl rfl hm2 rfl (fun w3 hm3 hx3 => ?_)
  refine wpList_insert rfl 69 3 3 _ _ _ rfl Tryd.underlying69 Tryd.underlying3 r _ _ 6 6 rfl rfl rfl hm3 rfl (fun w4 hm4 hx4 => ?_)
  refine wpList_insert rfl 69 3 3 _ _ _ rfl Tryd.underlying69 Tryd.underlying3 r _ _ 9 9 rfl rfl rfl hm4 rfl (fun w5 hm5 hx5 => ?_)
  refine wpList_insert rfl 69 3 3 _ _ _ rfl Tryd.underlying69 Tryd.underlying3 r _ _ 10 10 rfl rfl rfl hm5 rfl (fun w6 hm6 hx6 => ?_)
  refine wpList_insert rfl 69 3 3 _ _ _ rfl Tryd.underlying69 Tryd.underlying3 r _ _ 15 15 rfl rfl rfl hm6 rfl (fun w7 hm7 hx7 => ?_)
  refine wpList_insert rfl 69 3 3 _ _ _ rfl Tryd.underlying69 Tryd.underlying3 r _ _ 16 16 rfl rfl rfl hm7 rfl (fun w8 hm8 hx8 => ?_)
  have hT : Turns w8 r := hm8
  have hG : Gro w w8 := (hx0.same (hx1.same (hx2.same (hx3.same (hx4.same (hx5.same (hx6.same (hx7.same hx8)))))))).mono fun i hi e => by omega
  have HT := Lib.hid hT; have HG := Lib.hid hG; have HR := Lib.hid hr
  clear hm hx hx0 hm1 hx1 hm2 hx2 hm3 hx3 hm4 hx4 hm5 hx5 hm6 hx6 hm7 hx7 hm8 hx8 hr hT hG
  go_wp2_with fail
  go_ret
  exact ⟨by rw [HR.out]; rfl, by rw [HR.out]; exact HT.out, HG.out⟩

/-- What an operation is turned to; may it be turned? -/
def turnOp (op : Int) : Int := if op = 13 then 11 else if op = 14 then 12 else if op = 4 ∨ op = 6 ∨ op = 9 ∨ op = 10 ∨ op = 15 ∨ op = 16 then op else 0
def turnOk (op : Int) : Bool := decide (op = 13 ∨ op = 14 ∨ op = 4 ∨ op = 6 ∨ op = 9 ∨ op = 10 ∨ op = 15 ∨ op = 16)
theorem run_turn (w : World) (r : Nat) (h : Turns w r) (op : Int) :
    (Instr.lookup 69 (.map (some r)) (.int .i64 op) true).run Tryd.prog w = .ok (.tuple #[.int .i64 (turnOp op), .bool (turnOk op)]) w := by
  have hm' : w.heap[r]? = some (.map turnEs 8) := h
  have hz : (zeroValue 3).run Tryd.prog w = .ok (.int .i64 0) w := by kernel_rfl
  have hf : Instr.findNow (.int .i64) (.int .i64 op) turnEs.toList 0 = some (if op = 13 then some (0, .int .i64 11) else if op = 14 then some (1, .int .i64 12) else if op = 4 then some (2, .int .i64 4) else if op = 6 then some (3, .int .i64 6)
      else if op = 9 then some (4, .int .i64 9) else if op = 10 then some (5, .int .i64 10) else if op = 15 then some (6, .int .i64 15) else if op = 16 then some (7, .int .i64 16) else none) := by
    simp only [turnEs, Instr.findNow, Instr.sameNow, if_true]
    repeat' split
    all_goals simp_all
  simp only [Instr.lookup, Sem.run_bind, run_underlying Tryd.underlying69, Result.andThen_ok, run_getMap h, run_checkKey Tryd.underlying3, run_findKey Tryd.underlying3 op turnEs.toList _ hf, Sem.run_pure]
  unfold turnOp turnOk
  by_cases h1 : op = 13
  · subst h1; rfl
  by_cases h2 : op = 14
  · subst h2; rfl
  by_cases h3 : op = 4
  · subst h3; rfl
  by_cases h4 : op = 6
  · subst h4; rfl
  by_cases h5 : op = 9
  · subst h5; rfl
  by_cases h6 : op = 10
  · subst h6; rfl
  by_cases h7 : op = 15
  · subst h7; rfl
  by_cases h8 : op = 16
  · subst h8; rfl
  simp only [h1, h2, h3, h4, h5, h6, h7, h8, if_false, or_self, decide_false, Sem.run_bind, hz, Result.andThen_ok, Sem.run_pure]
  rfl
end Go.Proofs.YtgikebkgihcogaaDoor
