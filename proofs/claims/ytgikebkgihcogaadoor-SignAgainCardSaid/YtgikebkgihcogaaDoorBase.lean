/- Words of this seat's proofs: how one world grows out of another; expressions as trees; how a tree lies in memory. No function of the program. -/
import Derived.WalkKit
import Derived.KernelRfl
import Derived.Lib.Hide
import Derived.Deep.QuietTactic
import Derived.BigQuiet
import Derived.Deep.DeepCutAuto
import Derived.Deep.CutBlock
import Derived.Deep.LoopGhost
import Derived.Sort.Grow
import Derived.Laws.EntriesVeiled
namespace Go.Proofs.YtgikebkgihcogaaDoor
open Go.RowKit

/-- w' has grown out of w: of what was there only blocks in S may have turned; no draw is taken back. -/
structure Ext (S : Nat → Prop) (w w' : World) : Prop where
  os : w'.os = w.os
  tape : w'.tape = w.tape
  output : w'.output = w.output
  size : w.heap.size ≤ w'.heap.size
  drawn : w.drawn ≤ w'.drawn
  block : ∀ k, k < w.heap.size → ¬ S k → w'.heap[k]? = w.heap[k]?

/-- Nothing that was there has turned. -/
abbrev Gro (w w' : World) : Prop := Ext (fun _ => False) w w'

namespace Ext
variable {S S' : Nat → Prop} {w w1 w2 w' : World}
theorem refl (S : Nat → Prop) (w : World) : Ext S w w := ⟨rfl, rfl, rfl, Nat.le_refl _, Nat.le_refl _, fun _ _ _ => rfl⟩
theorem trans (h : Ext S w w1) (k : Ext S' w1 w2) (hs : ∀ i, i < w.heap.size → S' i → S i) : Ext S w w2 :=
  ⟨k.os.trans h.os, k.tape.trans h.tape, k.output.trans h.output, Nat.le_trans h.size k.size, Nat.le_trans h.drawn k.drawn,
    fun i hi hn => (k.block i (Nat.lt_of_lt_of_le hi h.size) (fun e => hn (hs i hi e))).trans (h.block i hi hn)⟩
theorem then_ (h : Ext S w w1) (k : Gro w1 w2) : Ext S w w2 := h.trans k (fun _ _ e => e.elim)
theorem same (h : Ext S w w1) (k : Ext S w1 w2) : Ext S w w2 := h.trans k (fun _ _ e => e)
theorem mono (h : Ext S w w') (hs : ∀ i, i < w.heap.size → S i → S' i) : Ext S' w w' :=
  ⟨h.os, h.tape, h.output, h.size, h.drawn, fun i hi hn => h.block i hi (fun e => hn (hs i hi e))⟩
theorem alloc (h : Ext S w w1) (o : Obj) : Ext S w (w1.alloc o) :=
  h.then_ ⟨rfl, rfl, rfl, by simp, Nat.le_refl _, fun k hk _ => Go.RowKit.Below.heap_alloc w1 o k hk⟩
theorem drew (h : Ext S w w1) : Ext S w w1.drew := ⟨h.os, h.tape, h.output, h.size, Nat.le_succ_of_le h.drawn, h.block⟩
theorem drewN (h : Ext S w w1) (n : Nat) : Ext S w (w1.drewN n) := ⟨h.os, h.tape, h.output, h.size, Nat.le_trans h.drawn (Nat.le_add_right _ _), h.block⟩
theorem setCell (h : Ext S w w1) (a : Addr) (v : Value) (hs : a.block < w.heap.size → S a.block) : Ext S w (w1.setCell a v) :=
  ⟨h.os, h.tape, h.output, by simpa [World.setCell] using h.size, h.drawn, fun k hk hn => by
    rw [Below.heap_setCell w1 a v k (fun e => hn (e ▸ hs (e ▸ hk)))]
    exact h.block k hk hn⟩
theorem below (h : Gro w w') : Below w.heap.size w w' := ⟨h.os, h.tape, h.output, h.size, fun k hk => h.block k hk (fun e => e)⟩
/-- A cell that did not turn. -/
theorem cell (h : Ext S w w') {a : Addr} {v : Value} (hc : w.cell? a = some v) (hn : ¬ S a.block) : w'.cell? a = some v :=
  (World.cell?_of_block (h.block a.block (World.block_lt_of_cell? w a hc) hn)).trans hc
theorem grow (h : Gro w w') : ∃ q os, w' = Sort.grow (w.drewN q) os := by
  refine ⟨w'.drawn - w.drawn, w'.heap.extract w.heap.size w'.heap.size, ?_⟩
  have hh : w'.heap = w.heap ++ w'.heap.extract w.heap.size w'.heap.size := by
    apply Array.ext_getElem?
    intro i
    by_cases hi : i < w.heap.size
    · rw [Array.getElem?_append_left hi]; exact h.block i hi (fun e => e)
    · rw [Array.getElem?_append_right (by omega), Array.getElem?_extract]
      by_cases hj : i < w'.heap.size
      · rw [if_pos (by simp; omega)]; congr 1; omega
      · rw [if_neg (by simp; omega), Array.getElem?_eq_none (by omega)]
  have h1 := h.os; have h2 := h.tape; have h3 := h.output; have h4 := h.drawn
  cases w'; cases w
  simp only [Sort.grow, World.drewN] at *
  subst h1 h2 h3
  simp only [World.mk.injEq, true_and, and_true]
  exact ⟨hh, by omega⟩
theorem of_grow (w : World) (q : Nat) (os : Array Obj) : Gro w (Sort.grow (w.drewN q) os) :=
  ⟨rfl, rfl, rfl, by simp [Sort.grow], Nat.le_add_right _ _, fun k hk _ => by
    show (w.heap ++ os)[k]? = _
    rw [Array.getElem?_append_left hk]⟩
end Ext

/-- The facts of a growth that the walk takes as rules. -/
theorem Ext.rules {w w' : World} (h : Gro w w') : (∀ b o, b < w.heap.size → w'.cell? ⟨b, o, none⟩ = w.cell? ⟨b, o, none⟩) ∧ (∀ b o, b < w.heap.size → w'.frozen? ⟨b, o, none⟩ = w.frozen? ⟨b, o, none⟩) :=
  ⟨fun b o hb => h.below.cell (p := ⟨b, o, none⟩) hb, fun b o hb => h.below.frozen (p := ⟨b, o, none⟩) hb⟩

def I64 (x : Int) : Prop := -9223372036854775808 ≤ x ∧ x ≤ 9223372036854775807

/-- An expression: its operation, its value's kind, number and text; table, column, number, text; operands. -/
inductive Ex where
  | mk (op kind num : Int) (vs : ByteArray) (rel col n : Int) (s : ByteArray) (l : List Ex)
namespace Ex
def op : Ex → Int | mk a _ _ _ _ _ _ _ _ => a
def kind : Ex → Int | mk _ a _ _ _ _ _ _ _ => a
def num : Ex → Int | mk _ _ a _ _ _ _ _ _ => a
def vs : Ex → ByteArray | mk _ _ _ a _ _ _ _ _ => a
def rel : Ex → Int | mk _ _ _ _ a _ _ _ _ => a
def col : Ex → Int | mk _ _ _ _ _ a _ _ _ => a
def n : Ex → Int | mk _ _ _ _ _ _ a _ _ => a
def s : Ex → ByteArray | mk _ _ _ _ _ _ _ a _ => a
def l : Ex → List Ex | mk _ _ _ _ _ _ _ _ a => a
end Ex

/-- The nine cells of an expression whose operands lie at A. -/
def cells (e : Ex) (A : Option Addr) (cap : Nat) : List Value :=
  [.int .i64 e.op, .int .i64 e.kind, .int .i64 e.num, .string e.vs, .int .i64 e.rel, .int .i64 e.col, .int .i64 e.n, .string e.s, .slice A e.l.length cap]

/-- cs are the cells of e in w; every block that its operands lie in is one of ok. -/
inductive Rep (w : World) (ok : Nat → Prop) : Ex → List Value → Prop
  | mk (e : Ex) (A : Option Addr) (cap : Nat) (css : Nat → List Value) (hcap : e.l.length ≤ cap) (hmax : cap ≤ maxLen)
      (h1 : I64 e.op) (h2 : I64 e.kind) (h3 : I64 e.num) (h4 : e.vs.size ≤ maxLen) (h5 : I64 e.rel) (h6 : I64 e.col) (h7 : I64 e.n) (h8 : e.s.size ≤ maxLen)
      (hA : 0 < e.l.length → ∃ b off, A = some ⟨b, off, none⟩ ∧ ok b ∧ ∀ j, j < e.l.length → ∀ i v, (css j)[i]? = some v → w.cell? ⟨b, off + j * 9 + i, none⟩ = some v)
      (hl : ∀ j (h : j < e.l.length), Rep w ok e.l[j] (css j)) : Rep w ok e (cells e A cap)

theorem Rep.length {w : World} {ok : Nat → Prop} {e : Ex} {cs : List Value} (h : Rep w ok e cs) : cs.length = 9 := by cases h; rfl
theorem Rep.shape {w : World} {ok : Nat → Prop} {e : Ex} {cs : List Value} (h : Rep w ok e cs) : ∃ A cap, cs = cells e A cap := by cases h; exact ⟨_, _, rfl⟩
theorem Rep.oneCell {w : World} {ok : Nat → Prop} {e : Ex} {cs : List Value} (h : Rep w ok e cs) : ∀ v ∈ cs, v.oneCell' = true := by
  cases h; intro v hv; simp only [cells, List.mem_cons, List.not_mem_nil, or_false] at hv
  rcases hv with rfl | rfl | rfl | rfl | rfl | rfl | rfl | rfl | rfl <;> rfl
theorem Rep.mono {w w' : World} {ok ok' : Nat → Prop} {e : Ex} {cs : List Value} (h : Rep w ok e cs) (hk : ∀ b, ok b → b < w.heap.size → ok' b ∧ w'.heap[b]? = w.heap[b]?) : Rep w' ok' e cs := by
  induction h with
  | mk e A cap css hcap hmax h1 h2 h3 h4 h5 h6 h7 h8 hA hl ih =>
    refine .mk e A cap css hcap hmax h1 h2 h3 h4 h5 h6 h7 h8 (fun hp => ?_) (fun j h => ih j h)
    obtain ⟨b, off, rfl, hb, hc⟩ := hA hp
    have h0 := hc 0 hp 0
    have hlen : (css 0).length = 9 := (hl 0 hp).length
    have hlt : b < w.heap.size := World.block_lt_of_cell? w ⟨b, off + 0 * 9 + 0, none⟩ (h0 _ (List.getElem?_eq_getElem (by omega)))
    refine ⟨b, off, rfl, (hk b hb hlt).1, fun j hj i v hv => ?_⟩
    rw [World.cell?_of_block (a := ⟨b, off + j * 9 + i, none⟩) (hk b hb hlt).2]
    exact hc j hj i v hv
theorem Rep.ext {S : Nat → Prop} {w w' : World} {ok : Nat → Prop} {e : Ex} {cs : List Value} (h : Rep w ok e cs) (hx : Ext S w w') (hs : ∀ b, ok b → b < w.heap.size → ¬ S b) : Rep w' ok e cs :=
  h.mono fun b hb hlt => ⟨hb, hx.block b hlt (hs b hb hlt)⟩
theorem Rep.gro {w w' : World} {ok : Nat → Prop} {e : Ex} {cs : List Value} (h : Rep w ok e cs) (hx : Gro w w') : Rep w' ok e cs := h.ext hx fun _ _ _ e => e

theorem wpList_is {P : Program} {ops : Array Oper} {rest : List Oper} {o : Oper} {a : Act} {w : World} {Q : Exit → Act → World → Prop} (hg : o.guard = none) (v : Value) (w' : World)
    (hrun : (execOp a.eval o).run P w = .ok (.value v) w') (hK : wpList P ops Q rest (a.put o.dst v) w') : wpList P ops Q (o :: rest) a w :=
  wpList_plain hg fun K hK' => by unfold Oper.wp; rw [hrun]; exact hK' _ _ hK

theorem list9 {α : Type} (cs : List α) (h : cs.length = 9) : ∃ a b c d e f g h i, cs = [a, b, c, d, e, f, g, h, i] := by
  obtain ⟨a, cs, rfl⟩ := List.exists_cons_of_length_eq_add_one h
  obtain ⟨b, cs, rfl⟩ := List.exists_cons_of_length_eq_add_one (Nat.succ.inj h)
  obtain ⟨c, cs, rfl⟩ := List.exists_cons_of_length_eq_add_one (Nat.succ.inj (Nat.succ.inj h))
  obtain ⟨d, cs, rfl⟩ := List.exists_cons_of_length_eq_add_one (Nat.succ.inj (Nat.succ.inj (Nat.succ.inj h)))
  obtain ⟨e, cs, rfl⟩ := List.exists_cons_of_length_eq_add_one (Nat.succ.inj (Nat.succ.inj (Nat.succ.inj (Nat.succ.inj h))))
  obtain ⟨f, cs, rfl⟩ := List.exists_cons_of_length_eq_add_one (Nat.succ.inj (Nat.succ.inj (Nat.succ.inj (Nat.succ.inj (Nat.succ.inj h)))))
  obtain ⟨g, cs, rfl⟩ := List.exists_cons_of_length_eq_add_one (Nat.succ.inj (Nat.succ.inj (Nat.succ.inj (Nat.succ.inj (Nat.succ.inj (Nat.succ.inj h))))))
  obtain ⟨k, cs, rfl⟩ := List.exists_cons_of_length_eq_add_one (Nat.succ.inj (Nat.succ.inj (Nat.succ.inj (Nat.succ.inj (Nat.succ.inj (Nat.succ.inj (Nat.succ.inj h)))))))
  obtain ⟨i, cs, rfl⟩ := List.exists_cons_of_length_eq_add_one (Nat.succ.inj (Nat.succ.inj (Nat.succ.inj (Nat.succ.inj (Nat.succ.inj (Nat.succ.inj (Nat.succ.inj (Nat.succ.inj h))))))))
  obtain rfl := List.eq_nil_of_length_eq_zero (Nat.succ.inj (Nat.succ.inj (Nat.succ.inj (Nat.succ.inj (Nat.succ.inj (Nat.succ.inj (Nat.succ.inj (Nat.succ.inj (Nat.succ.inj h)))))))))
  exact ⟨a, b, c, d, e, f, g, k, i, rfl⟩

/-- No operation takes a draw back. -/
theorem ask_drawn {α : Type} (x : Ask α) : ∀ w : World, w.drawn ≤ (w.ask x).2.drawn := by
  induction x with
  | done a => intro w; exact Nat.le_refl _
  | ask what range k ih =>
    intro w
    simp only [World.ask]
    split
    · exact ih _ w
    · have := ih ((Question.extern what range).cut (w.tape w.drawn (Question.extern what range))) { w with drawn := w.drawn + 1 }
      exact Nat.le_trans (Nat.le_succ _) this
theorem viewStore_drawn (P : Program) (w : World) (at_ : Addr) (u : TypeId) (k : Addr) (v : Value) (atomic : Bool) (r : World × List Addr) (h : w.viewStore P at_ u k v atomic = .ok r) : r.1.drawn = w.drawn := by
  unfold World.viewStore at h
  simp only [bind, Except.bind, pure, Except.pure] at h
  repeat' split at h
  all_goals first | (cases h; done) | (cases h; rfl) | skip
theorem run_drawn (P : Program) {α : Type} (s : Sem α) : ∀ (w : World) (a : α) (w' : World), s.run P w = .ok a w' → w.drawn ≤ w'.drawn := by
  induction s with
  | pure a => intro w b w' h; simp only [Sem.run] at h; cases h; exact Nat.le_refl _
  | load m a k ih =>
    intro w b w' h
    simp only [Sem.run] at h
    split at h
    · exact ih _ _ _ _ h
    · split at h
      · exact ih _ _ _ _ h
      · cases h
  | store m a v k ih =>
    intro w b w' h
    cases v
    all_goals simp only [Sem.run] at h
    all_goals first
      | (cases h; done)
      | (split at h
         · split at h
           · cases h
           · have := ih _ _ _ h; exact this
         · split at h
           · rename_i w2 _ hf
             have h1 : w2.drawn = w.drawn := by
               unfold World.farStore at hf
               split at hf
               · split at hf
                 · rename_i r hv
                   have := viewStore_drawn _ _ _ _ _ _ _ _ hv
                   cases hf; exact this
                 · cases hf
               · cases hf
             have := ih _ _ _ h
             omega
           · cases h)
  | new o k ih => intro w b w' h; simp only [Sem.run] at h; have := ih _ _ _ _ h; exact this
  | shape r k ih => intro w b w' h; simp only [Sem.run] at h; exact ih _ _ _ _ h
  | freeze a n k ih =>
    intro w b w' h; simp only [Sem.run] at h
    have := ih _ _ _ h
    unfold World.freeze at this
    split at this <;> exact this
  | frozen a k ih => intro w b w' h; simp only [Sem.run] at h; exact ih _ _ _ _ h
  | getObj r k ih =>
    intro w b w' h; simp only [Sem.run] at h
    split at h
    · cases h
    · exact ih _ _ _ _ h
    · cases h
  | setObj r o k ih =>
    intro w b w' h; simp only [Sem.run] at h
    split at h
    · cases h
    · have := ih _ _ _ h; exact this
    · cases h
  | choose q k ih =>
    intro w b w' h; simp only [Sem.run] at h
    split at h
    · exact ih _ _ _ _ h
    · have := ih _ _ _ _ h; exact Nat.le_trans (Nat.le_succ _) this
  | sys c k ih =>
    intro w b w' h; simp only [Sem.run] at h
    refine Nat.le_trans ?_ (ih _ _ _ _ h)
    unfold World.sys
    have := ask_drawn (Kernel.perform c w.os) w
    split
    · exact Nat.le_refl _
    · rename_i hh; rw [hh] at this; exact this
  | program k ih => intro w b w' h; simp only [Sem.run] at h; exact ih _ _ _ _ h
  | mark m k ih => intro w b w' h; simp only [Sem.run] at h; exact ih _ _ _ h
  | halt x => intro w b w' h; simp only [Sem.run] at h; cases h

/-- append, by its run. -/
theorem wpList_append_run {P : Program} {ops : Array Oper} {rest : List Oper} {o : Oper} {a : Act} {w : World} {Q : Exit → Act → World → Prop} (hgd : o.guard = none) (sl x : Operand) (t u : TypeId)
    (ho : o.op = .call { callee := .builtin .append, args := #[sl, x], argTypes := #[t, u] }) (v y : Value) (hs : a.eval sl = v) (hx : a.eval x = y) (v' : Value) (w' : World)
    (hrun : (Builtin.append_ #[t, u] o.type #[v, y]).run P w = .ok v' w') (h : wpList P ops Q rest (a.put o.dst v') w') : wpList P ops Q (o :: rest) a w := by
  refine wpList_is hgd v' w' ?_ h
  unfold execOp
  simp only [ho, resolve, invoke, builtin, Sem.run_bind, Sem.run_pure, Result.andThen_ok, List.map_toArray, List.map_cons, List.map_nil, hs, hx, hrun]

/-! Blocks of one's own: what a block holds whole. -/
theorem heap_setRow (w : World) (g : Nat) (old cs : Array Value) (t : TypeId) (fr : Nat × Nat) (hg : w.heap[g]? = some (.cells old t fr)) : (w.setRow g cs).heap[g]? = some (.cells cs t fr) := by
  simp [World.setRow, Array.getElem?_modify, hg]
theorem heap_setRow_other (w : World) (g k : Nat) (cs : Array Value) (h : k ≠ g) : (w.setRow g cs).heap[k]? = w.heap[k]? := by
  simp only [World.setRow, Array.getElem?_modify]; rw [if_neg (by omega)]
theorem Ext.setRow {S : Nat → Prop} {w w1 : World} (h : Ext S w w1) (g : Nat) (cs : Array Value) (hs : g < w.heap.size → S g) : Ext S w (w1.setRow g cs) :=
  ⟨h.os, h.tape, h.output, by simpa [World.setRow] using h.size, h.drawn, fun k hk hn => by
    rw [heap_setRow_other w1 g k cs (fun e => hn (e ▸ hs (e ▸ hk)))]
    exact h.block k hk hn⟩
/-- A block holds these cells, none of them frozen. -/
def Blk (w : World) (g : Nat) (cs : Array Value) (t : TypeId) : Prop := w.heap[g]? = some (.cells cs t (0, 0))
theorem Blk.lt {w : World} {g : Nat} {cs : Array Value} {t : TypeId} (h : Blk w g cs t) : g < w.heap.size := (Array.getElem?_eq_some_iff.1 h).1
theorem Blk.cell {w : World} {g : Nat} {cs : Array Value} {t : TypeId} (h : Blk w g cs t) (i : Nat) : w.cell? ⟨g, i, none⟩ = cs[i]? := cell_of_row w g i cs t _ h
theorem Blk.thaw {w : World} {g : Nat} {cs : Array Value} {t : TypeId} (h : Blk w g cs t) (i : Nat) : w.frozen? ⟨g, i, none⟩ = false := frozen_of_row w g i cs t h
theorem Blk.ext {S : Nat → Prop} {w w' : World} {g : Nat} {cs : Array Value} {t : TypeId} (h : Blk w g cs t) (hx : Ext S w w') (hn : ¬ S g) : Blk w' g cs t := (hx.block g h.lt hn).trans h
theorem Blk.new (w : World) (cs : Array Value) (t : TypeId) : Blk (w.alloc (.cells cs t)) w.heap.size cs t := heap_alloc_new w _
theorem Blk.newAt {w : World} {n : Nat} (h : n = w.heap.size) (cs : Array Value) (t : TypeId) : Blk (w.alloc (.cells cs t)) n cs t := by subst h; exact heap_alloc_new w _
theorem Blk.alloc {w : World} {g : Nat} {cs : Array Value} {t : TypeId} (h : Blk w g cs t) (o : Obj) : Blk (w.alloc o) g cs t := h.ext ((Ext.refl (fun _ => False) w).alloc o) id
theorem Blk.setOther {w : World} {g : Nat} {cs : Array Value} {t : TypeId} (h : Blk w g cs t) (a : Addr) (v : Value) (hne : g ≠ a.block) : Blk (w.setCell a v) g cs t := (Below.heap_setCell w a v g hne).trans h
theorem Blk.setRow {w : World} {g : Nat} {old : Array Value} {t : TypeId} (h : Blk w g old t) (cs : Array Value) : Blk (w.setRow g cs) g cs t := heap_setRow w g old cs t _ h
theorem Blk.setCell {w : World} {g : Nat} {cs : Array Value} {t : TypeId} (h : Blk w g cs t) (i : Nat) (v : Value) : Blk (w.setCell ⟨g, i, none⟩ v) g (cs.setIfInBounds i v) t := by
  unfold Blk; simp only [World.setCell, Array.getElem?_modify, if_true]
  rw [show w.heap[g]? = some (.cells cs t (0, 0)) from h]; rfl

/-- .. in every world of a quiet region's class. -/
theorem Blk.grown {w : World} {g : Nat} {cs : Array Value} {t : TypeId} (h : Blk w g cs t) (n : Nat) (os : Array Obj) : Blk (Sort.grow (w.drewN n) os) g cs t := by
  unfold Blk Sort.grow
  show (w.heap ++ os)[g]? = _
  rw [Array.getElem?_append_left h.lt]; exact h
/-- k cells of memory, loaded as one value. -/
theorem run_loadVar_list (P : Program) (w : World) (ty : TypeId) (a : Addr) (cs : List Value) (d : TypeDesc) (hu : P.underlying ty = some d) (hd : (match d with | .struct _ | .array _ _ => true | _ => false) = true)
    (hi : (P.info? ty).map (·.size) = some cs.length) (h : ∀ j v, cs[j]? = some v → w.cell? (a.add j) = some v) : (loadVar ty a).run P w = .ok (.agg cs.toArray) w := by
  have hl := run_loadCells_list (P := P) (w := w) a cs h
  obtain ⟨i, hq, hs⟩ := Option.map_eq_some_iff.1 hi
  have hagg : (isAgg ty).run P w = .ok true w := by
    unfold isAgg
    rw [Sem.run_bind, run_underlying hu w]
    cases d <;> simp_all
  simp [loadVar, Sem.run_bind, hagg, sizeOf, typeInfo, hq, hs, hl]
theorem wpList_load_list {P : Program} {ops : Array Oper} {rest : List Oper} {o : Oper} {a : Act} {w : World} {Q : Exit → Act → World → Prop} (hgd : o.guard = none) (ty : TypeId) (x : Operand) (ho : o.op = .load ty x)
    (ad : Addr) (hx : a.eval x = .pointer (some ad)) (cs : List Value) (d : TypeDesc) (hu : P.underlying ty = some d) (hd : (match d with | .struct _ | .array _ _ => true | _ => false) = true)
    (hi : (P.info? ty).map (·.size) = some cs.length) (hc : ∀ j v, cs[j]? = some v → w.cell? (ad.add j) = some v)
    (h : wpList P ops Q rest (a.put o.dst (.agg cs.toArray)) w) : wpList P ops Q (o :: rest) a w :=
  wpList_is hgd (.agg cs.toArray) w (by simp only [execOp, ho, hx, Instr.loadAt, Instr.sureAddr, Sem.run_bind, Sem.run_pure, Result.andThen_ok, run_loadVar_list P w ty ad cs d hu hd hi hc]) h
end Go.Proofs.YtgikebkgihcogaaDoor
