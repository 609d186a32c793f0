/- Plain: when an expression is right, by its size, its depth and its parts; what turning, making normal and ranking leave as it is. -/
import Derived.Test.YtgikebkgihcogaaDoorD3
namespace Go.Proofs.YtgikebkgihcogaaDoor
open Go.RowKit Go.Sort
set_option maxHeartbeats 1000000

mutual
/-- How deep an expression is. -/
def depF : Ex → Nat
  | .mk _ _ _ _ _ _ _ _ l => depL l + 1
def depL : List Ex → Nat
  | [] => 0
  | x :: xs => max (depF x) (depL xs)
end
theorem depF_eq (e : Ex) : depF e = depL e.l + 1 := by cases e; rw [depF]; rfl
theorem depL_append (l r : List Ex) : depL (l ++ r) = max (depL l) (depL r) := by
  induction l with
  | nil => simp [depL]
  | cons x l ih => simp only [List.cons_append, depL, ih]; omega
theorem depL_reverse (l : List Ex) : depL l.reverse = depL l := by
  induction l with
  | nil => rfl
  | cons x l ih => rw [List.reverse_cons, depL_append, ih]; simp only [depL]; omega
theorem preL_reverse_len (l : List Ex) : (preL l.reverse).length = (preL l).length := by
  induction l with
  | nil => rfl
  | cons x l ih => rw [List.reverse_cons, preL_append, List.length_append, ih]; simp only [preL, List.length_append, List.length_nil]; omega
theorem mem_preL_of {l : List Ex} {x y : Ex} (hx : x ∈ l) (hy : y ∈ preF x) : y ∈ preL l := by
  induction l with
  | nil => cases hx
  | cons z l ih =>
    rw [preL, List.mem_append]
    rcases List.mem_cons.1 hx with rfl | h
    · exact .inl hy
    · exact .inr (ih h)
theorem mem_preL_reverse {l : List Ex} {y : Ex} : y ∈ preL l.reverse ↔ y ∈ preL l := by
  constructor
  · intro h; obtain ⟨x, hx, hy⟩ := mem_preL h; exact mem_preL_of (List.mem_reverse.1 hx) hy
  · intro h; obtain ⟨x, hx, hy⟩ := mem_preL h; exact mem_preL_of (List.mem_reverse.2 hx) hy
theorem walk_iff (e : Ex) : ∀ (deep many : Int), (walkF e deep many).1 = true ↔ (∀ y ∈ preF e, nodeOwn y = true) ∧ many + (preF e).length ≤ 200 ∧ deep + depF e ≤ 21 := by
  refine Ex.rec (motive_1 := fun e => ∀ (deep many : Int), (walkF e deep many).1 = true ↔ (∀ y ∈ preF e, nodeOwn y = true) ∧ many + (preF e).length ≤ 200 ∧ deep + depF e ≤ 21)
    (motive_2 := fun l => ∀ (deep many : Int), (walkL l deep many).1 = true ↔ (∀ y ∈ preL l, nodeOwn y = true) ∧ (l = [] ∨ (many + (preL l).length ≤ 200 ∧ deep + depL l ≤ 21))) ?_ ?_ ?_ e
  · intro op kind num vs rel col n s l ih deep many
    rw [walkF, depF, preF]
    by_cases hc : 200 < many + 1 ∨ 20 < deep ∨ nodeOwn (.mk op kind num vs rel col n s l) = false
    · rw [if_pos hc]
      simp only [Bool.false_eq_true, false_iff]
      rintro ⟨h1, h2, h3⟩
      have h0 := h1 _ List.mem_cons_self
      simp only [List.length_cons] at h2
      rcases hc with hc | hc | hc
      · omega
      · omega
      · rw [h0] at hc; cases hc
    · rw [if_neg hc, ih]
      simp only [not_or, Bool.not_eq_false] at hc
      obtain ⟨c1, c2, c3⟩ := hc
      simp only [List.length_cons, List.mem_cons, forall_eq_or_imp]
      constructor
      · rintro ⟨h1, h2⟩
        refine ⟨⟨c3, h1⟩, ?_⟩
        rcases h2 with rfl | h2
        · simp only [preL, depL, List.length_nil]; omega
        · omega
      · rintro ⟨⟨_, h1⟩, h2, h3⟩
        exact ⟨h1, .inr (by omega)⟩
  · intro deep many
    simp [walkL, preL]
  · intro x l ihx ihl deep many
    rw [walkL]
    by_cases hx : (walkF x deep many).1 = true
    · rw [if_pos hx, ihl, walkF_count x deep many hx]
      have h := (ihx deep many).1 hx
      simp only [preL, List.mem_append, List.length_append, depL, reduceCtorEq, false_or]
      constructor
      · rintro ⟨h1, h2⟩
        refine ⟨fun y hy => hy.elim (h.1 y) (h1 y), ?_⟩
        rcases h2 with rfl | h2
        · simp only [preL, depL, List.length_nil]; omega
        · omega
      · rintro ⟨h1, h2⟩
        exact ⟨fun y hy => h1 y (.inr hy), .inr (by omega)⟩
    · rw [if_neg hx]
      simp only [Bool.false_eq_true, preL, List.mem_append, List.length_append, depL, reduceCtorEq, false_or, false_iff]
      rintro ⟨h1, h2⟩
      exact hx ((ihx deep many).2 ⟨fun y hy => h1 y (.inl hy), by omega⟩)
/-- When an expression is right. -/
theorem right_iff (e : Ex) : rightF e = true ↔ OwnAll e ∧ (preF e).length ≤ 200 ∧ depF e ≤ 20 := by
  rw [rightF, walk_iff, OwnAll]
  constructor <;> rintro ⟨h1, h2⟩ <;> exact ⟨h1, by omega⟩
theorem ownAll_iff (e : Ex) : OwnAll e ↔ nodeOwn e = true ∧ ∀ y ∈ preL e.l, nodeOwn y = true := by
  unfold OwnAll; rw [preF_eq]; simp

/-- Two expressions alike in size, depth and rightness of their own fields. -/
structure Alike (e f : Ex) : Prop where
  len : (preF f).length = (preF e).length
  dep : depF f = depF e
  own : OwnAll f ↔ OwnAll e
theorem Alike.right {e f : Ex} (h : Alike e f) : rightF f = rightF e := by
  rw [Bool.eq_iff_iff, right_iff, right_iff, h.len, h.dep, h.own]

/-- A node's own fields hang on its operation's kind and its operands' number. -/
theorem nodeOwn_withL (e : Ex) (op : Int) (l : List Ex) (hl : l.length = e.l.length) (ho : op = e.op ∨ (4 ≤ op ∧ op ≤ 18 ∧ 4 ≤ e.op ∧ e.op ≤ 18 ∧ wantsF op = wantsF e.op)) : nodeOwn (e.withL op l) = nodeOwn e := by
  cases e with
  | mk a b c d r g h s k =>
    simp only [nodeOwn, Ex.withL, Ex.op, Ex.kind, Ex.num, Ex.vs, Ex.rel, Ex.col, Ex.n, Ex.s, Ex.l] at hl ho ⊢
    rw [hl]
    rcases ho with rfl | ⟨h1, h2, h3, h4, h5⟩
    · rfl
    · unfold ownF
      rw [h5]
      rw [if_neg (show ¬ op = 1 by omega), if_neg (show ¬ a = 1 by omega), if_neg (show ¬ op = 2 by omega), if_neg (show ¬ a = 2 by omega), if_neg (show ¬ op = 3 by omega), if_neg (show ¬ a = 3 by omega)]
theorem alike_withL (e : Ex) (op : Int) (ho : op = e.op ∨ (4 ≤ op ∧ op ≤ 18 ∧ 4 ≤ e.op ∧ e.op ≤ 18 ∧ wantsF op = wantsF e.op)) : Alike e (e.withL op e.l.reverse) := by
  have hl : (e.withL op e.l.reverse).l = e.l.reverse := rfl
  refine ⟨?_, ?_, ?_⟩
  · rw [preF_eq, preF_eq e, List.length_cons, List.length_cons, hl, preL_reverse_len]
  · rw [depF_eq, depF_eq e, hl, depL_reverse]
  · rw [ownAll_iff, ownAll_iff, hl, nodeOwn_withL e op _ (by simp) ho]
    simp only [mem_preL_reverse]

/-- A condition written the other way round, if it can be. -/
def flipOp (op : Int) : Int := if op = 11 then 13 else if op = 12 then 14 else if op = 13 then 11 else if op = 14 then 12 else op
def flips (op : Int) : Bool := decide (9 ≤ op) && decide (op ≤ 14)
def flipF (e : Ex) : Ex := if e.l.length = 2 ∧ flips e.op = true then e.withL (flipOp e.op) e.l.reverse else e
theorem flip_cases {op : Int} (h : flips op = true) : op = 9 ∨ op = 10 ∨ op = 11 ∨ op = 12 ∨ op = 13 ∨ op = 14 := by
  simp only [flips, Bool.and_eq_true, decide_eq_true_eq] at h; omega
theorem flip_wants {op : Int} (h : flips op = true) : 4 ≤ flipOp op ∧ flipOp op ≤ 18 ∧ 4 ≤ op ∧ op ≤ 18 ∧ wantsF (flipOp op) = wantsF op := by
  rcases flip_cases h with rfl | rfl | rfl | rfl | rfl | rfl <;> decide
theorem flip_alike (e : Ex) : Alike e (flipF e) := by
  unfold flipF
  split
  · rename_i h; exact alike_withL e _ (.inr (flip_wants h.2))
  · exact ⟨rfl, rfl, Iff.rfl⟩
theorem flip_right (e : Ex) : rightF (flipF e) = rightF e := (flip_alike e).right
theorem tabL_cons_or (l : List Ex) : ∀ m : Nat, l.foldl (fun m x => if x.op = 2 then m ||| 2 ^ x.rel.toNat else m) m = m ||| tabL l := by
  induction l with
  | nil => intro m; simp [tabL]
  | cons x l ih =>
    intro m
    simp only [tabL, List.foldl_cons]
    rw [ih, ih (if x.op = 2 then 0 ||| 2 ^ x.rel.toNat else 0)]
    split
    · rw [Nat.zero_or, Nat.or_assoc]
    · rw [Nat.zero_or]
theorem tabL_append (l r : List Ex) : tabL (l ++ r) = tabL l ||| tabL r := by
  rw [tabL, List.foldl_append, tabL_cons_or]; rfl
theorem tabL_reverse (l : List Ex) : tabL (preL l.reverse) = tabL (preL l) := by
  induction l with
  | nil => rfl
  | cons x l ih => 
    rw [List.reverse_cons, preL_append, tabL_append, ih]; simp only [preL, tabL_append]
    rw [show tabL ([] : List Ex) = 0 from rfl, Nat.or_zero, Nat.or_comm]
theorem tabL_one (e : Ex) (l : List Ex) (h : e.op ≠ 2) : tabL (e :: l) = tabL l := by
  rw [tabL, List.foldl_cons, if_neg h]; rfl
theorem flip_tables (e : Ex) : tablesF (flipF e) = tablesF e := by
  unfold tablesF
  rw [flip_right]
  congr 1
  unfold flipF
  split
  · rename_i h
    rw [preF_eq, preF_eq e, tabL_one _ _ (by show flipOp e.op ≠ 2; have := flip_wants h.2; omega), tabL_one e _ (by have := flip_wants h.2; omega)]
    exact tabL_reverse e.l
  · rfl
theorem flip_within (set : Int) (e : Ex) : withinB set (flipF e) = withinB set e := by unfold withinB; rw [flip_tables]
theorem rankR_ne {rs : List Int} {e : Ex} (h : e.op ≠ 2) : rankR rs e = e.rel := by rw [rankR, if_neg h]
theorem rank_flip (rs : List Int) (e : Ex) : rankF rs (flipF e) = flipF (rankF rs e) := by
  have h1 : (rankF rs e).op = e.op := by rw [rankF_eq]; rfl
  have h2 : (rankF rs e).l = e.l.map (rankF rs) := by rw [rankF_eq]; rfl
  by_cases h : e.l.length = 2 ∧ flips e.op = true
  · have h' : (rankF rs e).l.length = 2 ∧ flips (rankF rs e).op = true := by rw [h1, h2, List.length_map]; exact h
    rw [flipF, if_pos h, flipF, if_pos h']
    have hw := flip_wants h.2
    have e1 : rankF rs (e.withL (flipOp e.op) e.l.reverse) = (e.withL (flipOp e.op) e.l.reverse).withRL e.rel ((e.l.reverse).map (rankF rs)) := by
      rw [rankF_eq, rankR_ne (by show flipOp e.op ≠ 2; omega)]; rfl
    have e2 : rankF rs e = e.withRL e.rel (e.l.map (rankF rs)) := by rw [rankF_eq, rankR_ne (by omega)]
    rw [e1, e2, List.map_reverse]; rfl
  · have h' : ¬ ((rankF rs e).l.length = 2 ∧ flips (rankF rs e).op = true) := by rw [h1, h2, List.length_map]; exact h
    rw [flipF, if_neg h, flipF, if_neg h']

/-! What is normal is right. -/
theorem turn_wants {op : Int} (h : turnOk op = true) : turnOp op = op ∨ (4 ≤ turnOp op ∧ turnOp op ≤ 18 ∧ 4 ≤ op ∧ op ≤ 18 ∧ wantsF (turnOp op) = wantsF op) := by
  simp only [turnOk, decide_eq_true_eq] at h
  rcases h with rfl | rfl | rfl | rfl | rfl | rfl | rfl | rfl <;> decide
theorem norm_lists (l : List Ex) (ih : ∀ x ∈ l, Alike x (normF x)) : (preL (l.map normF)).length = (preL l).length ∧ depL (l.map normF) = depL l ∧ ((∀ y ∈ preL (l.map normF), nodeOwn y = true) ↔ ∀ y ∈ preL l, nodeOwn y = true) := by
  induction l with
  | nil => exact ⟨rfl, rfl, by simp [preL]⟩
  | cons x l hl =>
    obtain ⟨h1, h2, h3⟩ := hl (fun y hy => ih y (List.mem_cons_of_mem _ hy))
    have hx := ih x List.mem_cons_self
    have h4 := hx.own
    unfold OwnAll at h4
    simp only [List.map_cons, preL, depL, List.length_append, List.mem_append, h1, h2, hx.len, hx.dep, true_and]
    constructor
    · intro h y hy
      rcases hy with hy | hy
      · exact h4.1 (fun z hz => h z (.inl hz)) y hy
      · exact h3.1 (fun z hz => h z (.inr hz)) y hy
    · intro h y hy
      rcases hy with hy | hy
      · exact h4.2 (fun z hz => h z (.inl hz)) y hy
      · exact h3.2 (fun z hz => h z (.inr hz)) y hy
theorem norm_alike (e : Ex) : Alike e (normF e) := by
  refine Ex.rec (motive_1 := fun e => Alike e (normF e)) (motive_2 := fun l => ∀ x ∈ l, Alike x (normF x)) ?_ ?_ ?_ e
  · intro a b c d r g h s l ih
    obtain ⟨h1, h2, h3⟩ := norm_lists l ih
    generalize hE : Ex.mk a b c d r g h s l = E
    have hEl : E.l = l := by rw [← hE]; rfl
    rw [normF_eq, hEl]
    have key : Alike E (E.withL E.op (l.map normF)) := by
      have hl : (E.withL E.op (l.map normF)).l = l.map normF := rfl
      refine ⟨?_, ?_, ?_⟩
      · rw [preF_eq, preF_eq E, List.length_cons, List.length_cons, hl, hEl, h1]
      · rw [depF_eq, depF_eq E, hl, hEl, h2]
      · rw [ownAll_iff, ownAll_iff, hl, hEl, nodeOwn_withL E E.op _ (by rw [hEl, List.length_map]) (.inl rfl), h3]
    by_cases ht : turnsR E (l.map normF) = true
    · rw [turnIt_yes ht]
      have hok : turnOk E.op = true := by simp only [turnsR, Bool.and_eq_true] at ht; exact ht.1
      have k2 := alike_withL (E.withL E.op (l.map normF)) (turnOp E.op) (turn_wants hok)
      exact ⟨k2.len.trans key.len, k2.dep.trans key.dep, k2.own.trans key.own⟩
    · rw [turnIt_no (by simpa using ht)]; exact key
  · intro x hx; cases hx
  · intro x l hx hl y hy
    rcases List.mem_cons.1 hy with rfl | h
    · exact hx
    · exact hl y h
theorem norm_right (e : Ex) : rightF (normF e) = rightF e := (norm_alike e).right
end Go.Proofs.YtgikebkgihcogaaDoor
