/- Plain: what is normal stays as it is; and so does a list that was made so. -/
import Derived.Test.YtgikebkgihcogaaDoorE2
namespace Go.Proofs.YtgikebkgihcogaaDoor
open Go.RowKit Go.Sort
set_option maxHeartbeats 1000000

theorem turnR_len {e : Ex} {l : List Ex} (h : turnsR e l = true) : turnOk e.op = true := by simp only [turnsR, Bool.and_eq_true] at h; exact h.1
theorem turnOk_wants {op : Int} (h : turnOk op = true) : wantsF op = 2 := by
  simp only [turnOk, decide_eq_true_eq] at h
  rcases h with rfl | rfl | rfl | rfl | rfl | rfl | rfl | rfl <;> decide
theorem turnOp_cases {op : Int} (h : turnOk op = true) : turnOk (turnOp op) = false ∨ turnOp op = op := by
  simp only [turnOk, decide_eq_true_eq] at h
  rcases h with rfl | rfl | rfl | rfl | rfl | rfl | rfl | rfl <;> decide
theorem norm_norm (e : Ex) : OwnAll e → normF (normF e) = normF e := by
  refine Ex.rec (motive_1 := fun e => OwnAll e → normF (normF e) = normF e) (motive_2 := fun l => ∀ x ∈ l, OwnAll x → normF (normF x) = normF x) ?_ ?_ ?_ e
  · intro a b c d r g h s l ih hown
    generalize hE : Ex.mk a b c d r g h s l = E at hown
    have hEl : E.l = l := by rw [← hE]; rfl
    have hll := own_len hown.self
    have hmap : (l.map normF).map normF = l.map normF := by
      rw [List.map_map]
      apply List.map_congr_left
      intro x hx
      exact ih x hx (hown.sub x (by rw [hEl]; exact hx))
    rw [normF_eq E, hEl]
    by_cases ht : turnsR E (l.map normF) = true
    · rw [turnIt_yes ht, normF_eq]
      have hok := turnR_len ht
      have hw := turnOk_wants hok
      have hl2 : l.length = 2 := by rw [hEl, hw] at hll; omega
      have e1 : (E.withL (turnOp E.op) (l.map normF).reverse).l = (l.map normF).reverse := rfl
      have e2 : (E.withL (turnOp E.op) (l.map normF).reverse).op = turnOp E.op := rfl
      rw [e1, List.map_reverse, hmap]
      have hno : turnsR (E.withL (turnOp E.op) (l.map normF).reverse) (l.map normF).reverse = false := by
        unfold turnsR
        rw [e2]
        rcases turnOp_cases hok with hk | hk
        · rw [hk]; rfl
        · have ht' := ht
          unfold turnsR at ht'
          rw [hk] at ht' ⊢
          rw [hok, hk]
          simp only [hok, Bool.true_and, ne_eq, not_true_eq_false, decide_false, Bool.false_or] at ht' ⊢
          match l, hl2 with
          | [x, y], _ =>
            simp only [List.map_cons, List.map_nil, List.reverse_cons, List.reverse_nil, List.nil_append, List.cons_append] at ht' ⊢
            exact less_asymm _ _ ht'
      rw [turnIt_no hno, e2]
      rfl
    · have ht' : turnsR E (l.map normF) = false := by simpa using ht
      rw [turnIt_no ht', normF_eq]
      have e1 : (E.withL E.op (l.map normF)).l = l.map normF := rfl
      rw [e1, hmap]
      have hno : turnsR (E.withL E.op (l.map normF)) (l.map normF) = false := ht'
      rw [turnIt_no hno]
      rfl
  · intro x hx; cases hx
  · intro x l hx hl y hy
    rcases List.mem_cons.1 hy with rfl | h
    · exact hx
    · exact hl y h
theorem norm_norm_right {e : Ex} (h : rightF e = true) : normF (normF e) = normF e := norm_norm e (right_own h)
/-- A list made normal twice has the texts that it has. -/
theorem conds_conds {xs ys zs : List Ex} (hr : ∀ x ∈ xs, rightF x = true) (h : CondsRel xs ys) (h' : CondsRel ys zs) : zs.map textF = ys.map textF ∧ (∀ y ∈ ys, rightF y = true) ∧ ∀ z ∈ zs, rightF z = true := by
  obtain ⟨a1, a2, a3⟩ := conds_texts hr h
  have hyr : ∀ y ∈ ys, rightF y = true := fun y hy => by obtain ⟨x, hx, rfl⟩ := a3 y hy; rw [norm_right]; exact hr x hx
  have hyn : ∀ y ∈ ys, normF y = y := fun y hy => by obtain ⟨x, hx, rfl⟩ := a3 y hy; exact norm_norm_right (hr x hx)
  obtain ⟨b1, b2, b3⟩ := conds_texts hyr h'
  refine ⟨pairwise_unique ltT ltT_irr ltT_trans _ _ b1 a1 (fun t => ?_), hyr, fun z hz => ?_⟩
  · rw [b2]
    constructor
    · rintro ⟨x, hx, rfl⟩; rw [hyn x hx]; exact List.mem_map.2 ⟨x, hx, rfl⟩
    · intro ht; obtain ⟨y, hy, rfl⟩ := List.mem_map.1 ht; exact ⟨y, hy, by rw [hyn y hy]⟩
  · obtain ⟨x, hx, rfl⟩ := b3 z hz; rw [norm_right]; exact hyr x hx
theorem texts_prints {xs ys : List Ex} (hx : ∀ x ∈ xs, rightF x = true) (hy : ∀ y ∈ ys, rightF y = true) (h : xs.map textF = ys.map textF) : xs.map printF = ys.map printF := by
  induction xs generalizing ys with
  | nil => cases ys with
    | nil => rfl
    | cons y ys => simp at h
  | cons x xs ih => cases ys with
    | nil => simp at h
    | cons y ys =>
      simp only [List.map_cons, List.cons.injEq] at h ⊢
      exact ⟨(text_print (hx x List.mem_cons_self) (hy y List.mem_cons_self)).1 h.1, ih (fun a ha => hx a (List.mem_cons_of_mem _ ha)) (fun a ha => hy a (List.mem_cons_of_mem _ ha)) h.2⟩

/-! The digits of a number, taken from behind. -/
/-- The least digits of a number, the last first, k of them. -/
def revDig : Nat → Nat → List UInt8
  | _, 0 => []
  | u, k + 1 => UInt8.ofNat (48 + u % 10) :: revDig (u / 10) k
theorem revDig_snoc : ∀ (k u : Nat), revDig u (k + 1) = revDig u k ++ [UInt8.ofNat (48 + u / 10 ^ k % 10)]
  | 0, u => by simp [revDig]
  | k + 1, u => by
    rw [revDig, revDig_snoc k (u / 10), revDig, List.cons_append, Nat.div_div_eq_div_mul, ← Nat.pow_succ']
theorem revDig_len : ∀ (k u : Nat), (revDig u k).length = k
  | 0, _ => rfl
  | k + 1, u => by simp [revDig, revDig_len k]
/-- All digits: so many as the number has. -/
theorem decDigits_rev : ∀ (k u : Nat), 10 ^ k ≤ u → u < 10 ^ (k + 1) → Lib.decDigits u = (revDig u (k + 1)).reverse
  | 0, u, h1, h2 => by
    rw [Lib.decDigits, dif_pos (by simpa using h2)]
    simp [revDig, Nat.mod_eq_of_lt (show u < 10 by simpa using h2)]
  | k + 1, u, h1, h2 => by
    have hk : 10 ^ (k + 1) = 10 ^ k * 10 := Nat.pow_succ 10 k
    have hk2 : 10 ^ (k + 1 + 1) = 10 ^ (k + 1) * 10 := Nat.pow_succ 10 (k + 1)
    have hp : 0 < 10 ^ k := Nat.pow_pos (by decide)
    rw [Lib.decDigits, dif_neg (by omega), decDigits_rev k (u / 10) (by omega) (by omega)]
    show _ = (UInt8.ofNat (48 + u % 10) :: revDig (u / 10) (k + 1)).reverse
    rw [List.reverse_cons]
theorem dig_count (u : Nat) (h : u ≠ 0) : ∃ k, 10 ^ k ≤ u ∧ u < 10 ^ (k + 1) := by
  induction u using Nat.strongRecOn with
  | ind u ih =>
    by_cases hu : u < 10
    · exact ⟨0, by simp; omega, by simpa using hu⟩
    · obtain ⟨k, h1, h2⟩ := ih (u / 10) (by omega) (by omega)
      refine ⟨k + 1, ?_, ?_⟩
      · rw [Nat.pow_succ]; omega
      · rw [Nat.pow_succ]; omega
end Go.Proofs.YtgikebkgihcogaaDoor
