/- A made list written in place, and cut short; what CompactFunc leaves. -/
import Derived.Test.YtgikebkgihcogaaDoorW11
namespace Go.Proofs.YtgikebkgihcogaaDoor
open Go.RowKit Go.Sort
set_option maxHeartbeats 1000000

theorem own_put {w : World} {base g n cap : Nat} {e : TypeId} {cs : List Value} (h : w.ownsRow base e 9 (.slice (some ⟨g, 0, none⟩) n cap) n cs) (o : Nat) (vs : List Value) (ho : o + vs.length ≤ n * 9) :
    ∃ cur, Blk w g cur e ∧ o + vs.length ≤ cur.size ∧ (w.setRow g (cur.toList.take o ++ vs ++ cur.toList.drop (o + vs.length)).toArray).ownsRow base e 9 (.slice (some ⟨g, 0, none⟩) n cap) n (cs.take o ++ vs ++ cs.drop (o + vs.length)) := by
  have hl := h.1
  rcases h.2 with ⟨hh, _⟩ | ⟨g', cap', cur, hh, hb, hg, h1, h2, h3, h4⟩
  · cases hh
  · injection hh with a1 _ a3
    injection a1 with a1
    injection a1 with a1
    subst a1; subst a3
    have hsz : n * 9 ≤ cur.size := by rw [h3]; exact Nat.mul_le_mul_right 9 h1
    refine ⟨cur, hg, by omega, by simp; omega, .inr ⟨g, cap, _, rfl, hb, heap_setRow w g cur _ e _ hg, h1, h2, by simp; omega, ?_⟩⟩
    rw [← h4]
    have hcl : cur.toList.length = cur.size := by simp
    have e1 : ∀ (l : List Value), o ≤ n * 9 → n * 9 ≤ l.length → o + vs.length ≤ n * 9 → (l.take o ++ vs ++ l.drop (o + vs.length)).take (n * 9) = (l.take (n * 9)).take o ++ vs ++ (l.take (n * 9)).drop (o + vs.length) := by
      intro l h1 h2 h3
      rw [List.take_append, List.take_append, List.take_take, List.take_take, Nat.min_eq_right h1, Nat.min_eq_left h1, List.drop_take, List.take_of_length_le (l := vs) (by simp only [List.length_take]; omega)]
      congr 2
      simp only [List.length_append, List.length_take]
      omega
    exact e1 cur.toList (by omega) (by omega) ho

theorem flatten_set (css : List (List Value)) (h : ∀ cs ∈ css, cs.length = 9) (c : List Value) (_hc : c.length = 9) : ∀ k, k < css.length → css.flatten.take (k * 9) ++ c ++ css.flatten.drop (k * 9 + 9) = (css.set k c).flatten := by
  induction css with
  | nil => intro k hk; simp at hk
  | cons d css ih =>
    intro k hk
    have hd := h d List.mem_cons_self
    cases k with
    | zero => simp [hd]
    | succ k =>
      have := ih (fun cs hcs => h cs (List.mem_cons_of_mem _ hcs)) k (by simpa using hk)
      simp only [List.flatten_cons, List.set_cons_succ]
      rw [List.take_append, List.drop_append, List.take_of_length_le (by omega), List.drop_eq_nil_of_le (by omega), hd, show (k + 1) * 9 - 9 = k * 9 from by omega, show (k + 1) * 9 + 9 - 9 = k * 9 + 9 from by omega, List.nil_append, List.append_assoc, List.append_assoc, ← this, List.append_assoc]

theorem own_shrink {w : World} {base g n cap : Nat} {e : TypeId} {cs : List Value} (h : w.ownsRow base e 9 (.slice (some ⟨g, 0, none⟩) n cap) n cs) (k : Nat) (hk : k ≤ n) :
    w.ownsRow base e 9 (.slice (some ⟨g, 0, none⟩) k cap) k (cs.take (k * 9)) := by
  have hl := h.1
  have hk9 := Nat.mul_le_mul_right 9 hk
  rcases h.2 with ⟨hh, _⟩ | ⟨g', cap', cur, hh, hb, hg, h1, h2, h3, h4⟩
  · cases hh
  · injection hh with a1 _ a3
    injection a1 with a1
    injection a1 with a1
    subst a1; subst a3
    refine ⟨by simp; omega, .inr ⟨g, cap, cur, rfl, hb, hg, by omega, h2, h3, ?_⟩⟩
    rw [← h4, List.take_take, Nat.min_eq_left hk9]

/-- Of neighbours that are the same the first. -/
def dedupFrom (eq : Ex → Ex → Bool) : Ex → List Ex → List Ex
  | _, [] => []
  | p, y :: ys => if eq y p = true then dedupFrom eq y ys else y :: dedupFrom eq y ys
def dedup (eq : Ex → Ex → Bool) : List Ex → List Ex
  | [] => []
  | x :: xs => x :: dedupFrom eq x xs
theorem dedupFrom_snoc (eq : Ex → Ex → Bool) (p : Ex) (xs : List Ex) (y : Ex) : dedupFrom eq p (xs ++ [y]) = dedupFrom eq p xs ++ (if eq y ((p :: xs).getLast (by simp)) = true then [] else [y]) := by
  induction xs generalizing p with
  | nil => rfl
  | cons x xs ih =>
    simp only [List.cons_append, dedupFrom]
    split
    · rw [ih x]; rfl
    · rw [ih x]; rfl
theorem dedup_snoc (eq : Ex → Ex → Bool) (xs : List Ex) (h : xs ≠ []) (y : Ex) : dedup eq (xs ++ [y]) = dedup eq xs ++ (if eq y (xs.getLast h) = true then [] else [y]) := by
  match xs, h with
  | x :: xs, _ => simp only [List.cons_append, dedup]; rw [dedupFrom_snoc]
theorem dedup_take (eq : Ex → Ex → Bool) (xs : List Ex) (k : Nat) (h1 : 1 ≤ k) (hk : k < xs.length) :
    dedup eq (xs.take (k + 1)) = dedup eq (xs.take k) ++ (if eq xs[k] (xs[k - 1]'(by omega)) = true then [] else [xs[k]]) := by
  have hne : xs.take k ≠ [] := by intro h; have := congrArg List.length h; simp only [List.length_take, List.length_nil] at this; omega
  rw [List.take_succ_eq_append_getElem hk, dedup_snoc eq _ hne]
  congr 2
  have e : (xs.take k).getLast hne = xs[k - 1]'(by omega) := by
    rw [List.getLast_eq_getElem, List.getElem_take]
    have : (xs.take k).length - 1 = k - 1 := by simp; omega
    simp only [this]
  rw [e]
theorem dedup_len (eq : Ex → Ex → Bool) (xs : List Ex) : (dedup eq xs).length ≤ xs.length := by
  have : ∀ (xs : List Ex) p, (dedupFrom eq p xs).length ≤ xs.length := by
    intro xs
    induction xs with
    | nil => intro p; simp [dedupFrom]
    | cons x xs ih =>
      intro p
      rw [dedupFrom]
      split
      · have := ih x; simp; omega
      · have := ih x; simp; omega
  cases xs with
  | nil => simp [dedup]
  | cons x xs => have := this xs x; simp [dedup]; omega
end Go.Proofs.YtgikebkgihcogaaDoor
