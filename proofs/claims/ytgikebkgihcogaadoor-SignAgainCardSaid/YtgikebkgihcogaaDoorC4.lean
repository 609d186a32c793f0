/- The byte order of texts; sign.Conds. -/
import Derived.Test.YtgikebkgihcogaaDoorC3
import Derived.Test.YtgikebkgihcogaaDoorW14
namespace Go.Proofs.YtgikebkgihcogaaDoor
open Go.RowKit Go.Sort
set_option maxHeartbeats 1000000

theorem cmpB_eq : ∀ (a b : List UInt8), Lib.compareBytes a b = 0 ↔ a = b
  | [], [] => by simp [Lib.compareBytes]
  | [], _ :: _ => by simp [Lib.compareBytes]
  | _ :: _, [] => by simp [Lib.compareBytes]
  | x :: a, y :: b => by
    have ih := cmpB_eq a b
    simp only [Lib.compareBytes]
    split
    · rename_i h; simp; intro e; subst e; exact absurd h (by simp)
    · split
      · rename_i h; simp; intro e; subst e; exact absurd h (by simp)
      · rename_i h1 h2
        have : x = y := by
          apply UInt8.toNat.inj
          simp only [UInt8.lt_iff_toNat_lt] at h1 h2
          omega
        subst this
        simp [ih]
theorem cmpB_swap : ∀ (a b : List UInt8), Lib.compareBytes b a = - Lib.compareBytes a b
  | [], [] => by simp [Lib.compareBytes]
  | [], _ :: _ => by simp [Lib.compareBytes]
  | _ :: _, [] => by simp [Lib.compareBytes]
  | x :: a, y :: b => by
    have ih := cmpB_swap a b
    simp only [Lib.compareBytes, UInt8.lt_iff_toNat_lt] 
    repeat' split
    all_goals first | omega | rfl
theorem cmpB_le_trans : ∀ (a b c : List UInt8), Lib.compareBytes a b ≤ 0 → Lib.compareBytes b c ≤ 0 → Lib.compareBytes a c ≤ 0
  | [], [], [] => by simp [Lib.compareBytes]
  | [], [], _ :: _ => by simp [Lib.compareBytes]
  | [], _ :: _, [] => by simp [Lib.compareBytes]
  | [], _ :: _, _ :: _ => by simp [Lib.compareBytes]
  | _ :: _, [], _ => by simp [Lib.compareBytes]
  | _ :: _, _ :: _, [] => by simp [Lib.compareBytes]
  | x :: a, y :: b, z :: c => by
    have ih := cmpB_le_trans a b c
    simp only [Lib.compareBytes, UInt8.lt_iff_toNat_lt]
    repeat' split
    all_goals first | omega | (intro h1 h2; omega)
theorem cmpE_self (x : Ex) : cmpE x x = 0 := (cmpB_eq _ _).2 rfl
theorem cmpE_swap (x y : Ex) : cmpE y x = - cmpE x y := cmpB_swap _ _
theorem cmpE_zero (x y : Ex) : cmpE x y = 0 ↔ textF x = textF y := by
  rw [cmpE, cmpB_eq]
  constructor
  · intro h
    have : (textF x).data = (textF y).data := Array.toList_inj.1 h
    cases hx : textF x; cases hy : textF y
    rw [hx, hy] at this
    exact congrArg ByteArray.mk this
  · intro h; rw [h]
theorem cmpE_trans (x y z : Ex) (h1 : cmpE x y ≤ 0) (h2 : cmpE y z ≤ 0) : cmpE x z ≤ 0 := cmpB_le_trans _ _ _ h1 h2
theorem cmpE_swo : SWO (fun x y : Ex => decide (cmpE x y < 0)) where
  irrefl x := by simp [cmpE_self]
  trans x y z h1 h2 := by
    simp only [decide_eq_true_eq] at h1 h2 ⊢
    have h3 := cmpE_trans x y z (by omega) (by omega)
    rcases Int.lt_or_eq_of_le h3 with h | h
    · exact h
    · exfalso
      have h4 := cmpE_trans z x y (by rw [cmpE_swap]; omega) (by omega)
      rw [cmpE_swap y z] at h4
      omega
  ntrans x y z h1 h2 := by
    simp only [decide_eq_false_iff_not, Int.not_lt] at h1 h2 ⊢
    have := cmpE_trans z y x (by rw [cmpE_swap]; omega) (by rw [cmpE_swap]; omega)
    rw [cmpE_swap] at this
    omega

theorem Made.base {w : World} {base base' : Nat} {v : Value} {xs : List Ex} (hb : base ≤ base') (h : Made w base' v xs) : Made w base v xs := by
  obtain ⟨css, h1, h2, h3⟩ := h
  refine ⟨css, h1, fun j hj cs hc => (h2 j hj cs hc).mono fun b hb' _ => ⟨⟨Nat.le_trans hb hb'.1, hb'.2⟩, rfl⟩, h3.1, ?_⟩
  rcases h3.2 with hn | ⟨g, cap, cur, rfl, hg, rest⟩
  · exact .inl hn
  · exact .inr ⟨g, cap, cur, rfl, Nat.le_trans hb hg, rest⟩

/-- Two expressions are the same. -/
def sameF (x y : Ex) : Bool := rightF x && (rightF y && decide (printF x = printF y))
/-- What sign.Conds gives back. -/
def CondsPost (w : World) (xs : List Ex) (r : Ending) (w' : World) : Prop :=
  Gro w w' ∧ ((∃ v ys, xs.all rightF = true ∧ r = .returned (.tuple #[v, .int .i64 0]) ∧ ys.Perm (xs.map normF) ∧ ys.Pairwise (fun x y => ¬ cmpE y x < 0) ∧ Made w' w.heap.size v (dedup sameF ys)) ∨
    (xs.all rightF = false ∧ r = .returned (.tuple #[.slice none 0 0, .int .i64 1])))
end Go.Proofs.YtgikebkgihcogaaDoor
