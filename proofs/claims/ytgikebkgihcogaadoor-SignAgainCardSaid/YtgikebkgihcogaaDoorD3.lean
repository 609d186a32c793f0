/- SignRanks: what is plain of it. -/
import Derived.Test.YtgikebkgihcogaaDoorD2
namespace Go.Proofs.YtgikebkgihcogaaDoor
open Go.RowKit Go.Sort
set_option maxHeartbeats 1000000

theorem six (a : Int) (h0 : 0 ≤ a) (h1 : a < 6) : a = 0 ∨ a = 1 ∨ a = 2 ∨ a = 3 ∨ a = 4 ∨ a = 5 := by omega
def ranksE (a c : Int) : Ex := opE (9 + a) [refE 0 c, refE 1 2]
def ranksF (a c : Int) : Ex := opE (9 + a) [refE 1 c, refE 3 2]
theorem ranks_e (a c : Int) (h0 : 0 ≤ a) (h1 : a < 6) (h2 : 0 ≤ c) (h3 : c < 6) : rightF (ranksE a c) = true ∧ rightF (ranksF a c) = true ∧ ofExprs 2 3 [ranksE a c] = [ranksE a c] ∧ ofExprs 4 10 [ranksF a c] = [ranksE a c] := by
  rcases six a h0 h1 with rfl | rfl | rfl | rfl | rfl | rfl <;> rcases six c h2 h3 with rfl | rfl | rfl | rfl | rfl | rfl <;> exact ⟨by kernel_rfl, by kernel_rfl, by kernel_rfl, by kernel_rfl⟩
theorem CondsRel.one {x : Ex} (hx : rightF x = true) {ys : List Ex} (h : CondsRel [x] ys) : ys = [normF x] := by
  rcases h with ⟨_, zs, hp, _, rfl⟩ | ⟨h, _⟩
  · have : zs = [normF x] := by simpa using hp
    subst this; rfl
  · simp [hx] at h
theorem ranks_tab (one two other : Int) : tabText 3 [one, two] (2 : Int).toNat = tabText 10 [other, one, other, two] (4 : Int).toNat := by
  have h1 : (List.range 2).filter (bitB 3) = [0, 1] := by kernel_rfl
  have h2 : (List.range 4).filter (bitB 10) = [1, 3] := by kernel_rfl
  show ((List.range 2).filter (bitB 3)).flatMap _ = ((List.range 4).filter (bitB 10)).flatMap _
  rw [h1, h2]
  simp
theorem exText_one (y : Ex) : exText [y] ≠ exText [] := by
  intro h
  have := congrArg List.length h
  simp [exText] at this
theorem ranks_bad (one two other : Int) : badOf [one, two] 2 3 = false ∧ badOf [other, one, other, two] 4 10 = false := ⟨by simp [badOf], by simp [badOf]⟩
end Go.Proofs.YtgikebkgihcogaaDoor
