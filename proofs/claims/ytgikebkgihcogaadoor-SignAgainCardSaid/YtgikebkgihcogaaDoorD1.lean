/- The chapter's examples: what is plain of them. -/
import Derived.Test.YtgikebkgihcogaaDoorC9
namespace Go.Proofs.YtgikebkgihcogaaDoor
open Go.RowKit Go.Sort
set_option maxHeartbeats 1000000

def refE (rel col : Int) : Ex := .mk 2 0 0 ⟨#[]⟩ rel col 0 ⟨#[]⟩ []
def opE (op : Int) (l : List Ex) : Ex := .mk op 0 0 ⟨#[]⟩ 0 0 0 ⟨#[]⟩ l
def fiveE : Ex := .mk 1 1 5 ⟨#[]⟩ 0 0 0 ⟨#[]⟩ []
theorem leaf_rep (w : World) (ok : Nat → Prop) (op kind num : Int) (vs : ByteArray) (rel col n : Int) (s : ByteArray) (hf : (Ex.mk op kind num vs rel col n s []).Fits) : Rep w ok (.mk op kind num vs rel col n s []) (cells (.mk op kind num vs rel col n s []) none 0) :=
  Rep.of _ hf (A := none) (cap := 0) (css := fun _ => []) (Nat.le_refl _) (by unfold maxLen; omega) (LRep.none w ok)
theorem one_rep {w : World} {ok : Nat → Prop} {g : Nat} {x : Ex} {cs : List Value} (hb : Blk w g cs.toArray 39) (hx : Rep w ok x cs) (hg : ok g) : LRep w ok (some ⟨g, 0, none⟩) [x] (fun _ => cs) := by
  refine ⟨fun _ => ⟨g, 0, rfl, hg, fun j hj i v hv => ?_⟩, fun j hj => ?_⟩
  · have : j = 0 := by simp at hj; omega
    subst this
    rw [hb.cell]; simpa using hv
  · have : j = 0 := by simp at hj; omega
    subst this
    exact hx
theorem two_rep {w : World} {ok : Nat → Prop} {g : Nat} {x y : Ex} {cs ds : List Value} (hb : Blk w g (cs ++ ds).toArray 39) (hx : Rep w ok x cs) (hy : Rep w ok y ds) (hg : ok g) : LRep w ok (some ⟨g, 0, none⟩) [x, y] (fun j => if j = 0 then cs else ds) := by
  have hl := hx.length
  refine ⟨fun _ => ⟨g, 0, rfl, hg, fun j hj i v hv => ?_⟩, fun j hj => ?_⟩
  · have : j = 0 ∨ j = 1 := by simp at hj; omega
    rw [hb.cell]
    rcases this with rfl | rfl
    · simp only [if_true] at hv
      have hi := (List.getElem?_eq_some_iff.1 hv).1
      simp only [List.getElem?_toArray]
      rw [List.getElem?_append_left (by omega)]
      simpa using hv
    · simp only [Nat.one_ne_zero, if_false] at hv
      simp only [List.getElem?_toArray]
      rw [List.getElem?_append_right (by omega), hl]
      simpa using hv
  · have : j = 0 ∨ j = 1 := by simp at hj; omega
    rcases this with rfl | rfl
    · exact hx
    · exact hy
theorem ex1_right : rightF (opE 13 [refE 1 0, fiveE]) = true := by kernel_rfl
theorem ex2_right : rightF (opE 9 [refE 1 0, refE 0 0]) = true := by kernel_rfl
theorem ex1_norm : normF (opE 13 [refE 1 0, fiveE]) = opE 11 [fiveE, refE 1 0] := by kernel_rfl
theorem ex2_norm : normF (opE 9 [refE 1 0, refE 0 0]) = opE 9 [refE 0 0, refE 1 0] := by kernel_rfl
theorem ex3_text : (83 :: (tabText 1 [3] 1 ++ exText [])) = [83, 51, 32] := by kernel_rfl
theorem CondsRel.nil {ys : List Ex} (h : CondsRel [] ys) : ys = [] := by
  rcases h with ⟨_, zs, hp, _, rfl⟩ | ⟨_, rfl⟩
  · have : zs = [] := by simpa using hp
    subst this; rfl
  · rfl
end Go.Proofs.YtgikebkgihcogaaDoor
