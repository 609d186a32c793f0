/- sign.Conds once more, its two endings told alike; what a text may be long. -/
import Derived.Test.YtgikebkgihcogaaDoorB2
namespace Go.Proofs.YtgikebkgihcogaaDoor
open Go.RowKit Go.Sort
set_option maxHeartbeats 1000000

/-- What sign.Conds gives back, its error left out. -/
def CondsRel (xs ys : List Ex) : Prop := (xs.all rightF = true ∧ ∃ zs, zs.Perm (xs.map normF) ∧ zs.Pairwise (fun x y => ¬ cmpE y x < 0) ∧ ys = dedup sameF zs) ∨ (xs.all rightF = false ∧ ys = [])
theorem LRep.none (w : World) (ok : Nat → Prop) : LRep w ok none [] (fun _ => []) := ⟨fun h => by simp at h, fun j h => by simp at h⟩
theorem sign_CondsR (w : World) (ok : Nat → Prop) (A : Option Addr) (cap : Nat) (xs : List Ex) (css : Nat → List Value) (hL : LRep w ok A xs css) (ht : Tab w) (hn : xs.length ≤ 1353245080300) :
    Calls Tryd.prog 15 #[.slice A xs.length cap] w fun r w' => ∃ A' cap' css' zs er, r = .returned (.tuple #[.slice A' zs.length cap', .int .i64 er]) ∧ CondsRel xs zs ∧ zs.length ≤ xs.length ∧
      LRep w' (fun b => w.heap.size ≤ b ∧ b < w'.heap.size) A' zs css' ∧ Gro w w' := by
  refine (sign_Conds w ok A cap xs css hL ht hn).mono ?_
  rintro r w' ⟨hg, ⟨v, ys, hall, rfl, hp, hpw, hM⟩ | ⟨hall, rfl⟩⟩
  · obtain ⟨A', cap', css', rfl, _, _, hL'⟩ := hM.lrep
    refine ⟨A', cap', css', _, 0, rfl, .inl ⟨hall, ys, hp, hpw, rfl⟩, ?_, hL', hg⟩
    have h1 := dedup_len sameF ys
    have h2 := hp.length_eq
    rw [List.length_map] at h2
    omega
  · exact ⟨none, 0, _, [], 1, rfl, .inr ⟨hall, rfl⟩, by simp, LRep.none _ _, hg⟩
theorem textF_le {w : World} {ok : Nat → Prop} {e : Ex} {cs : List Value} (h : Rep w ok e cs) : (textF e).size ≤ 20000 := by
  unfold textF
  split
  · rename_i hr
    have := right_print_le h hr
    show (printF e).toArray.size ≤ 20000
    simpa using this
  · exact Nat.zero_le _
def exText (ys : List Ex) : List UInt8 := ys.flatMap (fun y => (textF y).data.toList ++ [59])
theorem exText_snoc (ys : List Ex) (y : Ex) : exText (ys ++ [y]) = exText ys ++ ((textF y).data.toList ++ [59]) := by simp [exText]
theorem exText_le {w : World} {ok : Nat → Prop} {A : Option Addr} {xs : List Ex} {css : Nat → List Value} (h : LRep w ok A xs css) (k : Nat) (hk : k ≤ xs.length) : (exText (xs.take k)).length ≤ 20001 * k := by
  induction k with
  | zero => simp [exText]
  | succ k ih =>
    have h1 := ih (by omega)
    have h2 := textF_le (h.hl k (by omega))
    rw [List.take_succ_eq_append_getElem (by omega), exText_snoc]
    have h3 : ((textF xs[k]).data.toList).length = (textF xs[k]).size := by simp
    simp only [List.length_append, List.length_cons, List.length_nil, h3]
    omega
theorem cat_semi (s : ByteArray) : Lib.strCells (s ++ (⟨#[59]⟩ : ByteArray)) = Lib.byteCells (s.data.toList ++ [59]) := by
  rw [strCells_eq]; simp
end Go.Proofs.YtgikebkgihcogaaDoor
