/- SignRanks: sign.Of at a block of one condition. -/
import Derived.Test.YtgikebkgihcogaaDoorD3
namespace Go.Proofs.YtgikebkgihcogaaDoor
open Go.RowKit Go.Sort
set_option maxHeartbeats 1000000

/-- The rest of a block made of its tables, its core and its conditions. -/
def krNil : BRest := ⟨.slice none 0 0, .slice none 0 0, .slice none 0 0, .slice none 0 0, .bool false, .slice none 0 0, .slice none 0 0, .bool false⟩
theorem ints_rep {w : World} {g : Nat} (is : List Int) (hb : Blk w g (is.map (Value.int .i64)).toArray 3) : IRep w (fun _ => True) (some ⟨g, 0, none⟩) is := fun _ => ⟨g, 0, rfl, trivial, fun j x hx => by
  rw [Nat.zero_add, hb.cell, List.getElem?_toArray, List.getElem?_map, hx]; rfl⟩
theorem fits_op (a : Int) (l : List Ex) (h0 : 0 ≤ a) (h1 : a < 6) : (opE (9 + a) l).Fits :=
  ⟨by show I64 (9 + a); unfold I64; omega, by show I64 0; unfold I64; omega, by show I64 0; unfold I64; omega, by show 0 ≤ maxLen; omega, by show I64 0; unfold I64; omega, by show I64 0; unfold I64; omega, by show I64 0; unfold I64; omega, by show 0 ≤ maxLen; omega⟩
/-- A condition of two references, laid. -/
theorem rep_two {w : World} {g : Nat} (a r1 c1 r2 c2 : Int) (h0 : 0 ≤ a) (h1 : a < 6) (i1 : I64 r1) (i2 : I64 c1) (i3 : I64 r2) (i4 : I64 c2)
    (hb : Blk w g (cells (refE r1 c1) none 0 ++ cells (refE r2 c2) none 0).toArray 39) : Rep w (fun _ => True) (opE (9 + a) [refE r1 c1, refE r2 c2]) (cells (opE (9 + a) [refE r1 c1, refE r2 c2]) (some ⟨g, 0, none⟩) 2) :=
  Rep.of (opE (9 + a) [refE r1 c1, refE r2 c2]) (fits_op a _ h0 h1) (Nat.le_refl 2) (by unfold maxLen; omega) (two_rep hb (rep_ref _ _ r1 c1 i1 i2) (rep_ref _ _ r2 c2 i3 i4) trivial)

/-- sign.Of at a made block with one condition that is right, and whose ranked form is x. -/
theorem of_one (w : World) (gt gc : Nat) (tabs : List Int) (n : Nat) (hn : tabs.length = n) (core set : Int) (e x : Ex) (cs : List Value) (ht : Tab w) (hi : ∀ y ∈ tabs, I64 y) (hc : I64 core) (hs : I64 set)
    (hT : Blk w gt (tabs.map (Value.int .i64)).toArray 3) (hC : Blk w gc cs.toArray 39) (hR : Rep w (fun _ => True) e cs) (hr : rightF e = true) (hb : badOf tabs core set = false) (hx : ofExprs core set [e] = [x]) (hxr : rightF x = true) :
    Calls Tryd.prog 11 #[.agg (bcells (.slice (some ⟨gt, 0, none⟩) n n) core (.slice (some ⟨gc, 0, none⟩) 1 1) krNil), .int .i64 set] w fun r w' =>
      r = .returned (.tuple #[.string ⟨(83 :: (tabText set tabs core.toNat ++ exText [normF x])).toArray⟩, .int .i64 0]) ∧ Gro w w' := by
  subst hn
  refine (sign_Of w (fun _ => True) (some ⟨gt, 0, none⟩) (some ⟨gc, 0, none⟩) tabs.length 1 tabs core set [e] _ krNil (ints_rep tabs hT) (one_rep hC hR trivial) ht (by simp) hi hc hs).mono ?_
  rintro r w' ⟨hg, ⟨h | h, _⟩ | ⟨_, _, ys, hrel, rfl⟩⟩
  · rw [hb] at h; cases h
  · simp [hr] at h
  · rw [hx] at hrel
    rw [hrel.one hxr]
    exact ⟨rfl, hg⟩
/-- .. with none. -/
theorem of_none (w : World) (gt : Nat) (tabs : List Int) (n : Nat) (hn : tabs.length = n) (core set : Int) (ht : Tab w) (hi : ∀ y ∈ tabs, I64 y) (hc : I64 core) (hs : I64 set)
    (hT : Blk w gt (tabs.map (Value.int .i64)).toArray 3) (hb : badOf tabs core set = false) :
    Calls Tryd.prog 11 #[.agg (bcells (.slice (some ⟨gt, 0, none⟩) n n) core (.slice none 0 0) krNil), .int .i64 set] w fun r w' =>
      r = .returned (.tuple #[.string ⟨(83 :: (tabText set tabs core.toNat ++ exText [])).toArray⟩, .int .i64 0]) ∧ Gro w w' := by
  subst hn
  refine (sign_Of w (fun _ => True) (some ⟨gt, 0, none⟩) none tabs.length 0 tabs core set [] (fun _ => []) krNil (ints_rep tabs hT) (LRep.none _ _) ht (by simp) hi hc hs).mono ?_
  rintro r w' ⟨hg, ⟨h | h, _⟩ | ⟨_, _, ys, hrel, rfl⟩⟩
  · rw [hb] at h; cases h
  · cases h
  · have hrel' : CondsRel [] ys := hrel
    rw [hrel'.nil]
    exact ⟨rfl, hg⟩
end Go.Proofs.YtgikebkgihcogaaDoor
