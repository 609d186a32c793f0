/- Plain: an expression that refers to tables of a set alone. -/
import Derived.Test.YtgikebkgihcogaaDoorC8
namespace Go.Proofs.YtgikebkgihcogaaDoor
open Go.RowKit Go.Sort
set_option maxHeartbeats 1000000

theorem andNot_bit (t s r : Nat) (ht : t < 2 ^ 16) (hb : t.testBit r = true) (h : bits .andNot .i64 (t : Int) (s : Int) = 0) : (s % 2 ^ 64).testBit r = true := by
  have h1 : bits .andNot .i64 (t : Int) (s : Int) = IntKind.i64.wrap (((BitVec.ofInt 64 (t : Int)) &&& ~~~(BitVec.ofInt 64 (s : Int))).toNat : Int) := rfl
  have h2 : ((BitVec.ofInt 64 (t : Int)) &&& ~~~(BitVec.ofInt 64 (s : Int))).toNat ≤ t := by
    rw [BitVec.toNat_and]
    refine Nat.le_trans Nat.and_le_left ?_
    simp only [BitVec.ofInt_natCast, BitVec.toNat_ofNat]
    exact Nat.mod_le _ _
  have h3 : ((BitVec.ofInt 64 (t : Int)) &&& ~~~(BitVec.ofInt 64 (s : Int))).toNat = 0 := by
    rw [h1, IntKind.wrap_i64] at h
    omega
  have hr : r < 16 := by
    rcases Nat.lt_or_ge r 16 with h' | h'
    · exact h'
    · rw [Nat.testBit_lt_two_pow (Nat.lt_of_lt_of_le ht (Nat.pow_le_pow_right (by decide) h'))] at hb; cases hb
  have h4 : (((BitVec.ofInt 64 (t : Int)) &&& ~~~(BitVec.ofInt 64 (s : Int))).toNat).testBit r = false := by rw [h3]; simp
  rw [BitVec.testBit_toNat, BitVec.getLsbD_and, BitVec.getLsbD_not] at h4
  simp only [BitVec.ofInt_natCast, BitVec.getLsbD_ofNat] at h4
  rw [Nat.testBit_mod_two_pow]
  have hr64 : r < 64 := by omega
  simp [hb, hr64] at h4 ⊢
  exact h4

theorem tabL_bit (l : List Ex) (y : Ex) (hy : y ∈ l) (ho : y.op = 2) : (tabL l).testBit y.rel.toNat = true := by
  have keep : ∀ (l : List Ex) (m r : Nat), m.testBit r = true → (l.foldl (fun m x => if x.op = 2 then m ||| 2 ^ x.rel.toNat else m) m).testBit r = true := by
    intro l
    induction l with
    | nil => intro m r h; exact h
    | cons x l ih =>
      intro m r h
      refine ih _ r ?_
      dsimp only
      split
      · rw [Nat.testBit_or, h]; rfl
      · exact h
  have : ∀ (l : List Ex) (m : Nat), y ∈ l → (l.foldl (fun m x => if x.op = 2 then m ||| 2 ^ x.rel.toNat else m) m).testBit y.rel.toNat = true := by
    intro l
    induction l with
    | nil => intro m h; cases h
    | cons x l ih =>
      intro m h
      rcases List.mem_cons.1 h with rfl | h
      · refine keep l _ _ ?_
        dsimp only
        rw [if_pos ho, Nat.testBit_or, Nat.testBit_two_pow_self]
        simp
      · exact ih _ h
  exact this l 0 hy

/-- Within a set of c tables each table referred to is one of them. -/
theorem withinB_ref (set : Int) (c : Nat) (hc : c ≤ 4) (h0 : 0 ≤ set) (hlt : set < 2 ^ c) (e : Ex) (hr : rightF e = true) (hw : withinB set e = true) : RefOk c e := by
  obtain ⟨s, rfl⟩ : ∃ s : Nat, set = s := ⟨set.toNat, by omega⟩
  have hs : s < 2 ^ c := by exact_mod_cast hlt
  have h16 : (2 : Nat) ^ c ≤ 2 ^ 4 := Nat.pow_le_pow_right (by decide) hc
  simp only [withinB, Bool.and_eq_true, decide_eq_true_eq] at hw
  have ht : tablesF e = tabL (preF e) := by unfold tablesF; rw [if_pos hr]
  rw [ht] at hw
  intro y hy ho
  have hown := right_own hr y hy
  have hrr := own_ref hown ho
  have hb := andNot_bit _ s y.rel.toNat (tabL_lt _ (right_own hr)) (tabL_bit _ y hy ho) hw.2.2
  rw [Nat.mod_eq_of_lt (by omega)] at hb
  refine ⟨hrr.1, ?_⟩
  rcases Nat.lt_or_ge y.rel.toNat c with h' | h'
  · omega
  · rw [Nat.testBit_lt_two_pow (Nat.lt_of_lt_of_le hs (Nat.pow_le_pow_right (by decide) h'))] at hb; cases hb
theorem withinI_mem (set : Int) (xs : List Ex) (k : Nat) (i : Int) (h : i ∈ withinI set xs k) : ∃ j : Nat, j < k ∧ i = j ∧ withinB set (nth xs j) = true := by
  simp only [withinI, List.mem_map, List.mem_filter, List.mem_range] at h
  obtain ⟨j, ⟨h1, h2⟩, rfl⟩ := h
  exact ⟨j, h1, rfl, h2⟩
theorem nth_get (xs : List Ex) (j : Nat) (h : j < xs.length) : nth xs j = xs[j] := by rw [nth, List.getD_eq_getElem?_getD, List.getElem?_eq_getElem h]; rfl
theorem set_lt (set : Int) (c : Nat) (hc : c ≤ 4) (h0 : 1 ≤ set) (h : set / 2 ^ ((c : Int)).toNat = 0) : set < 2 ^ c := by
  rw [Int.toNat_natCast] at h
  match c, hc, h with
  | 0, _, h => simp at h; omega
  | 1, _, h => omega
  | 2, _, h => omega
  | 3, _, h => omega
  | 4, _, h => omega
end Go.Proofs.YtgikebkgihcogaaDoor
