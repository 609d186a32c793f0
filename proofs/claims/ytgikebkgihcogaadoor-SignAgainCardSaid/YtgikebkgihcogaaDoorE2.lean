/- Plain: the order of conditions, how often one stands there, and which way round it is written, change nothing of a signature's text. -/
import Derived.Test.YtgikebkgihcogaaDoorE1
namespace Go.Proofs.YtgikebkgihcogaaDoor
open Go.RowKit Go.Sort
set_option maxHeartbeats 1000000

theorem less_asymm : ∀ a b : List UInt8, Op.bytesLess a b = true → Op.bytesLess b a = false
  | [], [], h => by simp [Op.bytesLess] at h
  | [], _ :: _, _ => by simp [Op.bytesLess]
  | _ :: _, [], h => by simp [Op.bytesLess] at h
  | x :: a, y :: b, h => by
    have ih := less_asymm a b
    rw [Bool.eq_false_iff]
    intro k
    simp only [Op.bytesLess, Bool.or_eq_true, decide_eq_true_eq, Bool.and_eq_true, beq_iff_eq, UInt8.lt_iff_toNat_lt] at h k
    rcases h with h | ⟨rfl, h⟩ <;> rcases k with k | ⟨e, k⟩
    · omega
    · subst e; omega
    · omega
    · rw [ih h] at k; cases k
theorem less_total : ∀ a b : List UInt8, Op.bytesLess a b = false → Op.bytesLess b a = false → a = b
  | [], [], _, _ => rfl
  | [], _ :: _, h, _ => by simp [Op.bytesLess] at h
  | _ :: _, [], _, h => by simp [Op.bytesLess] at h
  | x :: a, y :: b, h, k => by
    have ih := less_total a b
    simp only [Op.bytesLess] at h k
    by_cases h1 : x < y
    · simp [h1] at h
    · by_cases h2 : y < x
      · simp [h2] at k
      · have : x = y := by
          rw [UInt8.lt_iff_toNat_lt] at h1 h2
          exact UInt8.toNat_inj.1 (by omega)
        subst this
        simp [h1] at h k
        rw [ih h k]
theorem text_of_right {x : Ex} (hx : rightF x = true) : textF x = ⟨(printF x).toArray⟩ := by rw [textF, if_pos hx]
theorem text_print {x y : Ex} (hx : rightF x = true) (hy : rightF y = true) : textF x = textF y ↔ printF x = printF y := by
  rw [text_of_right hx, text_of_right hy]
  constructor
  · intro h
    have := congrArg ByteArray.data h
    exact Array.toList_inj.2 this |> fun h => by simpa using h
  · intro h; rw [h]
theorem text_of_less {x y : Ex} (h1 : lessT x y = false) (h2 : lessT y x = false) : textF x = textF y := by
  have := less_total _ _ h1 h2
  rw [ByteArray.toList_eq, ByteArray.toList_eq] at this
  have := Array.toList_inj.1 this
  cases hx : textF x; cases hy : textF y
  rw [hx, hy] at this
  exact congrArg ByteArray.mk this
theorem mk_text (op kind num : Int) (vs : ByteArray) (rel col n : Int) (s : ByteArray) (x y : Ex) (h1 : op ≠ 1) (h2 : op ≠ 2) (h3 : op ≠ 3) (hr : rightF (.mk op kind num vs rel col n s [x, y]) = true) (hx : rightF x = true) (hy : rightF y = true) (h : textF x = textF y) :
    textF (.mk op kind num vs rel col n s [y, x]) = textF (.mk op kind num vs rel col n s [x, y]) := by
  have ha : rightF (.mk op kind num vs rel col n s [y, x]) = true := by
    rw [← hr]; exact (alike_withL (.mk op kind num vs rel col n s [x, y]) op (.inl rfl)).right
  rw [text_print ha hr, printF_eq, printF_eq (.mk op kind num vs rel col n s [x, y])]
  have := (text_print hx hy).1 h
  show (if op = 1 then _ else _) = (if op = 1 then _ else _)
  rw [if_neg h1, if_neg h1]
  show (if op = 2 then _ else _) = (if op = 2 then _ else _)
  rw [if_neg h2, if_neg h2]
  show (if op = 3 then _ else _) = (if op = 3 then _ else _)
  rw [if_neg h3, if_neg h3]
  show 40 :: (Lib.itoa op ++ (printL [y, x] ++ [41])) = 40 :: (Lib.itoa op ++ (printL [x, y] ++ [41]))
  simp only [printL, this]
theorem right_sub {e : Ex} (h : rightF e = true) : ∀ x ∈ e.l, rightF x = true := by
  intro x hx
  rw [right_iff] at h ⊢
  obtain ⟨h1, h2, h3⟩ := h
  refine ⟨h1.sub x hx, ?_, ?_⟩
  · rw [preF_eq, List.length_cons] at h2
    have : ∀ l : List Ex, x ∈ l → (preF x).length ≤ (preL l).length := by
      intro l hl
      induction l with
      | nil => cases hl
      | cons y l ih =>
        rw [preL, List.length_append]
        rcases List.mem_cons.1 hl with rfl | h
        · omega
        · have := ih h; omega
    have := this _ hx; omega
  · rw [depF_eq] at h3
    have : ∀ l : List Ex, x ∈ l → depF x ≤ depL l := by
      intro l hl
      induction l with
      | nil => cases hl
      | cons y l ih =>
        rw [depL]
        rcases List.mem_cons.1 hl with rfl | h
        · omega
        · have := ih h; omega
    have := this _ hx; omega
theorem flip_norm_text (e : Ex) (hr : rightF e = true) : textF (normF (flipF e)) = textF (normF e) := by
  by_cases h : ¬ (e.l.length = 2 ∧ flips e.op = true)
  · rw [flipF, if_neg h]
  obtain ⟨hl, hf⟩ := Decidable.not_not.1 h
  have hsub := right_sub hr
  have hnr := norm_right e
  rw [hr] at hnr
  cases e with
  | mk op kind num vs rel col n s l =>
    match l, hl with
    | [a, b], _ =>
      have ha : rightF (normF a) = true := by rw [norm_right]; exact hsub a (by simp [Ex.l])
      have hb : rightF (normF b) = true := by rw [norm_right]; exact hsub b (by simp [Ex.l])
      simp only [Ex.op] at hf
      rw [normF_eq] at hnr
      rw [normF_eq, normF_eq]
      rcases flip_cases hf with rfl | rfl | rfl | rfl | rfl | rfl
      · simp [flipF, flips, flipOp, turnIt, turnsR, turnOk, turnOp, Ex.withL, nth, Ex.op, Ex.kind, Ex.num, Ex.vs, Ex.rel, Ex.col, Ex.n, Ex.s, Ex.l] at hnr ⊢
        by_cases h1 : lessT (normF a) (normF b) = true
        · have h2 : lessT (normF b) (normF a) = false := less_asymm _ _ h1
          simp [h1, h2]
        · by_cases h2 : lessT (normF b) (normF a) = true
          · simp [h1, h2]
          · simp only [Bool.not_eq_true] at h1 h2
            simp only [h1, h2, Bool.false_eq_true, if_false] at hnr ⊢
            exact mk_text _ _ _ _ _ _ _ _ _ _ (by decide) (by decide) (by decide) hnr ha hb (text_of_less h1 h2)
      · simp [flipF, flips, flipOp, turnIt, turnsR, turnOk, turnOp, Ex.withL, nth, Ex.op, Ex.kind, Ex.num, Ex.vs, Ex.rel, Ex.col, Ex.n, Ex.s, Ex.l] at hnr ⊢
        by_cases h1 : lessT (normF a) (normF b) = true
        · have h2 : lessT (normF b) (normF a) = false := less_asymm _ _ h1
          simp [h1, h2]
        · by_cases h2 : lessT (normF b) (normF a) = true
          · simp [h1, h2]
          · simp only [Bool.not_eq_true] at h1 h2
            simp only [h1, h2, Bool.false_eq_true, if_false] at hnr ⊢
            exact mk_text _ _ _ _ _ _ _ _ _ _ (by decide) (by decide) (by decide) hnr ha hb (text_of_less h1 h2)
      all_goals simp [flipF, flips, flipOp, turnIt, turnsR, turnOk, turnOp, Ex.withL, nth, Ex.op, Ex.kind, Ex.num, Ex.vs, Ex.rel, Ex.col, Ex.n, Ex.s, Ex.l]

/-! What sign.Conds gives back is told by the set of texts. -/
theorem pairwise_unique {α : Type} (lt : α → α → Prop) (irr : ∀ a, ¬ lt a a) (tr : ∀ a b c, lt a b → lt b c → lt a c) : ∀ l r : List α, l.Pairwise lt → r.Pairwise lt → (∀ x, x ∈ l ↔ x ∈ r) → l = r
  | [], [], _, _, _ => rfl
  | [], y :: r, _, _, h => by have := (h y).2 List.mem_cons_self; cases this
  | x :: l, [], _, _, h => by have := (h x).1 List.mem_cons_self; cases this
  | x :: l, y :: r, hl, hr, h => by
    rw [List.pairwise_cons] at hl hr
    have hxy : x = y := by
      rcases List.mem_cons.1 ((h x).1 List.mem_cons_self) with e | hx
      · exact e
      · rcases List.mem_cons.1 ((h y).2 List.mem_cons_self) with e | hy
        · exact e.symm
        · exact (irr _ (tr _ _ _ (hl.1 _ hy) (hr.1 _ hx))).elim
    subst hxy
    rw [pairwise_unique lt irr tr l r hl.2 hr.2 (fun z => ?_)]
    constructor
    · intro hz
      rcases List.mem_cons.1 ((h z).1 (List.mem_cons_of_mem _ hz)) with e | h'
      · subst e; exact (irr _ (hl.1 _ hz)).elim
      · exact h'
    · intro hz
      rcases List.mem_cons.1 ((h z).2 (List.mem_cons_of_mem _ hz)) with e | h'
      · subst e; exact (irr _ (hr.1 _ hz)).elim
      · exact h'
def ltT (a b : ByteArray) : Prop := Lib.compareBytes a.data.toList b.data.toList < 0
theorem ltT_irr (a : ByteArray) : ¬ ltT a a := by unfold ltT; rw [(cmpB_eq _ _).2 rfl]; omega
theorem ltT_trans (a b c : ByteArray) (h1 : ltT a b) (h2 : ltT b c) : ltT a c := by
  unfold ltT at *
  have h3 := cmpB_le_trans _ _ _ (Int.le_of_lt h1) (Int.le_of_lt h2)
  rcases Int.lt_or_eq_of_le h3 with h | h
  · exact h
  · have e := (cmpB_eq _ _).1 h
    rw [e] at h1
    rw [cmpB_swap] at h1
    omega
theorem ltT_or {x y : Ex} (h : ¬ cmpE y x < 0) (hne : textF x ≠ textF y) : ltT (textF x) (textF y) := by
  show cmpE x y < 0
  rw [cmpE_swap] at h
  rcases Int.lt_trichotomy (cmpE x y) 0 with h' | h' | h'
  · exact h'
  · exact (hne ((cmpE_zero x y).1 h')).elim
  · omega
theorem sameF_text {x y : Ex} (hx : rightF x = true) (hy : rightF y = true) : sameF x y = true ↔ textF x = textF y := by
  rw [text_print hx hy]; simp [sameF, hx, hy]
theorem dedupFrom_law : ∀ (xs : List Ex) (p : Ex), (∀ x ∈ p :: xs, rightF x = true) → (p :: xs).Pairwise (fun x y => ¬ cmpE y x < 0) →
    ((dedupFrom sameF p xs).map textF).Pairwise ltT ∧ (∀ y ∈ dedupFrom sameF p xs, ltT (textF p) (textF y)) ∧ (∀ z ∈ p :: xs, ∃ y ∈ p :: dedupFrom sameF p xs, textF y = textF z)
  | [], p, _, _ => by simp [dedupFrom]
  | x :: xs, p, hr, hp => by
    obtain ⟨h1, h2, h3⟩ := dedupFrom_law xs x (fun y hy => hr y (List.mem_cons_of_mem _ hy)) (List.pairwise_cons.1 hp).2
    have hpx := (List.pairwise_cons.1 hp).1 x List.mem_cons_self
    have hrx := hr x (by simp)
    have hrp := hr p (by simp)
    rw [dedupFrom]
    by_cases hs : sameF x p = true
    · rw [if_pos hs]
      have ht := (sameF_text hrx hrp).1 hs
      refine ⟨h1, fun y hy => by rw [← ht]; exact h2 y hy, fun z hz => ?_⟩
      rcases List.mem_cons.1 hz with rfl | hz
      · exact ⟨_, List.mem_cons_self, rfl⟩
      · obtain ⟨y, hy, he⟩ := h3 z hz
        rcases List.mem_cons.1 hy with rfl | hy
        · exact ⟨p, List.mem_cons_self, by rw [← ht, he]⟩
        · exact ⟨y, List.mem_cons_of_mem _ hy, he⟩
    · rw [if_neg hs]
      have hne : textF p ≠ textF x := fun e => hs ((sameF_text hrx hrp).2 e.symm)
      have hlt := ltT_or hpx hne
      refine ⟨?_, ?_, fun z hz => ?_⟩
      · rw [List.map_cons, List.pairwise_cons]
        refine ⟨fun t ht => ?_, h1⟩
        obtain ⟨y, hy, rfl⟩ := List.mem_map.1 ht
        exact h2 y hy
      · intro y hy
        rcases List.mem_cons.1 hy with rfl | hy
        · exact hlt
        · exact ltT_trans _ _ _ hlt (h2 y hy)
      · rcases List.mem_cons.1 hz with rfl | hz
        · exact ⟨_, List.mem_cons_self, rfl⟩
        · obtain ⟨y, hy, he⟩ := h3 z hz
          exact ⟨y, List.mem_cons_of_mem _ hy, he⟩
theorem dedup_law (zs : List Ex) (hr : ∀ x ∈ zs, rightF x = true) (hp : zs.Pairwise (fun x y => ¬ cmpE y x < 0)) :
    ((dedup sameF zs).map textF).Pairwise ltT ∧ ∀ t, t ∈ (dedup sameF zs).map textF ↔ ∃ z ∈ zs, textF z = t := by
  have hsub : ∀ y ∈ dedup sameF zs, y ∈ zs := fun y hy => (dedup_sub sameF zs).subset hy
  cases zs with
  | nil => simp [dedup]
  | cons p xs =>
    obtain ⟨h1, h2, h3⟩ := dedupFrom_law xs p hr hp
    refine ⟨?_, fun t => ⟨fun ht => ?_, fun ht => ?_⟩⟩
    · show ((p :: dedupFrom sameF p xs).map textF).Pairwise ltT
      rw [List.map_cons, List.pairwise_cons]
      refine ⟨fun t ht => ?_, h1⟩
      obtain ⟨y, hy, rfl⟩ := List.mem_map.1 ht
      exact h2 y hy
    · obtain ⟨y, hy, rfl⟩ := List.mem_map.1 ht
      exact ⟨y, hsub y hy, rfl⟩
    · obtain ⟨z, hz, rfl⟩ := ht
      obtain ⟨y, hy, he⟩ := h3 z hz
      exact List.mem_map.2 ⟨y, hy, he⟩
/-- The texts of a list made normal: strictly rising, those of its members made normal. -/
theorem conds_texts {xs ys : List Ex} (hr : ∀ x ∈ xs, rightF x = true) (h : CondsRel xs ys) : (ys.map textF).Pairwise ltT ∧ (∀ t, t ∈ ys.map textF ↔ ∃ x ∈ xs, textF (normF x) = t) ∧ ∀ y ∈ ys, ∃ x ∈ xs, y = normF x := by
  rcases h with ⟨_, zs, hp, hs, rfl⟩ | ⟨h, _⟩
  · have hz : ∀ z ∈ zs, ∃ x ∈ xs, z = normF x := fun z hz => by
      obtain ⟨x, hx, rfl⟩ := List.mem_map.1 (hp.mem_iff.1 hz); exact ⟨x, hx, rfl⟩
    have hzr : ∀ z ∈ zs, rightF z = true := fun z h => by obtain ⟨x, hx, rfl⟩ := hz z h; rw [norm_right]; exact hr x hx
    obtain ⟨h1, h2⟩ := dedup_law zs hzr hs
    refine ⟨h1, fun t => (h2 t).trans ⟨?_, ?_⟩, fun y hy => hz y ((dedup_sub sameF zs).subset hy)⟩
    · rintro ⟨z, hz', rfl⟩; obtain ⟨x, hx, rfl⟩ := hz z hz'; exact ⟨x, hx, rfl⟩
    · rintro ⟨x, hx, rfl⟩; exact ⟨_, hp.mem_iff.2 (List.mem_map.2 ⟨x, hx, rfl⟩), rfl⟩
  · rw [List.all_eq_false] at h
    obtain ⟨x, hx, h⟩ := h
    exact (h (hr x hx)).elim
theorem exText_map (ys : List Ex) : exText ys = (ys.map textF).flatMap (fun t => t.data.toList ++ [59]) := by rw [List.flatMap_map]; rfl
theorem conds_same {xs ys xs' ys' : List Ex} (h : CondsRel xs ys) (h' : CondsRel xs' ys') (h1 : ∀ x ∈ xs, ∃ y ∈ xs', rightF y = rightF x ∧ (rightF x = true → textF (normF y) = textF (normF x)))
    (h2 : ∀ y ∈ xs', ∃ x ∈ xs, rightF x = rightF y ∧ (rightF y = true → textF (normF x) = textF (normF y))) : exText ys = exText ys' := by
  by_cases hr : ∀ x ∈ xs, rightF x = true
  · have hr' : ∀ y ∈ xs', rightF y = true := fun y hy => by obtain ⟨x, hx, e, _⟩ := h2 y hy; rw [← e]; exact hr x hx
    obtain ⟨a1, a2, _⟩ := conds_texts hr h
    obtain ⟨b1, b2, _⟩ := conds_texts hr' h'
    rw [exText_map, exText_map, pairwise_unique ltT ltT_irr ltT_trans _ _ a1 b1 (fun t => ?_)]
    rw [a2, b2]
    constructor
    · rintro ⟨x, hx, rfl⟩
      obtain ⟨y, hy, _, e⟩ := h1 x hx
      exact ⟨y, hy, e (hr x hx)⟩
    · rintro ⟨y, hy, rfl⟩
      obtain ⟨x, hx, _, e⟩ := h2 y hy
      exact ⟨x, hx, e (hr' y hy)⟩
  · have hr' : ¬ ∀ y ∈ xs', rightF y = true := fun k => hr fun x hx => by obtain ⟨y, hy, e, _⟩ := h1 x hx; rw [← e]; exact k y hy
    have e1 : ys = [] := by
      rcases h with ⟨h, _⟩ | ⟨_, h⟩
      · exact (hr (by simpa using h)).elim
      · exact h
    have e2 : ys' = [] := by
      rcases h' with ⟨h, _⟩ | ⟨_, h⟩
      · exact (hr' (by simpa using h)).elim
      · exact h
    rw [e1, e2]
theorem ofExprs_mem {core set : Int} {cs : List Ex} {x : Ex} : x ∈ ofExprs core set cs ↔ ∃ c ∈ cs, withinB set c = true ∧ x = rankF (ranksI set core.toNat) c := by
  unfold ofExprs
  constructor
  · intro h
    obtain ⟨i, hi, rfl⟩ := List.mem_map.1 h
    obtain ⟨j, hj, rfl, hw⟩ := withinI_mem set cs _ i hi
    rw [Int.toNat_natCast]
    refine ⟨nth cs j, ?_, hw, rfl⟩
    rw [nth_get cs j hj]; exact List.getElem_mem hj
  · rintro ⟨c, hc, hw, rfl⟩
    obtain ⟨j, hj, rfl⟩ := List.getElem_of_mem hc
    refine List.mem_map.2 ⟨(j : Int), ?_, by rw [Int.toNat_natCast, nth_get cs j hj]⟩
    simp only [withinI, List.mem_map, List.mem_filter, List.mem_range]
    exact ⟨j, ⟨hj, by rw [nth_get cs j hj]; exact hw⟩, rfl⟩
/-- Two lists of the same conditions, some the other way round. -/
def SameWays (cs ds : List Ex) : Prop := (∀ c ∈ cs, ∃ d ∈ ds, d = c ∨ d = flipF c) ∧ ∀ d ∈ ds, ∃ c ∈ cs, d = c ∨ d = flipF c
theorem ways_all {cs ds : List Ex} (h : SameWays cs ds) : ds.all rightF = cs.all rightF := by
  rw [Bool.eq_iff_iff, List.all_eq_true, List.all_eq_true]
  constructor
  · intro k c hc
    obtain ⟨d, hd, rfl | rfl⟩ := h.1 c hc
    · exact k _ hd
    · rw [← flip_right]; exact k _ hd
  · intro k d hd
    obtain ⟨c, hc, rfl | rfl⟩ := h.2 d hd
    · exact k _ hc
    · rw [flip_right]; exact k _ hc
theorem ways_text {cs ds ys ys' : List Ex} {core set : Int} (h : SameWays cs ds) (h1 : CondsRel (ofExprs core set cs) ys) (h2 : CondsRel (ofExprs core set ds) ys') : exText ys = exText ys' := by
  refine conds_same h1 h2 (fun x hx => ?_) (fun y hy => ?_)
  · obtain ⟨c, hc, hw, rfl⟩ := ofExprs_mem.1 hx
    obtain ⟨d, hd, e⟩ := h.1 c hc
    rcases e with rfl | rfl
    · exact ⟨_, ofExprs_mem.2 ⟨_, hd, hw, rfl⟩, rfl, fun _ => rfl⟩
    · exact ⟨_, ofExprs_mem.2 ⟨_, hd, by rw [flip_within]; exact hw, rfl⟩, by rw [rank_flip, flip_right], fun hr => by rw [rank_flip]; exact flip_norm_text _ hr⟩
  · obtain ⟨d, hd, hw, rfl⟩ := ofExprs_mem.1 hy
    obtain ⟨c, hc, e⟩ := h.2 d hd
    rcases e with rfl | rfl
    · exact ⟨_, ofExprs_mem.2 ⟨_, hc, hw, rfl⟩, rfl, fun _ => rfl⟩
    · refine ⟨_, ofExprs_mem.2 ⟨_, hc, by rw [← flip_within]; exact hw, rfl⟩, by rw [rank_flip, flip_right], fun hr => ?_⟩
      rw [rank_flip, flip_right] at hr
      rw [rank_flip]; exact (flip_norm_text _ hr).symm

/-! The list that SignWays makes. -/
def wayB (which : Int) (i : Nat) : Bool := bits .and .i64 (which / 2 ^ (i % 8)) 1 == 1
def wayE (which : Int) (cs : List Ex) (i : Nat) : Ex := if wayB which i = true then flipF (nth cs i) else nth cs i
def wayL (which : Int) (cs : List Ex) (i : Nat) : List Ex := if i % 3 = 0 then [wayE which cs i, wayE which cs i] else [wayE which cs i]
/-- What has been made of the conditions from the last on down to k. -/
def waysTo (which : Int) (cs : List Ex) : Nat → List Ex
  | 0 => []
  | k + 1 => waysTo which cs k ++ wayL which cs (cs.length - 1 - k)
theorem mem_wayL {which : Int} {cs : List Ex} {i : Nat} {d : Ex} : d ∈ wayL which cs i ↔ d = wayE which cs i := by
  unfold wayL; split <;> simp
theorem mem_waysTo {which : Int} {cs : List Ex} {d : Ex} : ∀ {k : Nat}, d ∈ waysTo which cs k ↔ ∃ j, j < k ∧ d = wayE which cs (cs.length - 1 - j)
  | 0 => by simp [waysTo]
  | k + 1 => by
    rw [waysTo, List.mem_append, mem_waysTo, mem_wayL]
    constructor
    · rintro (⟨j, hj, e⟩ | e)
      · exact ⟨j, by omega, e⟩
      · exact ⟨k, by omega, e⟩
    · rintro ⟨j, hj, e⟩
      by_cases h : j = k
      · subst h; exact .inr e
      · exact .inl ⟨j, by omega, e⟩
theorem waysTo_len (which : Int) (cs : List Ex) : ∀ k, (waysTo which cs k).length ≤ 2 * k
  | 0 => by simp [waysTo]
  | k + 1 => by
    have := waysTo_len which cs k
    rw [waysTo, List.length_append, wayL]
    split <;> simp <;> omega
theorem wayE_or (which : Int) (cs : List Ex) (i : Nat) : wayE which cs i = nth cs i ∨ wayE which cs i = flipF (nth cs i) := by
  unfold wayE; split
  · exact .inr rfl
  · exact .inl rfl
theorem ways_same (which : Int) (cs : List Ex) : SameWays cs (waysTo which cs cs.length) := by
  constructor
  · intro c hc
    obtain ⟨i, hi, rfl⟩ := List.getElem_of_mem hc
    refine ⟨wayE which cs i, mem_waysTo.2 ⟨cs.length - 1 - i, by omega, ?_⟩, ?_⟩
    · rw [show cs.length - 1 - (cs.length - 1 - i) = i by omega]
    · have := wayE_or which cs i; rwa [nth_get cs i hi] at this
  · intro d hd
    obtain ⟨j, hj, rfl⟩ := mem_waysTo.1 hd
    have hi : cs.length - 1 - j < cs.length := by omega
    refine ⟨cs[cs.length - 1 - j], List.getElem_mem hi, ?_⟩
    have := wayE_or which cs (cs.length - 1 - j); rwa [nth_get cs _ hi] at this
end Go.Proofs.YtgikebkgihcogaaDoor
