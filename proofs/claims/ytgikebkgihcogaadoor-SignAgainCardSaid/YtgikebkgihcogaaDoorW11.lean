/- A made list laid in another order: slices.Reverse, slices.SortFunc. -/
import Derived.Test.YtgikebkgihcogaaDoorW10
namespace Go.Proofs.YtgikebkgihcogaaDoor
open Go.RowKit Go.Sort
set_option maxHeartbeats 1000000

/-- An expression with its cells in a world. -/
abbrev EP (w : World) (ok : Nat → Prop) : Type := { p : Ex × List Value // Rep w ok p.1 p.2 }
def encE {w : World} {ok : Nat → Prop} (p : EP w ok) : List Value := p.1.2
def exE {w : World} {ok : Nat → Prop} (p : EP w ok) : Ex := p.1.1

theorem Made.ps {w : World} {base : Nat} {v : Value} {xs : List Ex} (h : Made w base v xs) : ∃ ps : List (EP w (OkM w base v)), ps.map exE = xs ∧ w.ownsRow base 39 9 v ps.length (ps.map encE).flatten := by
  obtain ⟨css, h1, h2, h3⟩ := h
  have : ∀ (xs : List Ex) (css : List (List Value)), css.length = xs.length → (∀ j (h : j < xs.length) cs, css[j]? = some cs → Rep w (OkM w base v) xs[j] cs) → ∃ ps : List (EP w (OkM w base v)), ps.map exE = xs ∧ ps.map encE = css := by
    intro xs
    induction xs with
    | nil => intro css h1 _; exact ⟨[], rfl, by simpa using (List.eq_nil_of_length_eq_zero h1).symm⟩
    | cons x xs ih =>
      intro css h1 h2
      cases css with
      | nil => simp at h1
      | cons c css =>
        obtain ⟨ps, h3, h4⟩ := ih css (by simpa using h1) (fun j hj cs hcs => by have := h2 (j + 1) (by simp; omega) cs (by simpa using hcs); simpa using this)
        exact ⟨⟨(x, c), by have := h2 0 (by simp) c (by simp); simpa using this⟩ :: ps, by simp [exE] at h3 ⊢; exact h3, by simp [encE] at h4 ⊢; exact h4⟩
  obtain ⟨ps, h4, h5⟩ := this xs css h1 h2
  refine ⟨ps, h4, ?_⟩
  rw [h5, show ps.length = xs.length from by rw [← h4]; simp]
  exact h3
theorem Made.ofPs {w w' : World} {base : Nat} {v : Value} (ps : List (EP w (OkM w base v))) (hx : Ext (fun k => v.ownBlock = some k) w w') (hown : w'.ownsRow base 39 9 v ps.length (ps.map encE).flatten) : Made w' base v (ps.map exE) := by
  refine ⟨ps.map encE, by simp, fun j hj cs hcs => ?_, by simpa using hown⟩
  simp only [List.length_map] at hj
  rw [List.getElem?_map, List.getElem?_eq_getElem hj] at hcs
  simp only [Option.map_some, Option.some.injEq] at hcs
  subst hcs
  simp only [List.getElem_map]
  exact ps[j].2.mono fun b hb hlt => ⟨⟨hb.1, Nat.lt_of_lt_of_le hlt hx.size, hb.2.2⟩, hx.block b hlt hb.2.2⟩

theorem flatK_list {α : Type} [Inhabited α] (enc : α → List Value) (hk : ∀ x, (enc x).length = 9) (d : Array α) : (flatK enc 9 d).toList = (d.toList.map enc).flatten := by
  apply List.ext_getElem?
  intro t
  have hlen : ∀ cs ∈ d.toList.map enc, cs.length = 9 := fun cs h => by obtain ⟨x, _, rfl⟩ := List.mem_map.1 h; exact hk x
  have ht := flatten_get (d.toList.map enc) hlen (t / 9) (t % 9) (Nat.mod_lt _ (by decide))
  rw [show t / 9 * 9 + t % 9 = t from by omega] at ht
  rw [ht]
  rcases Nat.lt_or_ge t (d.size * 9) with h | h
  · have h1 : t / 9 < d.size := by omega
    have e1 : (flatK enc 9 d).toList[t]? = some ((flatK enc 9 d)[t]!) := by
      rw [Array.getElem?_toList, Array.getElem?_eq_getElem (by simpa using h), getElem!_pos _ t (by simpa using h)]
    rw [e1, get_flatK enc 9 d t h, List.getElem?_map, Array.getElem?_toList, Array.getElem?_eq_getElem h1]
    simp only [Option.map_some, Option.bind_some]
    rw [getElem!_pos d _ h1, List.getElem?_eq_getElem (by rw [hk]; exact Nat.mod_lt _ (by decide)), getElem!_pos]
  · have h1 : d.size ≤ t / 9 := by omega
    rw [List.getElem?_eq_none (by simp; omega), List.getElem?_eq_none (by simp; omega)]
    rfl

theorem relay {w : World} {base g n cap : Nat} {e : TypeId} {cs : List Value} (h : w.ownsRow base e 9 (.slice (some ⟨g, 0, none⟩) n cap) n cs) (F : Array Value) (hF : F.size = n * 9) (m : Nat) (os : Array Obj) :
    (Sort.grow (putRow id (Sort.ahead w m) g 0 F) os).ownsRow base e 9 (.slice (some ⟨g, 0, none⟩) n cap) n F.toList ∧ Ext (fun k => (Value.slice (some ⟨g, 0, none⟩) n cap).ownBlock = some k) w (Sort.grow (putRow id (Sort.ahead w m) g 0 F) os) := by
  have hg0 : g < w.heap.size := (h.lt g rfl).2
  constructor
  · refine ⟨by rw [Array.length_toList, hF], .inr ?_⟩
    rcases h.2 with ⟨hh, _⟩ | ⟨g', cap', cur, hh, hb, hg, h1, h2, h3, h4⟩
    · cases hh
    · injection hh with a1 _ a3
      injection a1 with a1
      injection a1 with a1
      subst a1; subst a3
      refine ⟨g, cap, putCells id 0 F cur, rfl, hb, ?_, h1, h2, by simpa [putCells] using h3, ?_⟩
      · show ((putRow id (Sort.ahead w m) g 0 F).heap ++ os)[g]? = _
        rw [Array.getElem?_append_left (by simp; exact hg0)]
        simp only [putRow, mapBlock, Array.getElem?_modify, if_true, heap_ahead, hg]
        rfl
      · apply List.ext_getElem?
        intro t
        rw [List.getElem?_take]
        have hsz : n * 9 ≤ cur.size := by rw [h3]; exact Nat.mul_le_mul_right 9 h1
        split
        · rename_i ht
          have ht2 : t < F.size := by omega
          rw [Array.getElem?_toList, Array.getElem?_toList, Array.getElem?_eq_getElem ht2]
          simp only [putCells, Array.getElem?_mapIdx]
          rw [Array.getElem?_eq_getElem (show t < cur.size by omega)]
          simp only [Option.map_some, Nat.zero_le, Nat.zero_add, true_and, ht2, if_true, Nat.sub_zero, id]
          rw [getElem!_pos F t ht2]
        · rename_i ht
          rw [Array.getElem?_toList, Array.getElem?_eq_none (by omega)]
  · refine ⟨rfl, rfl, rfl, ?_, ?_, fun k hk hn => ?_⟩
    · show w.heap.size ≤ ((putRow id (Sort.ahead w m) g 0 F).heap ++ os).size
      rw [Array.size_append, size_putRow]; simp
    · show w.drawn ≤ (putRow id (Sort.ahead w m) g 0 F).drawn
      simp
    · show ((putRow id (Sort.ahead w m) g 0 F).heap ++ os)[k]? = _
      rw [Array.getElem?_append_left (by rw [size_putRow]; exact hk)]
      simp only [putRow, mapBlock, Array.getElem?_modify, heap_ahead]
      rw [if_neg (fun e => hn (by simp [Value.ownBlock, e]))]

theorem own_holds {w : World} {base g n cap : Nat} {e : TypeId} {α : Type} [Inhabited α] (enc : α → List Value) (hk : ∀ x, (enc x).length = 9) (d : Array α) (_hn : n = d.size)
    (h : w.ownsRow base e 9 (.slice (some ⟨g, 0, none⟩) n cap) n (d.toList.map enc).flatten) : HoldsK enc 9 w g 0 d := by
  intro j hj
  have hc := h.cells (g := g) rfl j ((flatK enc 9 d)[j]!) (by rw [← flatK_list enc hk d, Array.getElem?_toList, Array.getElem?_eq_getElem hj, getElem!_pos _ j hj])
  rw [Addr.add_lit] at hc
  refine ⟨hc, ?_⟩
  rcases h.2 with ⟨hh, _⟩ | ⟨g', cap', cur, hh, hb, hg, _⟩
  · cases hh
  · injection hh with a1 _ a3
    injection a1 with a1
    injection a1 with a1
    subst a1
    exact frozen_of_row w g _ cur e hg
theorem aggE (w : World) : (isAgg 39).run Tryd.prog w = .ok true w := by kernel_rfl
theorem sizE (w : World) : (Go.sizeOf 39).run Tryd.prog w = .ok 9 w := by kernel_rfl

theorem Made.slice {w : World} {base : Nat} {v : Value} {xs : List Ex} (h : Made w base v xs) (h0 : xs ≠ []) : ∃ g cap, v = .slice (some ⟨g, 0, none⟩) xs.length cap ∧ g < w.heap.size := by
  obtain ⟨css, h1, h2, h3⟩ := h
  rcases h3.2 with ⟨rfl, hn⟩ | ⟨g, cap, cur, rfl, hb, hg, _⟩
  · exact absurd (List.eq_nil_of_length_eq_zero hn) h0
  · exact ⟨g, cap, rfl, (Array.getElem?_eq_some_iff.1 hg).1⟩

/-- slices.Reverse of a made list. -/
theorem slices_Reverse (w : World) (base : Nat) (v : Value) (xs : List Ex) (h : Made w base v xs) (hn : xs.length ≤ 9223372036854775807) :
    Calls Tryd.prog 55 #[v] w fun e w' => e = .returned (.tuple #[]) ∧ Made w' base v xs.reverse ∧ Ext (fun k => v.ownBlock = some k) w w' := by
  by_cases h0 : xs = []
  · subst h0
    obtain ⟨A, cap, _, rfl, _⟩ := h.lrep
    refine (AnyQ.slices_Reverse_empty Tryd.reverseL A cap w).mono ?_
    rintro e w' ⟨he, rfl⟩
    exact ⟨he, h, Ext.refl _ _⟩
  · obtain ⟨g, cap, rfl, hg⟩ := h.slice h0
    obtain ⟨ps, hps, hown⟩ := h.ps
    have hlen : ps.length = xs.length := by have := congrArg List.length hps; simpa using this
    cases hp : ps with
    | nil => rw [hp] at hps; exact absurd hps.symm h0
    | cons p0 _ =>
      letI : Inhabited (EP w (OkM w base (.slice (some ⟨g, 0, none⟩) xs.length cap))) := ⟨p0⟩
      have hk : ∀ x : EP w (OkM w base (.slice (some ⟨g, 0, none⟩) xs.length cap)), (encE x).length = 9 := fun x => x.2.length
      rw [hlen] at hown
      have hH := own_holds encE hk ps.toArray (by simpa using hlen.symm) (by simpa using hown)
      have hR := AnyQ.slices_Reverse Tryd.reverseL 9 aggE sizE encE hk (fun x => x.2.oneCell) g 0 cap ps.toArray w hH (by simp; omega)
      rw [show (ps.toArray).size = xs.length from by simpa using hlen] at hR
      refine hR.mono ?_
      rintro e w' ⟨he, n, rfl⟩
      have hr := relay hown (flatK encE 9 ps.toArray.reverse) (by simp [hlen]) n #[]
      rw [Sort.grow_empty, flatK_list encE hk] at hr
      refine ⟨he, ?_, hr.2⟩
      have := Made.ofPs ps.reverse hr.2 (by simpa [hlen] using hr.1)
      have e2 : ps.reverse.map exE = xs.reverse := List.map_reverse.trans (congrArg List.reverse hps)
      rw [e2] at this; exact this

/-- How two expressions' texts compare. -/
def cmpE (x y : Ex) : Int := Lib.compareBytes (textF x).data.toList (textF y).data.toList
/-- slices.SortFunc of a made list by the texts: a permutation, sorted. -/
theorem slices_SortFunc (w : World) (base : Nat) (v : Value) (xs : List Ex) (h : Made w base v xs) (hn : xs.length ≤ 1353245080300) (g : Nat)
    (eg : ∀ args w, (callFunc g args).run Tryd.prog w = .ok (.enter g args) w)
    (hO : SWO (fun x y : Ex => decide (cmpE x y < 0)))
    (hcmp : ∀ (ok : Nat → Prop) (x y : Ex) (cs ds : List Value) (w1 : World), Ext (fun k => v.ownBlock = some k) w w1 → Rep w1 ok x cs → Rep w1 ok y ds →
      Calls Tryd.prog g #[.agg cs.toArray, .agg ds.toArray] w1 fun e w2 => e = .returned (.int .i64 (cmpE x y)) ∧ Gro w1 w2) :
    Calls Tryd.prog 40 #[v, .func (.func g) #[] #[]] w fun e w' =>
      e = .returned (.tuple #[]) ∧ ∃ ys, ys.Perm xs ∧ ys.Pairwise (fun x y => ¬ cmpE y x < 0) ∧ Made w' base v ys ∧ Ext (fun k => v.ownBlock = some k) w w' := by
  by_cases h0 : xs = []
  · subst h0
    obtain ⟨A, cap, _, rfl, _⟩ := h.lrep
    refine (AnyF.slices_SortFunc_none Tryd.sortL A cap _ w).mono ?_
    rintro e w' ⟨he, rfl⟩
    exact ⟨he, [], List.Perm.refl _, List.Pairwise.nil, h, Ext.refl _ _⟩
  · obtain ⟨b, cap, rfl, hg⟩ := h.slice h0
    obtain ⟨ps, hps, hown⟩ := h.ps
    have hlen : ps.length = xs.length := by have := congrArg List.length hps; simpa using this
    cases hp : ps with
    | nil => rw [hp] at hps; exact absurd hps.symm h0
    | cons p0 _ =>
      letI : Inhabited (EP w (OkM w base (.slice (some ⟨b, 0, none⟩) xs.length cap))) := ⟨p0⟩
      have hk : ∀ x : EP w (OkM w base (.slice (some ⟨b, 0, none⟩) xs.length cap)), (encE x).length = 9 := fun x => x.2.length
      rw [hlen] at hown
      have hH := own_holds encE hk ps.toArray (by simpa using hlen.symm) (by simpa using hown)
      have hO' : SWO (ltOf fun p q : EP w (OkM w base (.slice (some ⟨b, 0, none⟩) xs.length cap)) => cmpE (exE p) (exE q)) :=
        ⟨fun x => hO.irrefl _, fun x y z => hO.trans _ _ _, fun x y z => hO.ntrans _ _ _⟩
      have hC : CmpLays Tryd.prog g #[] encE 9 (fun p q : EP w (OkM w base (.slice (some ⟨b, 0, none⟩) xs.length cap)) => cmpE (exE p) (exE q)) b 0 ps.toArray.size w := by
        intro m os dk hdk x y
        have hr := relay hown (flatK encE 9 dk) (by rw [size_flatK, hdk]; simp [hlen]) m os
        refine (hcmp _ (exE x) (exE y) _ _ _ hr.2 (x.2.ext hr.2 fun b' hb' _ => hb'.2.2) (y.2.ext hr.2 fun b' hb' _ => hb'.2.2)).mono ?_
        rintro e w2 ⟨he, hg2⟩
        exact ⟨he, hg2.grow⟩
      have hR := AnyQ.slices_SortFunc Tryd.sortL 9 aggE sizE encE hk (fun x => x.2.oneCell) _ hO' g #[] b 0 cap ps.toArray w eg hC hH hg (by simp; omega)
      rw [show (ps.toArray).size = xs.length from by simpa using hlen] at hR
      refine hR.mono ?_
      rintro e w' ⟨he, d', n, os, ⟨hsz, _, hperm⟩, hsort, rfl⟩
      have hsz' : d'.size = xs.length := by rw [hsz]; simpa using hlen
      have hr := relay hown (flatK encE 9 d') (by simp [hsz']) n os
      rw [flatK_list encE hk] at hr
      have hM := Made.ofPs d'.toList hr.2 (by rw [show d'.toList.length = xs.length from by simpa using hsz']; exact hr.1)
      refine ⟨he, d'.toList.map exE, ?_, ?_, hM, hr.2⟩
      · have hxs : (d'.extract 0 xs.length).toList = d'.toList := congrArg Array.toList (by rw [← hsz']; exact Array.extract_size)
        have hys : (ps.toArray.extract 0 xs.length).toList = ps := congrArg Array.toList (show ps.toArray.extract 0 xs.length = ps.toArray by rw [show xs.length = ps.toArray.size from by simpa using hlen.symm]; exact Array.extract_size)
        rw [hxs, hys] at hperm
        have := hperm.map exE
        rwa [hps] at this
      · rw [List.pairwise_map, List.pairwise_iff_getElem]
        intro i j hi hj hij
        have := hsort i j (Nat.zero_le _) hij (by simpa [hsz'] using hj)
        simp only [ltOf, decide_eq_false_iff_not] at this
        rw [getElem!_pos d' j (by simpa using hj), getElem!_pos d' i (by simpa using hi)] at this
        simpa using this
end Go.Proofs.YtgikebkgihcogaaDoor
