/- Arguments that came in, read: expressions, lists of them, lists of numbers, blocks. -/
import Derived.Test.YtgikebkgihcogaaDoorE4
import Derived.ChangeArms
import Derived.ChangeSlices
import Derived.OpenShut
namespace Go.Proofs.YtgikebkgihcogaaDoor
open Go.ChangeShapes Go.WideShapes Go.RowKit Go.Sort
set_option maxHeartbeats 1000000

theorem c_int : Tryd.prog.cellsOf 3 = 1 := by kernel_rfl
theorem c_str : Tryd.prog.cellsOf 9 = 1 := by kernel_rfl
theorem c_bool : Tryd.prog.cellsOf 4 = 1 := by kernel_rfl
theorem c_val : Tryd.prog.cellsOf 37 = 3 := by kernel_rfl
theorem c_expr : Tryd.prog.cellsOf 39 = 9 := by kernel_rfl
theorem c_exprs : Tryd.prog.cellsOf 23 = 1 := by kernel_rfl
theorem c_ints : Tryd.prog.cellsOf 22 = 1 := by kernel_rfl
theorem c_items : Tryd.prog.cellsOf 24 = 1 := by kernel_rfl
theorem c_block : Tryd.prog.cellsOf 26 = 11 := by kernel_rfl
theorem wf_i64 {a : Int} (w : (Lit.int .i64 a).wf = true) : I64 a := by
  have : -9223372036854775808 ≤ a ∧ a ≤ 9223372036854775807 := by simpa [Lit.wf, IntKind.min, IntKind.max, IntKind.signed, IntKind.bits] using w
  exact this
theorem list_of {α : Type} {p : Nat → α → Prop} : ∀ n, (∀ i, i < n → ∃ a, p i a) → ∃ l : List α, l.length = n ∧ ∀ i (h : i < l.length), p i l[i]
  | 0, _ => ⟨[], rfl, fun i h => by simp at h⟩
  | n + 1, h => by
    obtain ⟨l, hl, hp⟩ := list_of n (fun i hi => h i (by omega))
    obtain ⟨a, ha⟩ := h n (by omega)
    refine ⟨l ++ [a], by simp [hl], fun i hi => ?_⟩
    by_cases hin : i < l.length
    · rw [List.getElem_append_left hin]; exact hp i hin
    · have : i = n := by simp at hi; omega
      subst this
      rw [List.getElem_append_right (by omega)]
      simpa [hl] using ha
theorem spot_none {w : World} {a : Addr} {v : Value} (h : w.cell? a = some v) : a.spot = none := by
  unfold World.cell? at h
  split at h
  · split at h
    · cases h
    · rename_i hs; cases hq : a.spot with
      | none => rfl
      | some x => rw [hq] at hs; exact (hs rfl).elim
  · cases h

section
variable {H : Type} {enc : TypeId × Value → H} {w : World} {sp : Nat → Bool} {held : Bool}
theorem field_at {fs : Array Field} {n : Nat} {cs : List Value} {ys : List (DataW H × List MemPlace)}
    (hg : ∀ (i : Nat) (f : Field), fs[i]? = some f → DataW.trod enc Tryd.prog w 0 sp held n f.type ((cs.drop f.offset).take (Tryd.prog.cellsOf f.type)) = ys[i]?) (hl : ys.length = fs.size)
    (i t o k : Nat) (h : ∃ f, fs[i]? = some f ∧ f.type = t ∧ f.offset = o) (hk : Tryd.prog.cellsOf t = k) : ∃ y, DataW.trod enc Tryd.prog w 0 sp held n t ((cs.drop o).take k) = some y := by
  obtain ⟨f, hf, rfl, rfl⟩ := h
  have hi : i < fs.size := (Array.getElem?_eq_some_iff.1 hf).1
  have := hg i f hf
  rw [hk, List.getElem?_eq_getElem (by omega)] at this
  exact ⟨_, this⟩

/-- How many elements a slice's datum has. -/
def dlen : DataW H → Nat
  | .slice es _ => es.length
  | _ => 0
/-- A list of expressions, if each expression that is read with less fuel is one. -/
theorem exprs_read (fuel : Nat) (IH : ∀ m, m < fuel → ∀ (cs : List Value) (x : DataW H × List MemPlace), DataW.trod enc Tryd.prog w 0 sp held m 39 cs = some x → ∃ e, Rep w (fun _ => True) e cs)
    (cs : List Value) (x : DataW H × List MemPlace) (h : DataW.trod enc Tryd.prog w 0 sp held fuel 23 cs = some x) :
    ∃ A cap xs css, cs = [.slice A (List.length xs) cap] ∧ xs.length ≤ cap ∧ cap ≤ maxLen ∧ (A = none → cap = 0) ∧ LRep w (fun _ => True) A xs css ∧ xs.length ≤ dlen x.1 := by
  rcases DataW.trod_slice Tryd.underlying23 h with ⟨rfl, _⟩ | ⟨a, len, cap, elems, rest, n, rfl, rfl, rfl, _, hl, hm, hlen, hel, _, _⟩
  · exact ⟨none, 0, [], fun _ => [], rfl, Nat.le_refl _, by unfold maxLen; omega, fun _ => rfl, LRep.none _ _, Nat.zero_le _⟩
  · rw [c_expr] at hel
    have hone : ∀ i, i < len → ∃ cs, w.cells? 0 (a.add (i * 9)) 9 = some cs ∧ ∃ e, Rep w (fun _ => True) e cs := fun i hi => by
      have h1 := hel i hi
      rw [List.getElem?_eq_getElem (by omega)] at h1
      obtain ⟨cs, hc, ht⟩ := Option.bind_eq_some_iff.1 h1
      exact ⟨cs, hc, IH n (Nat.lt_succ_self n) cs _ ht⟩
    obtain ⟨xs, hxl, hx⟩ := list_of (p := fun i e => ∃ cs, w.cells? 0 (a.add (i * 9)) 9 = some cs ∧ Rep w (fun _ => True) e cs) len (fun i hi => by
      obtain ⟨cs, hc, e, he⟩ := hone i hi; exact ⟨e, cs, hc, he⟩)
    subst hxl
    refine ⟨some a, cap, xs, fun i => (w.cells? 0 (a.add (i * 9)) 9).getD [], rfl, hl, hm, fun h => (by cases h), ⟨fun hp => ?_, fun j hj => ?_⟩, by simp only [dlen, List.length_map]; omega⟩
    · have hcell : ∀ j, j < xs.length → ∀ i v, ((w.cells? 0 (a.add (j * 9)) 9).getD [])[i]? = some v → w.cell? ((a.add (j * 9)).add i) = some v := fun j hj i v hv => by
        obtain ⟨cs, hc, hr⟩ := hx j hj
        rw [hc] at hv
        obtain ⟨_, hcl, hat⟩ := World.cells?_some hc
        have hi : i < 9 := by have := (List.getElem?_eq_some_iff.1 hv).1; simp only [Option.getD_some] at this; omega
        rw [hat i hi]; exact hv
      have hs : a.spot = none := by
        obtain ⟨cs, hc, hr⟩ := hx 0 hp
        have hlen9 := hr.length
        have := hcell 0 hp 0 (cs[0]'(by omega)) (by rw [hc]; simp)
        have := spot_none this
        simpa [Addr.add] using this
      obtain ⟨b, off, spot⟩ := a
      simp only at hs
      subst hs
      exact ⟨b, off, rfl, trivial, fun j hj i v hv => by have := hcell j hj i v hv; rwa [Addr.add_lit, Addr.add_lit] at this⟩
    · obtain ⟨cs, hc, hr⟩ := hx j hj
      simp only [hc, Option.getD_some]; exact hr
theorem expr_read : ∀ (fuel : Nat) (cs : List Value) (x : DataW H × List MemPlace), DataW.trod enc Tryd.prog w 0 sp held fuel 39 cs = some x → ∃ e, Rep w (fun _ => True) e cs := by
  intro fuel
  induction fuel using Nat.strongRecOn with
  | ind fuel IH =>
    intro cs x h
    obtain ⟨ys, n, rfl, _, hcl, hyl, hg⟩ := DataW.trod_struct Tryd.underlying39 h
    rw [c_expr] at hcl
    obtain ⟨c0, c1, c2, c3, c4, c5, c6, c7, c8, rfl⟩ := list9 cs hcl
    obtain ⟨y0, g0⟩ := field_at hg hyl 0 3 0 _ ⟨_, rfl, rfl, rfl⟩ c_int
    obtain ⟨y1, g1⟩ := field_at hg hyl 1 37 1 _ ⟨_, rfl, rfl, rfl⟩ c_val
    obtain ⟨y2, g2⟩ := field_at hg hyl 2 3 4 _ ⟨_, rfl, rfl, rfl⟩ c_int
    obtain ⟨y3, g3⟩ := field_at hg hyl 3 3 5 _ ⟨_, rfl, rfl, rfl⟩ c_int
    obtain ⟨y4, g4⟩ := field_at hg hyl 4 3 6 _ ⟨_, rfl, rfl, rfl⟩ c_int
    obtain ⟨y5, g5⟩ := field_at hg hyl 5 9 7 _ ⟨_, rfl, rfl, rfl⟩ c_str
    obtain ⟨y6, g6⟩ := field_at hg hyl 6 23 8 _ ⟨_, rfl, rfl, rfl⟩ c_exprs
    obtain ⟨a0, q0, _, w0⟩ := DataW.trod_int Tryd.underlying3 g0
    obtain ⟨a2, q2, _, w2⟩ := DataW.trod_int Tryd.underlying3 g2
    obtain ⟨a3, q3, _, w3⟩ := DataW.trod_int Tryd.underlying3 g3
    obtain ⟨a4, q4, _, w4⟩ := DataW.trod_int Tryd.underlying3 g4
    obtain ⟨s5, q5, _, w5⟩ := DataW.trod_string Tryd.underlying9 g5
    obtain ⟨A, cap, xs, css, q6, hxc, hcm, _, hL, _⟩ := exprs_read n (fun m hm => IH m (by omega)) _ _ g6
    obtain ⟨zs, n1, _, _, _, hzl, hgv⟩ := DataW.trod_struct Tryd.underlying37 g1
    obtain ⟨z0, v0⟩ := field_at hgv hzl 0 3 0 _ ⟨_, rfl, rfl, rfl⟩ c_int
    obtain ⟨z1, v1⟩ := field_at hgv hzl 1 3 1 _ ⟨_, rfl, rfl, rfl⟩ c_int
    obtain ⟨z2, v2⟩ := field_at hgv hzl 2 9 2 _ ⟨_, rfl, rfl, rfl⟩ c_str
    obtain ⟨b0, p0, _, u0⟩ := DataW.trod_int Tryd.underlying3 v0
    obtain ⟨b1, p1, _, u1⟩ := DataW.trod_int Tryd.underlying3 v1
    obtain ⟨s2, p2, _, u2⟩ := DataW.trod_string Tryd.underlying9 v2
    simp at q0 q2 q3 q4 q5 q6 p0 p1 p2
    subst q0 q2 q3 q4 q5 q6 p0 p1 p2
    exact ⟨.mk a0 b0 b1 s2 a2 a3 a4 s5 xs, Rep.of (.mk a0 b0 b1 s2 a2 a3 a4 s5 xs) ⟨wf_i64 w0, wf_i64 u0, wf_i64 u1, u2, wf_i64 w2, wf_i64 w3, wf_i64 w4, w5⟩ hxc hcm hL⟩
theorem expr_list {fuel : Nat} {cs : List Value} {x : DataW H × List MemPlace} (h : DataW.trod enc Tryd.prog w 0 sp held fuel 23 cs = some x) :
    ∃ A cap xs css, cs = [.slice A (List.length xs) cap] ∧ xs.length ≤ cap ∧ cap ≤ maxLen ∧ (A = none → cap = 0) ∧ LRep w (fun _ => True) A xs css ∧ xs.length ≤ dlen x.1 :=
  exprs_read fuel (fun m _ => expr_read m) cs x h
theorem int_list {fuel : Nat} {cs : List Value} {x : DataW H × List MemPlace} (h : DataW.trod enc Tryd.prog w 0 sp held fuel 22 cs = some x) :
    ∃ A cap zs, cs = [.slice A (List.length zs) cap] ∧ zs.length ≤ cap ∧ cap ≤ maxLen ∧ (A = none → cap = 0) ∧ IRep w (fun _ => True) A zs ∧ ∀ z ∈ zs, I64 z := by
  rcases open_ints Tryd.underlying22 Tryd.underlying3 c_int h with ⟨rfl, _⟩ | ⟨a, len, cap, zs, rfl, _, hl, hm, hzl, _, hc, hwf⟩
  · exact ⟨none, 0, [], rfl, Nat.le_refl _, by unfold maxLen; omega, fun _ => rfl, fun h => by simp at h, fun z hz => by cases hz⟩
  · have hle : len ≤ zs.length := by split at hzl <;> omega
    have htl : (zs.take len).length = len := by rw [List.length_take]; omega
    refine ⟨some a, cap, zs.take len, by rw [htl], by omega, hm, fun h => (by cases h), fun hp => ?_, fun z hz => wf_i64 (hwf z (List.mem_of_mem_take hz))⟩
    rw [htl] at hp
    have h0 := hc 0 (by omega)
    have hs := spot_none h0
    obtain ⟨b, off, spot⟩ := a
    simp only [Addr.add] at hs
    subst hs
    refine ⟨b, off, rfl, trivial, fun j x hx => ?_⟩
    have hj : j < len := by have := (List.getElem?_eq_some_iff.1 hx).1; omega
    have := hc j (by omega)
    rw [List.getElem?_take, if_pos hj] at hx
    rw [List.getD_eq_getElem?_getD, hx] at this
    rwa [Addr.add_lit] at this
theorem slice_shape {t e : TypeId} {fuel : Nat} {cs : List Value} {x : DataW H × List MemPlace} (ht : Tryd.prog.underlying t = some (.slice e)) (h : DataW.trod enc Tryd.prog w 0 sp held fuel t cs = some x) : ∃ A n c, cs = [.slice A n c] := by
  rcases DataW.trod_slice ht h with ⟨rfl, _⟩ | ⟨a, len, cap, _, _, _, _, rfl, _⟩
  · exact ⟨_, _, _, rfl⟩
  · exact ⟨_, _, _, rfl⟩
/-- A block that came in. -/
structure BlockIn (w : World) (v : Value) (TA A : Option Addr) (tc cap : Nat) (tabs : List Int) (core : Int) (conds : List Ex) (css : Nat → List Value) (kr : BRest) : Prop where
  val : v = .agg (bcells (.slice TA tabs.length tc) core (.slice A conds.length cap) kr)
  tables : IRep w (fun _ => True) TA tabs
  ints : ∀ z ∈ tabs, I64 z
  core : I64 core
  exprs : LRep w (fun _ => True) A conds css
  tlen : tabs.length ≤ tc
  len : conds.length ≤ cap
  max : cap ≤ maxLen
  nil : A = none → cap = 0
  one : kr.One
set_option maxRecDepth 10000 in
theorem block_in {v : Value} {d : DataW H} {p : List MemPlace} {r : Reach} {b0 : Nat} (hv : Value.okWide Tryd.prog w r b0 26 v) (h : DataW.Trod enc Tryd.prog w 0 sp held 26 v d p) :
    ∃ TA A tc cap tabs core conds css kr, BlockIn w v TA A tc cap tabs core conds css kr := by
  obtain ⟨⟨l⟩, rfl, hsz⟩ := okWide_struct Tryd.underlying26 hv
  obtain ⟨fuel, hf⟩ := h
  obtain ⟨ys, n, rfl, _, hcl, hyl, hg⟩ := DataW.trod_struct Tryd.underlying26 hf
  match l, hsz.trans c_block with
  | [c0, c1, c2, c3, c4, c5, c6, c7, c8, c9, c10], _ =>
    obtain ⟨y0, g0⟩ := field_at hg hyl 0 22 0 _ ⟨_, rfl, rfl, rfl⟩ c_ints
    obtain ⟨y1, g1⟩ := field_at hg hyl 1 3 1 _ ⟨_, rfl, rfl, rfl⟩ c_int
    obtain ⟨y2, g2⟩ := field_at hg hyl 2 22 2 _ ⟨_, rfl, rfl, rfl⟩ c_ints
    obtain ⟨y3, g3⟩ := field_at hg hyl 3 23 3 _ ⟨_, rfl, rfl, rfl⟩ c_exprs
    obtain ⟨y4, g4⟩ := field_at hg hyl 4 23 4 _ ⟨_, rfl, rfl, rfl⟩ c_exprs
    obtain ⟨y5, g5⟩ := field_at hg hyl 5 23 5 _ ⟨_, rfl, rfl, rfl⟩ c_exprs
    obtain ⟨y6, g6⟩ := field_at hg hyl 6 23 6 _ ⟨_, rfl, rfl, rfl⟩ c_exprs
    obtain ⟨y7, g7⟩ := field_at hg hyl 7 4 7 _ ⟨_, rfl, rfl, rfl⟩ c_bool
    obtain ⟨y8, g8⟩ := field_at hg hyl 8 23 8 _ ⟨_, rfl, rfl, rfl⟩ c_exprs
    obtain ⟨y9, g9⟩ := field_at hg hyl 9 24 9 _ ⟨_, rfl, rfl, rfl⟩ c_items
    obtain ⟨y10, g10⟩ := field_at hg hyl 10 4 10 _ ⟨_, rfl, rfl, rfl⟩ c_bool
    obtain ⟨TA, tc, tabs, q0, hl0, _, _, hT, hi⟩ := int_list g0
    obtain ⟨core, q1, _, w1⟩ := DataW.trod_int Tryd.underlying3 g1
    obtain ⟨A2, n2, k2, q2⟩ := slice_shape Tryd.underlying22 g2
    obtain ⟨A3, n3, k3, q3⟩ := slice_shape Tryd.underlying23 g3
    obtain ⟨A, cap, conds, css, q4, hl4, hm4, hn4, hL, hd4⟩ := expr_list g4
    obtain ⟨A5, n5, k5, q5⟩ := slice_shape Tryd.underlying23 g5
    obtain ⟨A6, n6, k6, q6⟩ := slice_shape Tryd.underlying23 g6
    obtain ⟨b7, q7, _⟩ := DataW.trod_bool Tryd.underlying4 g7
    obtain ⟨A8, n8, k8, q8⟩ := slice_shape Tryd.underlying23 g8
    obtain ⟨A9, n9, k9, q9⟩ := slice_shape Tryd.underlying24 g9
    obtain ⟨b10, q10, _⟩ := DataW.trod_bool Tryd.underlying4 g10
    simp [Value.cells] at q0 q1 q2 q3 q4 q5 q6 q7 q8 q9 q10
    subst q0 q1 q2 q3 q4 q5 q6 q7 q8 q9 q10
    exact ⟨TA, A, tc, cap, tabs, core, conds, css, ⟨.slice A2 n2 k2, .slice A3 n3 k3, .slice A5 n5 k5, .slice A6 n6 k6, .bool b7, .slice A8 n8 k8, .slice A9 n9 k9, .bool b10⟩,
      { val := rfl, tables := hT, ints := hi, core := wf_i64 w1, exprs := hL, tlen := hl0, len := hl4, max := hm4, nil := hn4, one := fun T co C hT hC => by simp only [bcells, List.all_toArray, List.all_cons, List.all_nil, hT, hC, Bool.true_and]; rfl }⟩
set_option maxRecDepth 10000 in
/-- An expression that came in. -/
theorem expr_in {v : Value} {d : DataW H} {p : List MemPlace} {r : Reach} {b0 : Nat} (hv : Value.okWide Tryd.prog w r b0 39 v) (h : DataW.Trod enc Tryd.prog w 0 sp held 39 v d p) :
    ∃ e cs, v = .agg (List.toArray cs) ∧ Rep w (fun _ => True) e cs := by
  obtain ⟨⟨l⟩, rfl, hsz⟩ := okWide_struct Tryd.underlying39 hv
  obtain ⟨fuel, hf⟩ := h
  obtain ⟨e, he⟩ := expr_read fuel _ _ hf
  exact ⟨e, l, rfl, he⟩
set_option maxRecDepth 10000 in
/-- A list of expressions that came in. -/
theorem exprs_in {v : Value} {d : DataW H} {p : List MemPlace} {r : Reach} {b0 : Nat} (hv : Value.okWide Tryd.prog w r b0 23 v) (h : DataW.Trod enc Tryd.prog w 0 sp held 23 v d p) :
    ∃ A cap xs css, v = .slice A (List.length xs) cap ∧ LRep w (fun _ => True) A xs css ∧ xs.length ≤ dlen d := by
  obtain ⟨A, n, c, rfl⟩ := okWide_slice Tryd.underlying23 hv
  obtain ⟨fuel, hf⟩ := h
  obtain ⟨A', cap, xs, css, hcs, _, _, _, hL, hd⟩ := expr_list hf
  simp [Value.cells] at hcs
  obtain ⟨rfl, rfl, rfl⟩ := hcs
  exact ⟨_, _, xs, css, rfl, hL, hd⟩
end
end Go.Proofs.YtgikebkgihcogaaDoor
