/- SignWays: a list made of conditions that came in, element by element, in a field of a block; what sign.Of gives, told as two values. -/
import Derived.Test.YtgikebkgihcogaaDoorE3
namespace Go.Proofs.YtgikebkgihcogaaDoor
open Go.RowKit Go.Sort
set_option maxHeartbeats 1000000

def OkK (K : Nat → Prop) (w : World) (v : Value) (b : Nat) : Prop := K b ∧ b < w.heap.size ∧ v.ownBlock ≠ some b
/-- v is a slice of the call's own (from base on) that holds xs; what these lead to are blocks of K, not the slice's own. -/
def MadeK (K : Nat → Prop) (w : World) (base : Nat) (v : Value) (xs : List Ex) : Prop :=
  ∃ css : List (List Value), css.length = xs.length ∧ (∀ j (h : j < xs.length) cs, css[j]? = some cs → Rep w (OkK K w v) xs[j] cs) ∧ w.ownsRow base 39 9 v xs.length css.flatten
theorem MadeK.nil (K : Nat → Prop) (w : World) (base : Nat) : MadeK K w base (.slice none 0 0) [] := ⟨[], rfl, fun _ h => by simp at h, World.ownsRow_nil _ _ _ _⟩
theorem MadeK.gro {K : Nat → Prop} {w w' : World} {base : Nat} {v : Value} {xs : List Ex} (h : MadeK K w base v xs) (hx : Gro w w') : MadeK K w' base v xs := by
  obtain ⟨css, h1, h2, h3⟩ := h
  refine ⟨css, h1, fun j hj cs hc => (h2 j hj cs hc).mono fun b hb hlt => ⟨⟨hb.1, Nat.lt_of_lt_of_le hlt hx.size, hb.2.2⟩, hx.block b hlt id⟩, ?_⟩
  exact h3.kept (row := none) ⟨hx.os, hx.tape, hx.output, hx.size, fun k hk _ => hx.block k hk id⟩ (by cases v.ownBlock <;> simp)
theorem MadeK.old {K S : Nat → Prop} {w w' : World} {base : Nat} {v : Value} {xs : List Ex} (h : MadeK K w base v xs) (hx : Ext S w w') (hs : ∀ b, S b → b < base ∧ ¬ K b) : MadeK K w' base v xs := by
  obtain ⟨css, h1, h2, h3⟩ := h
  refine ⟨css, h1, fun j hj cs hc => (h2 j hj cs hc).mono fun b hb hlt => ⟨⟨hb.1, Nat.lt_of_lt_of_le hlt hx.size, hb.2.2⟩, hx.block b hlt (fun e => (hs b e).2 hb.1)⟩, h3.1, ?_⟩
  rcases h3.2 with hn | ⟨g, cap, cur, rfl, hb, hg, rest⟩
  · exact .inl hn
  · exact .inr ⟨g, cap, cur, rfl, hb, (hx.block g (Array.getElem?_eq_some_iff.1 hg).1 (fun e => by have := (hs g e).1; omega)).trans hg, rest⟩
theorem MadeK.own_lt {K : Nat → Prop} {w : World} {base : Nat} {v : Value} {xs : List Ex} (h : MadeK K w base v xs) (k : Nat) (hk : v.ownBlock = some k) : k < w.heap.size := by
  obtain ⟨css, _, _, h3⟩ := h; exact (h3.lt k hk).2
theorem MadeK.own_base {K : Nat → Prop} {w : World} {base : Nat} {v : Value} {xs : List Ex} (h : MadeK K w base v xs) (k : Nat) (hk : v.ownBlock = some k) : base ≤ k := by
  obtain ⟨css, _, _, h3⟩ := h; exact (h3.lt k hk).1
theorem MadeK.lrep {K : Nat → Prop} {w : World} {base : Nat} {v : Value} {xs : List Ex} (h : MadeK K w base v xs) : ∃ A cap css, v = .slice A xs.length cap ∧ xs.length ≤ cap ∧ cap ≤ maxLen ∧ LRep w (fun _ => True) A xs css := by
  obtain ⟨css, h1, h2, h3⟩ := h
  have hsome : ∀ j, j < xs.length → css[j]? = some (css.getD j []) := fun j hj => by
    rw [List.getD_eq_getElem?_getD, List.getElem?_eq_getElem (by omega)]; rfl
  have hlen : ∀ cs ∈ css, cs.length = 9 := fun cs hcs => by
    obtain ⟨j, hj, rfl⟩ := List.getElem_of_mem hcs
    exact (h2 j (by omega) _ (List.getElem?_eq_getElem hj)).length
  have hreps : ∀ j (h : j < xs.length), Rep w (fun _ => True) xs[j] (css.getD j []) := fun j hj =>
    (h2 j hj _ (hsome j hj)).mono fun b hb _ => ⟨trivial, rfl⟩
  rcases h3.2 with ⟨rfl, hn⟩ | ⟨g, cap, cur, rfl, hb, hg, hnc, hcm, hcs, htake⟩
  · exact ⟨none, 0, fun j => css.getD j [], by rw [hn], by omega, by unfold maxLen; omega, fun hp => by omega, hreps⟩
  · refine ⟨some ⟨g, 0, none⟩, cap, fun j => css.getD j [], rfl, hnc, hcm, fun _ => ⟨g, 0, rfl, trivial, fun j hj i v hv => ?_⟩, hreps⟩
    have hi : i < 9 := by
      have := (List.getElem?_eq_some_iff.1 hv).1
      rwa [hlen _ (by rw [List.getD_eq_getElem?_getD, List.getElem?_eq_getElem (show j < css.length by omega)]; exact List.getElem_mem _)] at this
    have hc := h3.cells (g := g) rfl (j * 9 + i) v (by rw [flatten_get css hlen j i hi, hsome j hj]; exact hv)
    rw [Addr.add_lit] at hc
    rw [show 0 + j * 9 + i = 0 + (j * 9 + i) from by omega]; exact hc

/-- append(v, y), y in its box. -/
theorem MadeK.append {K : Nat → Prop} {w : World} {base : Nat} {v : Value} {xs : List Ex} (hM : MadeK K w base v xs) {y : Ex} {cs : List Value} (hy : Rep w (OkK K w v) y cs) (hbase : base ≤ w.heap.size) (hlen : (xs.length + 1) * 104 ≤ 140737488355328) :
    ∃ v' w', (Builtin.append_ #[23, 23] 23 #[v, .slice (some ⟨w.heap.size, 0, none⟩) 1 1]).run Tryd.prog (w.alloc (.cells cs.toArray 39)) = .ok v' w' ∧ MadeK K w' base v' (xs ++ [y]) ∧ Ext (fun k => v.ownBlock = some k) w w' ∧
      ∀ b, OkK K w v b → OkK K w' v' b ∧ w'.heap[b]? = w.heap[b]? := by
  obtain ⟨i0, hi, hz0, hz1, hz2⟩ := info_parts info_expr
  obtain ⟨css, h1, h2, h3⟩ := hM
  have hB := Blk.new w cs.toArray 39
  obtain ⟨v', w', hrun, hown, hgrow, _, hat⟩ := run_append_own_at (P := Tryd.prog) (w.alloc (.cells cs.toArray 39)) base 23 23 39 i0 _ 9 104 Tryd.underlying23 hi hz0 hz1 hz2 rfl (by decide) v xs.length css.flatten (h3.alloc _)
    ⟨w.heap.size, 0, none⟩ 1 1 cs (by rw [hy.length]) (fun j u hu => by rw [Addr.add_lit, hB.cell]; simpa using hu) hy.oneCell (by unfold maxLen; omega) hlen (by simp; omega)
  have hdr := run_drawn _ _ _ _ _ hrun
  have hx : Ext (fun k => v.ownBlock = some k) (w.alloc (.cells cs.toArray 39)) w' := ⟨hgrow.os, hgrow.tape, hgrow.output, hgrow.size, hdr, fun k hk hn => hgrow.block k hk (fun e => hn e.symm)⟩
  have hx' : Ext (fun k => v.ownBlock = some k) w w' := ((Ext.refl _ w).alloc _).same hx
  have hok : ∀ b, OkK K w v b → OkK K w' v' b ∧ w'.heap[b]? = w.heap[b]? := fun b hb => by
    have hlt := hb.2.1
    refine ⟨⟨hb.1, Nat.lt_of_lt_of_le hlt hx'.size, fun e => ?_⟩, hx'.block b hlt hb.2.2⟩
    rcases hat with ha | ha
    · rw [ha] at e; exact hb.2.2 e
    · rw [ha] at e; simp at e; omega
  refine ⟨v', w', hrun, ⟨css ++ [cs], by simp [h1], fun j hj ds hds => ?_, by simpa using hown⟩, hx', hok⟩
  rcases Nat.lt_or_ge j xs.length with hj' | hj'
  · rw [List.getElem?_append_left (by omega)] at hds
    rw [List.getElem_append_left hj']
    exact (h2 j hj' ds hds).mono fun b hb _ => hok b hb
  · have : j = xs.length := by simp at hj; omega
    subst this
    rw [← h1, List.getElem?_append_right (Nat.le_refl _)] at hds
    simp at hds
    subst hds
    simp only [List.getElem_append_right (Nat.le_refl _), Nat.sub_self, List.getElem_singleton]
    exact hy.mono fun b hb _ => hok b hb

/-- The list in a field of block cb: cell f of hd v. -/
structure FieldSt (K : Nat → Prop) (w2 : World) (cb f base : Nat) (hd : Value → Array Value) (t : TypeId) (wr : World) (v : Value) (ds : List Ex) : Prop where
  made : MadeK K wr base v ds
  blk : Blk wr cb (hd v) t
  ext : Ext (· = cb) w2 wr
theorem FieldSt.gro {K : Nat → Prop} {w2 wr wx : World} {cb f base : Nat} {hd : Value → Array Value} {t : TypeId} {v : Value} {ds : List Ex} (h : FieldSt K w2 cb f base hd t wr v ds) (hx : Gro wr wx) : FieldSt K w2 cb f base hd t wx v ds :=
  ⟨h.made.gro hx, h.blk.ext hx id, h.ext.then_ hx⟩
theorem FieldSt.append {K : Nat → Prop} {w2 wr : World} {cb f base : Nat} {hd : Value → Array Value} {t : TypeId} {v : Value} {ds : List Ex} (h : FieldSt K w2 cb f base hd t wr v ds) (hset : ∀ v v', (hd v).setIfInBounds f v' = hd v') (hcb : cb < base) (hcw : base = w2.heap.size) (hK : ¬ K cb)
    {y : Ex} {cs : List Value} (hy : Rep wr (OkK K wr v) y cs) (hlen : (ds.length + 1) * 104 ≤ 140737488355328) :
    ∃ v' w', (Builtin.append_ #[23, 23] 23 #[v, .slice (some ⟨wr.heap.size, 0, none⟩) 1 1]).run Tryd.prog (wr.alloc (.cells cs.toArray 39)) = .ok v' w' ∧
      FieldSt K w2 cb f base hd t (w'.setCell ⟨cb, f, none⟩ v') v' (ds ++ [y]) ∧ Blk w' cb (hd v) t ∧ ∀ b, OkK K wr v b → OkK K (w'.setCell ⟨cb, f, none⟩ v') v' b ∧ (w'.setCell ⟨cb, f, none⟩ v').heap[b]? = wr.heap[b]? := by
  obtain ⟨v', w', hrun, hM, hx, hok⟩ := h.made.append hy (by have := h.ext.size; omega) hlen
  have hown := h.made.own_base
  have hb' : Blk w' cb (hd v) t := h.blk.ext hx (fun e => by have := hown _ e; omega)
  have hxs := (Ext.refl (· = cb) w').setCell ⟨cb, f, none⟩ v' (fun _ => rfl)
  refine ⟨v', w', hrun, ⟨hM.old hxs (fun b e => by subst e; exact ⟨hcb, hK⟩), by have := hb'.setCell f v'; rwa [hset] at this, ?_⟩, hb', fun b hb => ?_⟩
  · exact (h.ext.trans hx (fun i hi e => by have := hown i e; omega)).same hxs
  · have hne : b ≠ cb := fun e => hK (e ▸ hb.1)
    refine ⟨⟨(hok b hb).1.1, Nat.lt_of_lt_of_le (hok b hb).1.2.1 hxs.size, (hok b hb).1.2.2⟩, (hxs.block b (hok b hb).1.2.1 hne).trans (hok b hb).2⟩

theorem LRep.take {w : World} {ok : Nat → Prop} {A : Option Addr} {xs : List Ex} {css : Nat → List Value} (h : LRep w ok A xs css) (k : Nat) : LRep w ok A (xs.take k) css := by
  have hl : (xs.take k).length ≤ xs.length := by simp; omega
  refine ⟨fun hp => ?_, fun j hj => ?_⟩
  · obtain ⟨b, off, hA, hok, hc⟩ := h.hA (by omega)
    exact ⟨b, off, hA, hok, fun j hj => hc j (by omega)⟩
  · rw [List.getElem_take]; exact h.hl j (by omega)

/-- A block's other fields are one cell each. -/
def BRest.One (kr : BRest) : Prop := ∀ T core C, T.oneCell' = true → C.oneCell' = true → (bcells T core C kr).all (·.oneCell') = true
/-- What sign.Of gives, as a text and an error. -/
def OfVal (tabs : List Int) (core set : Int) (conds : List Ex) (s : ByteArray) (er : Int) : Prop :=
  ((badOf tabs core set = true ∨ conds.all rightF = false) ∧ s = ⟨#[]⟩ ∧ er = 1) ∨
  (badOf tabs core set = false ∧ conds.all rightF = true ∧ er = 0 ∧ ∃ ys, CondsRel (ofExprs core set conds) ys ∧ s = ⟨(83 :: (tabText set tabs core.toNat ++ exText ys)).toArray⟩)
theorem OfPost.val {w : World} {tabs : List Int} {core set : Int} {conds : List Ex} {r : Ending} {w' : World} (h : OfPost w tabs core set conds r w') : ∃ s er, r = .returned (.tuple #[.string s, .int .i64 er]) ∧ OfVal tabs core set conds s er ∧ Gro w w' := by
  obtain ⟨hg, ⟨h, rfl⟩ | ⟨h1, h2, ys, hrel, rfl⟩⟩ := h
  · exact ⟨_, _, rfl, .inl ⟨h, rfl, rfl⟩, hg⟩
  · exact ⟨_, _, rfl, .inr ⟨h1, h2, rfl, ys, hrel, rfl⟩, hg⟩
theorem of_ways {tabs : List Int} {core set : Int} {cs ds : List Ex} {s t : ByteArray} {e f : Int} (h : SameWays cs ds) (h1 : OfVal tabs core set cs s e) (h2 : OfVal tabs core set ds t f) : t = s ∧ f = e := by
  have ha := ways_all h
  rcases h1 with ⟨h1, rfl, rfl⟩ | ⟨b1, a1, rfl, ys, r1, rfl⟩
  · rcases h2 with ⟨_, rfl, rfl⟩ | ⟨b2, a2, _⟩
    · exact ⟨rfl, rfl⟩
    · rcases h1 with h1 | h1
      · rw [b2] at h1; cases h1
      · rw [← ha, a2] at h1; cases h1
  · rcases h2 with ⟨h2, _⟩ | ⟨b2, a2, rfl, ys', r2, rfl⟩
    · rcases h2 with h2 | h2
      · rw [b1] at h2; cases h2
      · rw [ha, a1] at h2; cases h2
    · rw [ways_text h r1 r2]; exact ⟨rfl, rfl⟩
end Go.Proofs.YtgikebkgihcogaaDoor
