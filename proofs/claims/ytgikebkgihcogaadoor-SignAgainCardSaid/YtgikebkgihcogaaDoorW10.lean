/- A list of expressions that a call has made; sign.each. -/
import Derived.Test.YtgikebkgihcogaaDoorW9
import Derived.Maps.AppendAt
namespace Go.Proofs.YtgikebkgihcogaaDoor
open Go.RowKit
set_option maxHeartbeats 1000000

/-- A slice of expressions at A reads as xs; the blocks met are of ok. -/
structure LRep (w : World) (ok : Nat → Prop) (A : Option Addr) (xs : List Ex) (css : Nat → List Value) : Prop where
  hA : 0 < xs.length → ∃ b off, A = some ⟨b, off, none⟩ ∧ ok b ∧ ∀ j, j < xs.length → ∀ i v, (css j)[i]? = some v → w.cell? ⟨b, off + j * 9 + i, none⟩ = some v
  hl : ∀ j (h : j < xs.length), Rep w ok xs[j] (css j)
theorem LRep.mono {w w' : World} {ok ok' : Nat → Prop} {A : Option Addr} {xs : List Ex} {css : Nat → List Value} (h : LRep w ok A xs css) (hk : ∀ b, ok b → b < w.heap.size → ok' b ∧ w'.heap[b]? = w.heap[b]?) : LRep w' ok' A xs css := by
  refine ⟨fun hp => ?_, fun j hj => (h.hl j hj).mono hk⟩
  obtain ⟨b, off, rfl, hb, hc⟩ := h.hA hp
  have hlen : (css 0).length = 9 := (h.hl 0 hp).length
  have hlt : b < w.heap.size := World.block_lt_of_cell? w ⟨b, off + 0 * 9 + 0, none⟩ (hc 0 hp 0 _ (List.getElem?_eq_getElem (by omega)))
  refine ⟨b, off, rfl, (hk b hb hlt).1, fun j hj i v hv => ?_⟩
  rw [World.cell?_of_block (a := ⟨b, off + j * 9 + i, none⟩) (hk b hb hlt).2]
  exact hc j hj i v hv
theorem LRep.ext {S : Nat → Prop} {w w' : World} {ok : Nat → Prop} {A : Option Addr} {xs : List Ex} {css : Nat → List Value} (h : LRep w ok A xs css) (hx : Ext S w w') (hs : ∀ b, ok b → b < w.heap.size → ¬ S b) : LRep w' ok A xs css :=
  h.mono fun b hb hlt => ⟨hb, hx.block b hlt (hs b hb hlt)⟩
theorem LRep.gro {w w' : World} {ok : Nat → Prop} {A : Option Addr} {xs : List Ex} {css : Nat → List Value} (h : LRep w ok A xs css) (hx : Gro w w') : LRep w' ok A xs css := h.ext hx fun _ _ _ e => e
theorem LRep.elem {w : World} {ok : Nat → Prop} {A : Option Addr} {xs : List Ex} {css : Nat → List Value} (h : LRep w ok A xs css) (j : Nat) (hj : j < xs.length) : Elem w A j (css j) := by
  obtain ⟨b, off, rfl, _, hc⟩ := h.hA (by omega)
  exact ⟨(h.hl j hj).length, b, off, rfl, hc j hj⟩
/-- An expression's operands. -/
theorem Rep.kids {w : World} {ok : Nat → Prop} {e : Ex} {cs : List Value} (h : Rep w ok e cs) : ∃ A cap css, cs = cells e A cap ∧ e.l.length ≤ cap ∧ cap ≤ maxLen ∧ LRep w ok A e.l css := by
  cases h with
  | mk _ A cap css hcap hmax h1 h2 h3 h4 h5 h6 h7 h8 hA hl => exact ⟨A, cap, css, rfl, hcap, hmax, hA, hl⟩
/-- An expression laid anew over operands. -/
theorem Rep.of {w : World} {ok : Nat → Prop} (e : Ex) (hf : e.Fits) {A : Option Addr} {cap : Nat} {css : Nat → List Value} (hcap : e.l.length ≤ cap) (hmax : cap ≤ maxLen) (h : LRep w ok A e.l css) : Rep w ok e (cells e A cap) :=
  .mk e A cap css hcap hmax hf.op hf.kind hf.num hf.vs hf.rel hf.col hf.n hf.s h.hA h.hl

def OkM (w : World) (base : Nat) (v : Value) (b : Nat) : Prop := base ≤ b ∧ b < w.heap.size ∧ v.ownBlock ≠ some b
/-- v is a slice of the call's own (from base on) that holds xs; what these lead to are other blocks of the call's own. -/
def Made (w : World) (base : Nat) (v : Value) (xs : List Ex) : Prop :=
  ∃ css : List (List Value), css.length = xs.length ∧ (∀ j (h : j < xs.length) cs, css[j]? = some cs → Rep w (OkM w base v) xs[j] cs) ∧ w.ownsRow base 39 9 v xs.length css.flatten
theorem Made.nil (w : World) (base : Nat) : Made w base (.slice none 0 0) [] := ⟨[], rfl, fun _ h => by simp at h, World.ownsRow_nil _ _ _ _⟩
theorem Made.gro {w w' : World} {base : Nat} {v : Value} {xs : List Ex} (h : Made w base v xs) (hx : Gro w w') : Made w' base v xs := by
  obtain ⟨css, h1, h2, h3⟩ := h
  refine ⟨css, h1, fun j hj cs hc => (h2 j hj cs hc).mono fun b hb hlt => ⟨⟨hb.1, Nat.lt_of_lt_of_le hlt hx.size, hb.2.2⟩, hx.block b hlt id⟩, ?_⟩
  exact h3.kept (row := none) ⟨hx.os, hx.tape, hx.output, hx.size, fun k hk _ => hx.block k hk id⟩ (by cases v.ownBlock <;> simp)
theorem Made.old {S : Nat → Prop} {w w' : World} {base : Nat} {v : Value} {xs : List Ex} (h : Made w base v xs) (hx : Ext S w w') (hs : ∀ b, S b → b < base) : Made w' base v xs := by
  obtain ⟨css, h1, h2, h3⟩ := h
  refine ⟨css, h1, fun j hj cs hc => (h2 j hj cs hc).mono fun b hb hlt => ⟨⟨hb.1, Nat.lt_of_lt_of_le hlt hx.size, hb.2.2⟩, hx.block b hlt (fun e => by have := hs b e; have := hb.1; omega)⟩, h3.1, ?_⟩
  rcases h3.2 with hn | ⟨g, cap, cur, rfl, hb, hg, rest⟩
  · exact .inl hn
  · exact .inr ⟨g, cap, cur, rfl, hb, (hx.block g (Array.getElem?_eq_some_iff.1 hg).1 (fun e => by have := hs g e; omega)).trans hg, rest⟩
theorem Made.own_lt {w : World} {base : Nat} {v : Value} {xs : List Ex} (h : Made w base v xs) (k : Nat) (hk : v.ownBlock = some k) : k < w.heap.size := by
  obtain ⟨css, _, _, h3⟩ := h; exact (h3.lt k hk).2
theorem Made.own_base {w : World} {base : Nat} {v : Value} {xs : List Ex} (h : Made w base v xs) (k : Nat) (hk : v.ownBlock = some k) : base ≤ k := by
  obtain ⟨css, _, _, h3⟩ := h; exact (h3.lt k hk).1
theorem flatten_get (css : List (List Value)) (h : ∀ cs ∈ css, cs.length = 9) : ∀ j i, i < 9 → css.flatten[j * 9 + i]? = (css[j]?).bind (·[i]?) := by
  induction css with
  | nil => intro j i _; simp
  | cons c css ih =>
    intro j i hi
    have hc := h c List.mem_cons_self
    have ih' := ih (fun cs hcs => h cs (List.mem_cons_of_mem _ hcs))
    rw [List.flatten_cons]
    cases j with
    | zero =>
      rw [List.getElem?_append_left (by omega)]; simp
    | succ j =>
      rw [List.getElem?_append_right (by omega), hc, show (j + 1) * 9 + i - 9 = j * 9 + i from by omega, ih' j i hi]
      simp
theorem Made.lrep {w : World} {base : Nat} {v : Value} {xs : List Ex} (h : Made w base v xs) : ∃ A cap css, v = .slice A xs.length cap ∧ xs.length ≤ cap ∧ cap ≤ maxLen ∧ LRep w (fun b => base ≤ b ∧ b < w.heap.size) A xs css := by
  obtain ⟨css, h1, h2, h3⟩ := h
  have hsome : ∀ j, j < xs.length → css[j]? = some (css.getD j []) := fun j hj => by
    rw [List.getD_eq_getElem?_getD, List.getElem?_eq_getElem (by omega)]; rfl
  have hlen : ∀ cs ∈ css, cs.length = 9 := fun cs hcs => by
    obtain ⟨j, hj, rfl⟩ := List.getElem_of_mem hcs
    exact (h2 j (by omega) _ (List.getElem?_eq_getElem hj)).length
  have hreps : ∀ j (h : j < xs.length), Rep w (fun b => base ≤ b ∧ b < w.heap.size) xs[j] (css.getD j []) := fun j hj =>
    (h2 j hj _ (hsome j hj)).mono fun b hb _ => ⟨⟨hb.1, hb.2.1⟩, rfl⟩
  rcases h3.2 with ⟨rfl, hn⟩ | ⟨g, cap, cur, rfl, hb, hg, hnc, hcm, hcs, htake⟩
  · exact ⟨none, 0, fun j => css.getD j [], by rw [hn], by omega, by unfold maxLen; omega, fun hp => by omega, hreps⟩
  · refine ⟨some ⟨g, 0, none⟩, cap, fun j => css.getD j [], rfl, hnc, hcm, fun _ => ⟨g, 0, rfl, ⟨hb, (Array.getElem?_eq_some_iff.1 hg).1⟩, fun j hj i v hv => ?_⟩, hreps⟩
    have hi : i < 9 := by
      have := (List.getElem?_eq_some_iff.1 hv).1
      rwa [hlen _ (by rw [List.getD_eq_getElem?_getD, List.getElem?_eq_getElem (show j < css.length by omega)]; exact List.getElem_mem _)] at this
    have hc := h3.cells (g := g) rfl (j * 9 + i) v (by rw [flatten_get css hlen j i hi, hsome j hj]; exact hv)
    rw [Addr.add_lit] at hc
    rw [show 0 + j * 9 + i = 0 + (j * 9 + i) from by omega]; exact hc

theorem info_expr : (Tryd.prog.info? 39).map (fun i => (i.zero, i.size, i.bytes)) = some (some (.agg #[(.int .i64 0), (.int .i64 0), (.int .i64 0), (.string ⟨#[]⟩), (.int .i64 0), (.int .i64 0), (.int .i64 0), (.string ⟨#[]⟩), (.slice none 0 0)]), 9, 104) := by kernel_rfl

/-- append(v, y), y in its box. -/
theorem Made.append {w : World} {base : Nat} {v : Value} {xs : List Ex} (hM : Made w base v xs) {y : Ex} {cs : List Value} (hy : Rep w (OkM w base v) y cs) (hbase : base ≤ w.heap.size) (hlen : (xs.length + 1) * 104 ≤ 140737488355328) :
    ∃ v' w', (Builtin.append_ #[23, 23] 23 #[v, .slice (some ⟨w.heap.size, 0, none⟩) 1 1]).run Tryd.prog (w.alloc (.cells cs.toArray 39)) = .ok v' w' ∧ Made w' base v' (xs ++ [y]) ∧ Ext (fun k => v.ownBlock = some k) w w' := by
  obtain ⟨i0, hi, hz0, hz1, hz2⟩ := info_parts info_expr
  obtain ⟨css, h1, h2, h3⟩ := hM
  have hB := Blk.new w cs.toArray 39
  obtain ⟨v', w', hrun, hown, hgrow, _, hat⟩ := run_append_own_at (P := Tryd.prog) (w.alloc (.cells cs.toArray 39)) base 23 23 39 i0 _ 9 104 Tryd.underlying23 hi hz0 hz1 hz2 rfl (by decide) v xs.length css.flatten (h3.alloc _)
    ⟨w.heap.size, 0, none⟩ 1 1 cs (by rw [hy.length]) (fun j u hu => by rw [Addr.add_lit, hB.cell]; simpa using hu) hy.oneCell (by unfold maxLen; omega) hlen (by simp; omega)
  have hdr := run_drawn _ _ _ _ _ hrun
  have hx : Ext (fun k => v.ownBlock = some k) (w.alloc (.cells cs.toArray 39)) w' := ⟨hgrow.os, hgrow.tape, hgrow.output, hgrow.size, hdr, fun k hk hn => hgrow.block k hk (fun e => hn e.symm)⟩
  have hx' : Ext (fun k => v.ownBlock = some k) w w' := ((Ext.refl _ w).alloc _).same hx
  have hown_lt := h3.lt
  have hok : ∀ b, OkM w base v b → b < w.heap.size → OkM w' base v' b ∧ w'.heap[b]? = w.heap[b]? := fun b hb hlt => by
    refine ⟨⟨hb.1, Nat.lt_of_lt_of_le hlt hx'.size, fun e => ?_⟩, hx'.block b hlt hb.2.2⟩
    rcases hat with ha | ha
    · rw [ha] at e; exact hb.2.2 e
    · rw [ha] at e; simp at e; omega
  refine ⟨v', w', hrun, ⟨css ++ [cs], by simp [h1], fun j hj ds hds => ?_, by simpa using hown⟩, hx'⟩
  rcases Nat.lt_or_ge j xs.length with hj' | hj'
  · rw [List.getElem?_append_left (by omega)] at hds
    rw [List.getElem_append_left hj']
    exact (h2 j hj' ds hds).mono hok
  · have : j = xs.length := by simp at hj; omega
    subst this
    rw [← h1, List.getElem?_append_right (Nat.le_refl _)] at hds
    simp at hds
    subst hds
    simp only [List.getElem_append_right (Nat.le_refl _), Nat.sub_self, List.getElem_singleton]
    exact hy.mono hok

def EachPost (base : Nat) (w : World) (xs : List Ex) (e : Ending) (w' : World) : Prop := ∃ v, e = .returned v ∧ Made w' base v xs ∧ Gro w w'
def ExPost (w : World) (x : Ex) (e : Ending) (w' : World) : Prop := ∃ cs, e = .returned (.agg cs.toArray) ∧ Rep w' (fun b => w.heap.size ≤ b ∧ b < w'.heap.size) x cs ∧ Gro w w'

set_option maxRecDepth 100000 in
theorem sign_each (g : Nat) (cb : Array Value) (eg : ∀ args w, (callFunc g args).run Tryd.prog w = .ok (.enter g args) w) (f : Ex → Ex) (w : World) (ok : Nat → Prop) (A : Option Addr) (cap : Nat) (xs : List Ex) (css : Nat → List Value)
    (hL : LRep w ok A xs css) (hn : xs.length * 104 ≤ 140737488355328)
    (hcall : ∀ j (hj : j < xs.length) w1, Gro w w1 → Calls Tryd.prog g (#[.agg (css j).toArray] ++ cb) w1 (ExPost w1 (f xs[j]))) :
    Calls Tryd.prog 38 #[.slice A xs.length cap, .func (.func g) #[] cb] w (EachPost w.heap.size w (xs.map f)) := by
  have HL := Lib.hid hL; have HC := Lib.hid hcall; clear hL hcall
  go_enter Tryd.func38, Tryd.ntmps38
  have hmx : xs.length ≤ 9223372036854775807 := by omega
  go_wp2_with fail
  go_loopw [5, 10] (fun v i wr => ∃ k : Nat, k ≤ xs.length ∧ i = .int .i64 k ∧ Made wr w.heap.size v ((xs.take k).map f) ∧ Gro w wr) (fun _ i _ => xs.length - (intOf i).toNat)
  case atStart => exact ⟨0, Nat.zero_le _, rfl, by simpa using Made.nil w w.heap.size, Ext.refl _ _⟩
  case round =>
    obtain ⟨k, hk, rfl, hM, hG⟩ := hrel
    by_cases hlt : k < xs.length
    · have hLr := HL.out.gro hG
      obtain ⟨hlen, bA, off, rfl, hcA⟩ := hLr.elem k hlt
      obtain ⟨A', cap', hcs⟩ := (hLr.hl k hlt).shape
      have hcc : ∀ j v, (cells xs[k] A' cap')[j]? = some v → wr.cell? ((⟨bA, off + k * 9, none⟩ : Addr).add j) = some v := fun j v h => by rw [Addr.add_lit]; exact hcA j v (by rw [hcs]; exact h)
      have hCk := HC.out k hlt (wr.alloc (.cells (css k).toArray 39)) (hG.alloc _)
      rw [hcs] at hCk
      simp only [cells] at hCk
      have HCC := Lib.hid hcc; have HCK := Lib.hid hCk; have HM := Lib.hid hM; have HG := Lib.hid hG
      clear hcc hCk hM hG hcA hlen hcs hLr
      generalize hx : xs[k] = x at HCC HCK
      have HX := Lib.hid hx; clear hx
      have hltr : wr.heap.size < wr.heap.size + 1 := by omega
      go_wp2_with (refine wpList_load_list rfl 39 (.tmp 12) rfl ⟨bA, off + k * 9, none⟩ rfl (cells x A' cap') _ Tryd.underlying39 rfl (by kernel_rfl) HCC.out ?_; simp only [cells])
      refine HCK.out.mono ?_
      rintro r w1 ⟨cs, rfl, hrep, hg1⟩
      have hg1' : Gro wr w1 := ((Ext.refl _ wr).alloc _).same hg1
      have hsz := HG.out.size
      have hown := HM.out.own_lt
      obtain ⟨v', w2, hrun, hM2, hx2⟩ := (HM.out.gro hg1').append (hrep.mono (ok' := OkM w1 w.heap.size _) fun b hb _ => ⟨⟨by have := hb.1; simp at this; omega, hb.2, fun e => by have := hown b e; have := hb.1; simp at this; omega⟩, rfl⟩)
        (by have := hg1'.size; omega) (by simp; omega)
      obtain ⟨A2, cap2, rfl⟩ := hrep.shape
      simp only [cells] at hrun
      have hG2 : Gro w w2 := (HG.out.same hg1').trans hx2 (fun i hi e => by have := (HM.out.own_base i e); omega)
      have HRUN := Lib.hid hrun; have HM2 := Lib.hid hM2; have HG2 := Lib.hid hG2
      clear hrun hM2 hx2 hG2 hrep hg1 hg1' hown
      simp only [cells]
      go_wp2_with (at_builtin; refine wpList_append_run rfl _ _ 23 23 rfl _ _ rfl rfl _ _ HRUN.out ?_)
      go_roundw
      case rel =>
        refine ⟨k + 1, by omega, by go_num, ?_, HG2.out⟩
        rw [List.take_succ_eq_append_getElem hlt, List.map_append, HX.out]; exact HM2.out
      case measure => simp [intOf]; omega
    · obtain rfl : k = xs.length := by omega
      rw [List.take_length] at hM
      have HM := Lib.hid hM; have HG := Lib.hid hG; clear hM hG
      go_wp2_with fail
      go_ret
      exact ⟨_, rfl, HM.out, HG.out⟩
end Go.Proofs.YtgikebkgihcogaaDoor
