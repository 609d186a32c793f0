/- slices.CompactFunc of a made list. -/
import Derived.Test.YtgikebkgihcogaaDoorC1
import Derived.Test.YtgikebkgihcogaaDoorW12
import Derived.Laws.CopyRow
namespace Go.Proofs.YtgikebkgihcogaaDoor
open Go.RowKit Go.Sort
set_option maxHeartbeats 1000000

/-- Some cells of a block stored as one value. -/
theorem wpList_store_in {P : Program} {ops : Array Oper} {rest : List Oper} {op : Oper} {a : Act} {w : World} {Q : Exit → Act → World → Prop} (hgd : op.guard = none) (ty : TypeId) (x y : Operand) (ho : op.op = .store ty x y)
    (g o : Nat) (vs : List Value) (cur : Array Value) (t : TypeId) (hx : a.eval x = .pointer (some ⟨g, o, none⟩)) (hy : a.eval y = .agg vs.toArray) (hB : Blk w g cur t)
    (hi : (P.info? ty).map (·.size) = some vs.length) (hl : o + vs.length ≤ cur.size) (h1 : ∀ v ∈ vs, v.oneCell' = true)
    (h : wpList P ops Q rest (a.put op.dst undef) (w.setRow g (cur.toList.take o ++ vs ++ cur.toList.drop (o + vs.length)).toArray)) : wpList P ops Q (op :: rest) a w := by
  have hst := run_storeCells_at (P := P) g o t vs 0 cur w hB (by simpa using hl) h1
  simp only [Nat.add_zero] at hst
  refine wpList_plain hgd fun _ hK => ?_
  cases hq : P.info? ty with
  | none => simp [hq] at hi
  | some i =>
    have hs : vs.length = i.size := by simp [hq] at hi; omega
    unfold Oper.wp execOp
    simp only [ho, hx, hy, Instr.storeAt, Instr.sureAddr, Sem.run_bind, Sem.run_pure, Result.andThen_ok]
    have : (storeVar ty ⟨g, o, none⟩ (.agg vs.toArray)).run P w = .ok () (w.setRow g (cur.toList.take o ++ vs ++ cur.toList.drop (o + vs.length)).toArray) := by
      simp [storeVar, sizeOf, typeInfo, hq, Value.cells, hs, hst]
    simp only [this, Result.andThen_ok]
    exact hK _ _ h

theorem run_clear_in {P : Program} (w : World) (t e ty : TypeId) (z : Value) (ht : P.underlying t = some (.slice e)) (hv : (zeroValue e).run P w = .ok z w) (g o n c : Nat) (hn : 0 < n)
    (cur : Array Value) (te : TypeId) (hB : Blk w g cur te) (vs : List Value) (hvs : (Builtin.zeroCells z.cells n).toList = vs) (h1 : ∀ v ∈ vs, v.oneCell' = true) (hl : o + vs.length ≤ cur.size) :
    (Builtin.clear_ #[t] ty #[.slice (some ⟨g, o, none⟩) n c]).run P w = .ok (.tuple #[]) (w.setRow g (cur.toList.take o ++ vs ++ cur.toList.drop (o + vs.length)).toArray) := by
  have hst := run_storeCells_at (P := P) g o te vs 0 cur w hB (by simpa using hl) h1
  simp only [Nat.add_zero] at hst
  obtain ⟨m, rfl⟩ : ∃ m, n = m + 1 := ⟨n - 1, by omega⟩
  simp [Builtin.clear_, run_underlying ht, hv, hvs, hst]

theorem zeroCells_len (cs : Array Value) (n : Nat) : (Builtin.zeroCells cs n).toList.length = n * cs.size := by simp [Builtin.zeroCells]
theorem zeroCells_mem (cs : Array Value) (n : Nat) (h0 : 0 < cs.size) (v : Value) (h : v ∈ (Builtin.zeroCells cs n).toList) : v ∈ cs.toList := by
  simp only [Builtin.zeroCells, Array.toList_map, List.mem_map] at h
  obtain ⟨i, _, rfl⟩ := h
  have := Nat.mod_lt i h0
  rw [getElem!_pos cs _ this]
  simp

theorem own_at {w w0 : World} {base g n cap : Nat} {ok : Nat → Prop} (qs : List (EP w0 ok)) (h : w.ownsRow base 39 9 (.slice (some ⟨g, 0, none⟩) n cap) n (qs.map encE).flatten) (k : Nat) (hk : k < qs.length) :
    ∀ i v, (encE qs[k])[i]? = some v → w.cell? ⟨g, k * 9 + i, none⟩ = some v := by
  intro i v hv
  have hlen : ∀ cs ∈ qs.map encE, cs.length = 9 := fun cs h => by obtain ⟨x, _, rfl⟩ := List.mem_map.1 h; exact x.2.length
  have hi : i < 9 := by have := (List.getElem?_eq_some_iff.1 hv).1; have e := hlen _ (List.mem_map_of_mem (List.getElem_mem hk)); omega
  have hc := h.cells (g := g) rfl (k * 9 + i) v (by rw [flatten_get _ hlen k i hi, List.getElem?_map, List.getElem?_eq_getElem hk]; exact hv)
  rw [Addr.add_lit] at hc
  simpa using hc
theorem own_size {w : World} {base g n cap : Nat} {cs : List Value} (h : w.ownsRow base 39 9 (.slice (some ⟨g, 0, none⟩) n cap) n cs) :
    ∃ cur, Blk w g cur 39 ∧ n * 9 ≤ cur.size ∧ n ≤ cap ∧ cap ≤ maxLen := by
  rcases h.2 with ⟨hh, _⟩ | ⟨g', cap', cur, hh, hb, hg, h1, h2, h3, h4⟩
  · cases hh
  · injection hh with a1 _ a3
    injection a1 with a1
    injection a1 with a1
    subst a1; subst a3
    exact ⟨cur, hg, by rw [h3]; exact Nat.mul_le_mul_right 9 h1, h1, h2⟩

/-- What the inner loop keeps: m elements read, kk kept. -/
structure CInv {w0 : World} {ok : Nat → Prop} (eq : Ex → Ex → Bool) (ps qs : List (EP w0 ok)) (m kk : Nat) : Prop where
  len : qs.length = ps.length
  lt : kk < m
  le : m ≤ ps.length
  done : (qs.take kk).map exE = dedup eq ((ps.map exE).take m)
  high : ∀ j (h : j < ps.length) (h' : j < qs.length), m - 1 ≤ j → qs[j] = ps[j]
theorem CInv.skip {w0 : World} {ok : Nat → Prop} {eq : Ex → Ex → Bool} {ps qs : List (EP w0 ok)} {m kk : Nat} (h : CInv eq ps qs m kk) (hm : m < ps.length) (he : eq (exE ps[m]) (exE (ps[m - 1]'(by omega))) = true) : CInv eq ps qs (m + 1) kk := by
  have := h.lt
  refine ⟨h.len, by omega, by omega, ?_, fun j hj hj' hm' => h.high j hj hj' (by omega)⟩
  rw [h.done, dedup_take eq _ m (by omega) (by simpa using hm)]
  simp only [List.getElem_map]
  rw [if_pos he, List.append_nil]
theorem CInv.keep {w0 : World} {ok : Nat → Prop} {eq : Ex → Ex → Bool} {ps qs : List (EP w0 ok)} {m kk : Nat} (h : CInv eq ps qs m kk) (hm : m < ps.length) (he : eq (exE ps[m]) (exE (ps[m - 1]'(by omega))) = false) : CInv eq ps (qs.set kk ps[m]) (m + 1) (kk + 1) := by
  have := h.lt; have hl := h.len
  refine ⟨by simpa using hl, by omega, by omega, ?_, fun j hj hj' hm' => ?_⟩
  · rw [List.take_succ_eq_append_getElem (by simp; omega), List.map_append, List.take_set_of_le (Nat.le_refl _), h.done, dedup_take eq _ m (by omega) (by simpa using hm)]
    simp only [List.getElem_map, List.getElem_set_self, List.map_cons, List.map_nil]
    rw [if_neg (by simp [he])]
  · rw [List.getElem_set_ne (by omega)]
    exact h.high j hj (by omega) (by omega)
theorem CInv.start {w0 : World} {ok : Nat → Prop} {eq : Ex → Ex → Bool} {ps : List (EP w0 ok)} {k : Nat} (h1 : 1 ≤ k) (hk : k < ps.length) (hd : dedup eq ((ps.map exE).take k) = (ps.map exE).take k)
    (he : eq (exE ps[k]) (exE (ps[k - 1]'(by omega))) = true) : CInv eq ps ps (k + 1) k := by
  refine ⟨rfl, by omega, by omega, ?_, fun j _ _ _ => rfl⟩
  rw [dedup_take eq _ k h1 (by simpa using hk), hd]
  simp only [List.getElem_map]
  rw [if_pos he, List.append_nil, List.map_take]
end Go.Proofs.YtgikebkgihcogaaDoor
