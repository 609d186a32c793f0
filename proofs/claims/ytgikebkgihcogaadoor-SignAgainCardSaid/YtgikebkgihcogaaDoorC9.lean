/- sign.Of: its arguments; what it gives back. -/
import Derived.Test.YtgikebkgihcogaaDoorB1
import Derived.Test.YtgikebkgihcogaaDoorB3
import Derived.Laws.OwnMore
namespace Go.Proofs.YtgikebkgihcogaaDoor
open Go.RowKit Go.Sort
set_option maxHeartbeats 1000000

/-- Is a table of a set? -/
def bitB (set : Int) (i : Nat) : Bool := decide (set / 2 ^ i % 2 = 1)
/-- How many tables of a set are before one. -/
def cntB (set : Int) (i : Nat) : Nat := ((List.range i).filter (bitB set)).length
theorem cntB_succ (set : Int) (i : Nat) : cntB set (i + 1) = cntB set i + (if bitB set i = true then 1 else 0) := by
  simp only [cntB, List.range_succ, List.filter_append, List.length_append]
  congr 1
  by_cases h : bitB set i = true
  · simp [h]
  · simp [h]
theorem cntB_le (set : Int) (i : Nat) : cntB set i ≤ i := by
  have := (List.filter_sublist (l := List.range i) (p := bitB set)).length_le
  simpa [cntB] using this
def ranksI (set : Int) (c : Nat) : List Int := (List.range c).map (fun i : Nat => (cntB set i : Int))
theorem ranksI_len (set : Int) (c : Nat) : (ranksI set c).length = c := by simp [ranksI]
/-- The ranks' cells after k steps. -/
def ranksL (set : Int) (c k : Nat) : List Value := (List.range c).map (fun i : Nat => .int .i64 (if i < k then (cntB set i : Int) else 0))
theorem ranksL_len (set : Int) (c k : Nat) : (ranksL set c k).length = c := by simp [ranksL]
theorem ranksL_set (set : Int) (c k : Nat) : (ranksL set c k).set k (.int .i64 (cntB set k : Nat)) = ranksL set c (k + 1) := by
  apply List.ext_getElem (by simp [ranksL])
  intro i h1 h2
  simp only [List.getElem_set, ranksL, List.getElem_map, List.getElem_range]
  split
  · rename_i h; subst h; rw [if_pos (by omega)]
  · rename_i h
    by_cases hi : i < k
    · rw [if_pos hi, if_pos (by omega)]
    · rw [if_neg hi, if_neg (by omega)]
theorem ranksL_zero (set : Int) (c : Nat) : (madeCells (Value.int .i64 0).cells (c * 1)) = (ranksL set c 0).toArray := by
  have : ranksL set c 0 = (List.range c).map (fun _ : Nat => (.int .i64 0 : Value)) := by simp [ranksL]
  rw [this]
  apply Array.toList_inj.1
  apply List.ext_getElem (by simp [madeCells])
  intro i h1 h2
  simp [madeCells, Value.cells, Nat.mod_one]
theorem ranksL_full (set : Int) (c : Nat) : ranksL set c c = (ranksI set c).map (Value.int .i64) := by
  simp only [ranksL, ranksI, List.map_map]
  apply List.map_congr_left
  intro i hi
  rw [List.mem_range] at hi
  simp only [if_pos hi, Function.comp]
theorem ranksI_I64 (set : Int) (c : Nat) (hc : c ≤ 4) : ∀ x ∈ ranksI set c, I64 x := by
  intro x hx
  simp only [ranksI, List.mem_map, List.mem_range] at hx
  obtain ⟨i, hi, rfl⟩ := hx
  have := cntB_le set i
  unfold I64; omega
def tabText (set : Int) (tabs : List Int) (c : Nat) : List UInt8 := ((List.range c).filter (bitB set)).flatMap (fun i => Lib.itoa (tabs.getD i 0) ++ [32])
theorem tabText_succ (set : Int) (tabs : List Int) (c : Nat) : tabText set tabs (c + 1) = tabText set tabs c ++ (if bitB set c = true then Lib.itoa (tabs.getD c 0) ++ [32] else []) := by
  simp only [tabText, List.range_succ, List.filter_append, List.flatMap_append]
  congr 1
  by_cases h : bitB set c = true
  · simp [h]
  · simp [h]
theorem bit_and (s k : Nat) (hs : s < 16) : (bits .and .i64 ((s : Int) / 2 ^ k) 1 == 1) = bitB s k := by
  have e : ((s : Int) / 2 ^ k) = ((s / 2 ^ k : Nat) : Int) := by simp
  unfold bitB
  rw [e]
  have hm : s / 2 ^ k < 16 := Nat.lt_of_le_of_lt (Nat.div_le_self _ _) hs
  generalize s / 2 ^ k = m at hm
  have : ∀ m : Fin 16, (bits .and .i64 ((m.val : Nat) : Int) 1 == 1) = decide (((m.val : Nat) : Int) % 2 = 1) := by decide +kernel
  exact this ⟨m, hm⟩
theorem set_small (set : Int) (c : Nat) (hc : c ≤ 4) (h0 : 1 ≤ set) (h : set / 2 ^ ((c : Int)).toNat = 0) : set < 16 := by
  rw [Int.toNat_natCast] at h
  match c, hc, h with
  | 0, _, h => simp at h; omega
  | 1, _, h => omega
  | 2, _, h => omega
  | 3, _, h => omega
  | 4, _, h => omega
theorem bit_int (set : Int) (k : Nat) (h0 : 0 ≤ set) (hs : set < 16) : (bits .and .i64 (set / 2 ^ k) 1 == 1) = bitB set k := by
  obtain ⟨s, rfl⟩ : ∃ s : Nat, set = s := ⟨set.toNat, by omega⟩
  exact bit_and s k (by omega)
theorem BAt.ext' {B b g : Nat} {bs : List Value} {w w' : World} (h : BAt B b bs w) (hx : Ext (· = g) w w') (hbg : b ≠ g) {cs : Array Value} {t : TypeId} (hg : Blk w g cs t) (ht : t ≠ 5) : BAt B b bs w' := by
  obtain ⟨v, hB, hbk, hown, hne⟩ := h.toV
  refine ⟨hB, v, hbk.ext hx hbg, ?_, hne⟩
  rcases hown.2 with ⟨hv, hn⟩ | ⟨g', cap, cur, hv, hg1, hg2, rest⟩
  · exact ⟨hown.1, .inl ⟨hv, hn⟩⟩
  · refine ⟨hown.1, .inr ⟨g', cap, cur, hv, hg1, (hx.block g' (Array.getElem?_eq_some_iff.1 hg2).1 ?_).trans hg2, rest⟩⟩
    intro e
    rw [e, show w.heap[g]? = _ from hg] at hg2
    injection hg2 with hg2; injection hg2 with _ h3; exact ht h3
theorem wrap_cnt (n : Nat) (h : n ≤ 100) : wrap64 ((n : Int) + 1) = ((n + 1 : Nat) : Int) := by unfold wrap64; omega
theorem cat_list (l : List UInt8) (a : UInt8) : ((⟨l.toArray⟩ : ByteArray) ++ (⟨#[a]⟩ : ByteArray)).data.toList = l ++ [a] := by simp
theorem tabText_le (set : Int) (tabs : List Int) (h : ∀ x ∈ tabs, I64 x) (c : Nat) : (tabText set tabs c).length ≤ 30 * c := by
  induction c with
  | zero => simp [tabText]
  | succ c ih =>
    rw [tabText_succ]
    have hx : I64 (tabs.getD c 0) := by
      rw [List.getD_eq_getElem?_getD]
      cases hq : tabs[c]? with
      | none => show I64 0; unfold I64; omega
      | some x => exact h x (List.mem_of_getElem? hq)
    have := Lib.itoa_length_le _ hx.1 hx.2
    split
    · simp only [List.length_append, List.length_cons, List.length_nil]; omega
    · simp only [List.length_append, List.length_nil]; omega
/-- The arguments that have no signature. -/
def badOf (tabs : List Int) (core set : Int) : Bool := decide (core < 1) || (decide (4 < core) || (decide ((tabs.length : Int) < core) || (decide (set < 1) || decide (set / 2 ^ core.toNat ≠ 0))))
def ofExprs (core set : Int) (conds : List Ex) : List Ex := (withinI set conds conds.length).map (fun i => rankF (ranksI set core.toNat) (nth conds i.toNat))
def OfPost (w : World) (tabs : List Int) (core set : Int) (conds : List Ex) (r : Ending) (w' : World) : Prop :=
  Gro w w' ∧ (((badOf tabs core set = true ∨ conds.all rightF = false) ∧ r = .returned (.tuple #[.string ⟨#[]⟩, .int .i64 1])) ∨
    (badOf tabs core set = false ∧ conds.all rightF = true ∧ ∃ ys, CondsRel (ofExprs core set conds) ys ∧ r = .returned (.tuple #[.string ⟨(83 :: (tabText set tabs core.toNat ++ exText ys)).toArray⟩, .int .i64 0])))

set_option maxRecDepth 100000 in
theorem sign_Of (w : World) (ok : Nat → Prop) (TA A : Option Addr) (tc cap : Nat) (tabs : List Int) (core set : Int) (conds : List Ex) (css : Nat → List Value) (kr : BRest)
    (hT : IRep w ok TA tabs) (hL : LRep w ok A conds css) (ht : Tab w) (hn : conds.length ≤ 1048576) (hi : ∀ x ∈ tabs, I64 x) (hcore : I64 core) (_hset : I64 set) :
    Calls Tryd.prog 11 #[.agg (bcells (.slice TA tabs.length tc) core (.slice A conds.length cap) kr), .int .i64 set] w (OfPost w tabs core set conds) := by
  have HT := Lib.hid hT; have HL := Lib.hid hL; have HTAB := Lib.hid ht; clear hT hL ht
  simp only [bcells]
  go_enter Tryd.func11, Tryd.ntmps11
  go_upto_region 1 with (fail)
  have hW := (Ext.refl (fun _ => False) w).alloc (.cells (bcells (.slice TA tabs.length tc) core (.slice A conds.length cap) kr) 26)
  have hN := Blk.new w (bcells (.slice TA tabs.length tc) core (.slice A conds.length cap) kr) 26
  simp only [bcells] at hW hN
  generalize w.alloc _ = w1 at hW hN ⊢
  have c0 := hN.cell 0; have c1 := hN.cell 1; have c4 := hN.cell 4
  simp at c0 c1 c4
  have l1 := hN.lt
  have HW := Lib.hid hW; have HN := Lib.hid hN; clear hW hN
  by_cases h1 : core < 1
  · go_wp2_with fail
    go_ret2
    exact ⟨HW.out, .inl ⟨.inl (by simp [badOf, h1]), rfl⟩⟩
  by_cases h2 : 4 < core
  · go_wp2_with fail
    go_ret2
    exact ⟨HW.out, .inl ⟨.inl (by simp [badOf, h2]), rfl⟩⟩
  by_cases h3 : (tabs.length : Int) < core
  · go_wp2_with fail
    go_ret2
    exact ⟨HW.out, .inl ⟨.inl (by simp [badOf, h3]), rfl⟩⟩
  by_cases h4 : set < 1
  · go_wp2_with fail
    go_ret2
    exact ⟨HW.out, .inl ⟨.inl (by simp [badOf, h4]), rfl⟩⟩
  by_cases h5 : set / 2 ^ core.toNat = 0
  · have h5' : (set / 2 ^ core.toNat != 0) = false := by simp [h5]
    have HGOOD : Hid (badOf tabs core set = false) := Lib.hid (by simp only [badOf]; simp; omega)
    have hC := sign_Conds w1 ok A cap conds css (HL.out.gro HW.out) (HTAB.out.gro HW.out) (by omega)
    have HC := Lib.hid hC; have H5 := Lib.hid h5; clear hC h5
    go_upto_region 4 with (go_at_call 15; refine HC.out.mono ?_; rintro r w2 ⟨hg2, hres⟩; have HG2 := Lib.hid hg2; have HRES := Lib.hid hres; clear hg2 hres; rcases HRES.out with ⟨v, ys, hall, rfl, _, _, _⟩ | ⟨hall, rfl⟩)
    · have HALL := Lib.hid hall; clear hall HRES
      clear c0 c1 c4 l1
      obtain ⟨c, rfl⟩ : ∃ c : Nat, core = c := ⟨core.toNat, by omega⟩
      have hw2 : w.heap.size < w2.heap.size := (HN.out.ext HG2.out id).lt
      have h16 := set_small set c (by omega) (by omega) H5.out
      have hB : BIs w2.heap.size w2.heap.size (Lib.byteCells []) (w2.alloc (.cells #[.pointer none, .slice none 0 0] 54)) :=
        .inl ⟨Nat.le_refl _, .slice none 0 0, heap_alloc_new w2 _, World.ownsRow_nil _ _ _ _, by simp [Value.ownBlock]⟩
      have hg3 : Gro w2 (w2.alloc (.cells #[.pointer none, .slice none 0 0] 54)) := (Ext.refl _ w2).alloc _
      have hx3 : Gro w (w2.alloc (.cells #[.pointer none, .slice none 0 0] 54)) := (HW.out.same HG2.out).same hg3
      have hWr := writes w2.heap.size w2.heap.size [] [83] ⟨#[83]⟩ rfl _ hB (by simp)
      have hle2 := (HW.out.same HG2.out).size
      have HWR := Lib.hid hWr; have HX3 := Lib.hid hx3; clear hWr hB hg3 hx3
      go_upto_region 8 with (go_at_call 20; refine HWR.out.mono ?_; rintro r w4 ⟨rfl, hb4, hx4⟩; have HB4 := Lib.hid hb4; have HX4 := Lib.hid hx4; clear hb4 hx4)
      have hx04 : Gro w w4 := BExt.toGro HX3.out hle2 hle2 HX4.out
      have hN4 : Blk w4 w.heap.size (bcells (.slice TA tabs.length tc) c (.slice A conds.length cap) kr) 26 := by
        have hN2 := HN.out.ext HG2.out id
        have := hN2.lt
        exact (hN2.alloc _).ext HX4.out (BS.notOld (by omega) (by omega))
      have c1 := hN4.cell 1
      simp [bcells] at c1
      obtain ⟨i0, hi0, hz0, hz1, hz2⟩ := info_parts info_int
      have hmk := run_makeSlice (P := Tryd.prog) w4 22 3 i0 (.int .i64 0) Tryd.underlying22 hi0 hz0 .i64 .i64 c c (by omega) (Int.le_refl _) (by rw [hz1]; omega) (by rw [hz2]; omega) (by omega)
      simp only [Int.toNat_natCast] at hmk
      rw [hz1, ranksL_zero set c] at hmk
      have hR5 := Blk.new w4 (ranksL set c 0).toArray 3
      have hg5 := (Ext.refl (fun _ => False) w4).alloc (.cells (ranksL set c 0).toArray 3)
      have hs5 : (w4.alloc (.cells (ranksL set c 0).toArray 3)).heap.size = w4.heap.size + 1 := by simp
      generalize w4.alloc (.cells (ranksL set c 0).toArray 3) = w5 at hmk hR5 hg5 hs5
      have HR5 := Lib.hid hR5; have HG5 := Lib.hid hg5; have HN4 := Lib.hid hN4
      have l4 := hN4.lt
      clear hR5 hg5 hN4 hi0 hz0 hz1 hz2
      go_upto_region 9 with (fail)
      have hP6 := Blk.newAt (w := w5) (n := w4.heap.size + 1) (by omega) #[.slice (some ⟨w4.heap.size, 0, none⟩) c c] 22
      have hg6 := HG5.out.alloc (.cells #[.slice (some ⟨w4.heap.size, 0, none⟩) c c] 22)
      have hR6 := HR5.out.alloc (.cells #[.slice (some ⟨w4.heap.size, 0, none⟩) c c] 22)
      generalize w5.alloc (.cells #[.slice (some ⟨w4.heap.size, 0, none⟩) c c] 22) = w6 at hP6 hg6 hR6 ⊢
      clear c1 hmk hs5
      have hN6 := HN4.out.ext hg6 id
      have c1 := hN6.cell 1
      simp [bcells] at c1
      have hb6 := BAtAny.gro HB4.out hg6
      have hx06 : Gro w w6 := hx04.same hg6
      have hst : w2.heap.size < w4.heap.size := HB4.out.lt
      have HP6 := Lib.hid hP6; have HR6 := Lib.hid hR6; have HN6 := Lib.hid hN6; have HB6 := Lib.hid hb6; have HX06 := Lib.hid hx06
      clear hP6 hR6 hN6 hb6 hx06 hx04 hg6 HR5 HG5 HN4 HB4 HX4 HX3 HWR
      go_upto_region 11 with (fail)
      clear c1
      go_loopw [10, 57] (fun v10 v57 wr => ∃ k : Nat, k ≤ c ∧ v10 = .int .i64 (cntB set k) ∧ v57 = .int .i64 k ∧ Gro w wr ∧ BAt w2.heap.size w2.heap.size (Lib.byteCells (83 :: tabText set tabs k)) wr ∧
        Blk wr (w4.heap.size + 1) #[.slice (some ⟨w4.heap.size, 0, none⟩) c c] 22 ∧ Blk wr w4.heap.size (ranksL set c k).toArray 3 ∧ Blk wr w.heap.size (bcells (.slice TA tabs.length tc) c (.slice A conds.length cap) kr) 26) (fun _ v57 _ => c - (intOf v57).toNat)
      case atStart => exact ⟨0, Nat.zero_le _, rfl, rfl, HX06.out, HB6.out, HP6.out, HR6.out, HN6.out⟩
      case round =>
        obtain ⟨k, hk, rfl, rfl, hG, hB, hP, hR, hNr⟩ := hrel
        by_cases hlt : k < c
        · have p0 := hP.cell 0
          simp at p0
          have lp := hP.lt; have lr := hR.lt
          have zr := hR.thaw k
          have rk : wr.cell? ⟨w4.heap.size, k, none⟩ = some ((ranksL set c k)[k]'(by rw [ranksL_len]; exact hlt)) := by
            rw [hR.cell k, List.getElem?_toArray, List.getElem?_eq_getElem]
          generalize (ranksL set c k)[k]'(by rw [ranksL_len]; exact hlt) = old at rk
          have HG := Lib.hid hG; have HB := Lib.hid hB; have HP := Lib.hid hP; have HR := Lib.hid hR
          clear hG hB hP hR
          go_upto_region 14 with (fail)
          have hR2 := HR.out.setCell k (.int .i64 (cntB set k : Nat))
          have hx2 := (Ext.refl (· = w4.heap.size) wr).setCell ⟨w4.heap.size, k, none⟩ (.int .i64 (cntB set k : Nat)) (fun _ => rfl)
          have hP2 := HP.out.setOther ⟨w4.heap.size, k, none⟩ (.int .i64 (cntB set k : Nat)) (by simp)
          have hN2 := hNr.ext hx2 (by omega)
          generalize wr.setCell ⟨w4.heap.size, k, none⟩ (.int .i64 (cntB set k : Nat)) = wb at hR2 hx2 hP2 hN2 ⊢
          rw [List.setIfInBounds_toArray, ranksL_set] at hR2
          have hG2 : Gro w wb := HG.out.trans hx2 (fun i hi h => by omega)
          have hB2 := HB.out.toV
          clear p0 lp lr zr rk
          have HR2 := Lib.hid hR2; have HP2 := Lib.hid hP2; have HG2' := Lib.hid hG2; have HB2 := Lib.hid (BAt.ext' HB.out hx2 (by omega) HR.out (by decide))
          have HNb := Lib.hid hN2
          clear hR2 hP2 hG2 hx2 hB2 hN2 hNr
          by_cases hb : bitB set k = true
          · have hbit : (bits .and .i64 (set / 2 ^ k) 1 == 1) = true := by rw [bit_int set k (by omega) h16]; exact hb
            have HBT := Lib.hid hb; clear hb
            have hkt : k < tabs.length := by omega
            obtain ⟨bT, offT, rfl, _, hcT⟩ := (HT.out.gro HG2'.out) (by omega)
            have t0 := HNb.out.cell 0
            have t1 := hcT k tabs[k] (List.getElem?_eq_getElem hkt)
            simp [bcells] at t0
            have hxi : I64 tabs[k] := hi _ (List.getElem_mem hkt)
            have hgd : tabs.getD k 0 = tabs[k] := by rw [List.getD_eq_getElem?_getD, List.getElem?_eq_getElem hkt]; rfl
            generalize tabs[k] = x at t1 hxi hgd
            have ln := HNb.out.lt
            have hlen : (83 :: tabText set tabs k).length + (Lib.itoa x ++ [32]).length ≤ 140737488355328 := by
              have h1 := tabText_le set tabs hi k
              have h2 := Lib.itoa_length_le _ hxi.1 hxi.2
              simp only [List.length_cons, List.length_append, List.length_nil]; omega
            have hil : (Lib.itoa x).length + 1 ≤ 9223372036854775807 := by have := Lib.itoa_length_le _ hxi.1 hxi.2; omega
            have HLEN := Lib.hid hlen; clear hlen
            have HXI := Lib.hid hxi; have HGD := Lib.hid hgd; clear hxi hgd hcT
            go_upto_region 17 with (first
              | (go_at_call 21; refine (itoa x HXI.out _ (HTAB.out.gro HG2'.out)).mono ?_; rintro r wi ⟨rfl, hgi⟩; have HGI := Lib.hid hgi; clear hgi)
              | (go_at_call 20; refine (writes w2.heap.size w2.heap.size (83 :: tabText set tabs k) (Lib.itoa x ++ [32]) _ (cat_list _ _) _ (.inr (BAtAny.gro HB2.out HGI.out)) HLEN.out).mono ?_; rintro r w7 ⟨rfl, hb7, hx7⟩; have HB7 := Lib.hid hb7; have HX7 := Lib.hid hx7; clear hb7 hx7))
            have hPi := HP2.out.ext HGI.out id
            have hRi := HR2.out.ext HGI.out id
            have hNi := HNb.out.ext HGI.out id
            have hP7 := hPi.ext HX7.out (BS.not hPi (by omega) (by decide))
            have hR7 := hRi.ext HX7.out (BS.not hRi (by omega) (by decide))
            have hN7 := hNi.ext HX7.out (BS.notOld (by omega) (by omega))
            have hG7 := BExt.toGro (HG2'.out.same HGI.out) hle2 hle2 HX7.out
            clear t0 t1 ln
            go_wp2_with fail
            go_roundw
            case rel =>
              have := cntB_le set k
              refine ⟨k + 1, by omega, by rw [cntB_succ, if_pos HBT.out, wrap_cnt _ (by omega)], by go_num, hG7, ?_, hP7, hR7, hN7⟩
              rw [tabText_succ, if_pos HBT.out, HGD.out]; simpa using HB7.out
            case measure => simp [intOf]; omega
          · have hbit : (bits .and .i64 (set / 2 ^ k) 1 == 1) = false := by rw [bit_int set k (by omega) h16]; simpa using hb
            have HBT := Lib.hid (by simpa using hb : bitB set k = false); clear hb
            go_wp2_with fail
            go_roundw
            case rel =>
              refine ⟨k + 1, by omega, by rw [cntB_succ, HBT.out]; rfl, by go_num, HG2'.out, ?_, HP2.out, HR2.out, HNb.out⟩
              rw [tabText_succ, HBT.out]; simpa using HB2.out
            case measure => simp [intOf]; omega
        · obtain rfl : k = c := by omega
          have n4 := hNr.cell 4
          simp [bcells] at n4
          have ln := hNr.lt
          have hWi := sign_Within wr ok A cap conds css set (HL.out.gro hG) (by omega)
          have HWI := Lib.hid hWi; have HG := Lib.hid hG; have HB := Lib.hid hB; have HP := Lib.hid hP; have HR := Lib.hid hR; have HNr := Lib.hid hNr
          clear hWi hG hB hP hR hNr
          obtain ⟨is, his⟩ : ∃ is, is = withinI set conds conds.length := ⟨_, rfl⟩
          have hisl : is.length ≤ 1048576 := by have := withinI_len set conds conds.length; rw [his]; omega
          rw [← his] at HWI
          have HIS := Lib.hid his; clear his
          go_upto_region 19 with (first
            | (go_at_call 9; refine HWI.out.mono ?_; rintro r wq ⟨v2, rfl, hI2, hgq⟩; obtain ⟨A2, cap2, rfl, _, _, hrd⟩ := hI2.read; have HRD := Lib.hid hrd; have HGQ := Lib.hid hgq; clear hrd hI2 hgq)
            | (go_at_call 22
               refine (sign_eachI 23 #[.pointer (some ⟨w.heap.size, 0, none⟩), .pointer (some ⟨w4.heap.size + 1, 0, none⟩)] (fun _ _ => by kernel_rfl) (fun i => rankF (ranksI set k) (nth conds i.toNat)) wq (fun _ => True) A2 cap2 is ?hI (by omega) ?hc).mono ?_
               case hI => exact fun hp => by obtain ⟨g, h1, _, _, h4⟩ := HRD.out hp; exact ⟨g, 0, h1, trivial, fun j x hx => by rw [Nat.zero_add]; exact h4 j x hx⟩
               case hc =>
                 intro j hj w1' hg1'
                 have hmem : is[j] ∈ withinI set conds conds.length := by rw [← HIS.out]; exact List.getElem_mem hj
                 obtain ⟨i, hi', he, hw⟩ := withinI_mem _ _ _ _ hmem
                 simp only [he, Int.toNat_natCast, nth_get _ _ hi']
                 have hq := HGQ.out.same hg1'
                 refine sign_Of1 w1' w.heap.size (w4.heap.size + 1) (.slice TA tabs.length tc) k kr A cap conds css ok (.slice (some ⟨w4.heap.size, 0, none⟩) k k) i hi' _ (HL.out.gro (HG.out.same hq)) (HNr.out.ext hq id) (HP.out.ext hq id) ?_
                 intro W hgW
                 have hqW := hq.same hgW
                 have hr : rightF conds[i] = true := List.all_eq_true.1 HALL.out _ (List.getElem_mem hi')
                 rw [nth_get _ _ hi'] at hw
                 have hRW := HR.out.ext hqW id
                 have hk4 : k ≤ 4 := by omega
                 have hIR : IRep W (fun _ => True) (some ⟨w4.heap.size, 0, none⟩) (ranksI set k) := fun _ => ⟨w4.heap.size, 0, rfl, trivial, fun j x hx => by
                   rw [Nat.zero_add, hRW.cell j, ranksL_full, List.getElem?_toArray, List.getElem?_map, hx]; rfl⟩
                 have hrk := sign_ranked (ranksI set k) (ranksI_I64 set k hk4) w ok conds[i] (css i) (HL.out.hl i hi') W (fun _ => True) (some ⟨w4.heap.size, 0, none⟩) k (HG.out.same hqW) hIR (right_own hr)
                   (by rw [ranksI_len]; exact withinB_ref set k hk4 (by omega) (set_lt set k hk4 (by omega) H5.out) _ hr hw)
                 rw [ranksI_len] at hrk
                 exact hrk
               rintro r wE ⟨v3, rfl, hM3, hgE⟩
               obtain ⟨A3, cap3, css3, rfl, _, _, hL3⟩ := hM3.lrep
               have HL3 := Lib.hid hL3; have HGE := Lib.hid hgE; clear hM3 hL3 hgE))
          have hgE : Gro w wE := HG.out.same (HGQ.out.same HGE.out)
          have hlM : (is.map fun i => rankF (ranksI set k) (nth conds i.toNat)).length = is.length := by simp
          have hC2 := sign_CondsR wE _ A3 cap3 _ css3 HL3.out (HTAB.out.gro hgE) (by rw [hlM]; omega)
          rw [hlM] at hC2
          have HC2 := Lib.hid hC2; have HGE' := Lib.hid hgE; clear hC2 hgE n4 ln
          go_upto_region 20 with (go_at_call 15; refine HC2.out.mono ?_; rintro r wC ⟨A4, cap4, css4, zs, er, rfl, hrel, hzl, hL4, hgC⟩; have HREL := Lib.hid hrel; have HL4 := Lib.hid hL4; have HGC := Lib.hid hgC; clear hrel hL4 hgC)
          obtain ⟨bv, hbv⟩ := HB.out.toV
          have hbl := hbv.lt
          have hgrc := HGQ.out.same (HGE.out.same HGC.out)
          have hbvC := hbv.gro hgrc
          have hgwC := HG.out.same hgrc
          have hszE := (HGQ.out.same HGE.out).size
          have hb2wr : w2.heap.size < wr.heap.size := HB.out.lt
          have HBV := Lib.hid hbvC; have HGWC := Lib.hid hgwC; have HBL := Lib.hid hbl
          clear hbv hbl hgrc hbvC hgwC
          have hzm : zs.length ≤ 1048576 := by omega
          go_upto_region 21 with (fail)
          go_loopw [93] (fun i wk => ∃ j : Nat, j ≤ zs.length ∧ i = .int .i64 j ∧ Gro w wk ∧ wC.heap.size ≤ wk.heap.size ∧ LRep wk (fun b => wE.heap.size ≤ b ∧ b < wC.heap.size) A4 zs css4 ∧
            ∃ bv, BAtV w2.heap.size w2.heap.size bv (Lib.byteCells (83 :: (tabText set tabs k ++ exText (zs.take j)))) wk ∧ ∀ q, bv.ownBlock = some q → q < wE.heap.size ∨ wC.heap.size ≤ q) (fun i _ => zs.length - (intOf i).toNat)
          case atStart => exact ⟨0, Nat.zero_le _, rfl, HGWC.out, Nat.le_refl _, HL4.out, bv, by simpa [exText] using HBV.out, fun q hq => .inl (by have := HBL.out q hq; omega)⟩
          case round =>
            obtain ⟨j, hj, rfl, hGk, hsk, hLk, bv, hBk, hqk⟩ := hrel
            by_cases hlt : j < zs.length
            · obtain ⟨hlen9, bA, off, rfl, hcA⟩ := hLk.elem j hlt
              obtain ⟨A', cap', hcs⟩ := (hLk.hl j hlt).shape
              have hcc : ∀ i v, (cells zs[j] A' cap')[i]? = some v → wr.cell? ((⟨bA, off + j * 9, none⟩ : Addr).add i) = some v := fun i v h => by rw [Addr.add_lit]; exact hcA i v (by rw [hcs]; exact h)
              have hRk := hLk.hl j hlt
              rw [hcs] at hRk
              have hxt : exText (zs.take (j + 1)) = exText (zs.take j) ++ ((textF zs[j]).data.toList ++ [59]) := by rw [List.take_succ_eq_append_getElem hlt, exText_snoc]
              have hxl := exText_le hLk j hj
              have HCC := Lib.hid hcc; have HRK := Lib.hid hRk; have HLK := Lib.hid hLk; have HGK := Lib.hid hGk; have HBK := Lib.hid hBk; have HQK := Lib.hid hqk
              clear hcc hRk hcA hlen9 hcs hLk hGk hBk hqk
              generalize zs[j] = x at HCC HRK hxt
              have HXT := Lib.hid hxt; have HXL := Lib.hid hxl; clear hxt hxl
              go_upto_region 23 with (refine wpList_load_list rfl 39 (.tmp 95) rfl ⟨bA, off + j * 9, none⟩ rfl (cells x A' cap') _ Tryd.underlying39 rfl (by kernel_rfl) HCC.out ?_; simp only [cells])
              have hb := Blk.new wr (cells x A' cap').toArray 39
              have hga := (Ext.refl (fun _ => False) wr).alloc (.cells (cells x A' cap').toArray 39)
              simp only [cells] at hb hga
              generalize wr.alloc _ = wa at hb hga ⊢
              have hT := sign_text _ x _ wa (HRK.out.gro hga) (HTAB.out.gro (HGK.out.same hga))
              simp only [cells] at hT
              have e0 := hb.cell 0; have e1 := hb.cell 1; have e2 := hb.cell 2; have e3 := hb.cell 3; have e4 := hb.cell 4; have e5 := hb.cell 5; have e6 := hb.cell 6; have e7 := hb.cell 7; have e8 := hb.cell 8
              simp at e0 e1 e2 e3 e4 e5 e6 e7 e8
              have l1 := hb.lt
              have htl := textF_le HRK.out
              have hsz1 : (textF x).size + 1 ≤ 9223372036854775807 := by omega
              have htx := tabText_le set tabs hi k
              have hne0 : Lib.byteCells (83 :: (tabText set tabs k ++ exText (zs.take j))) ≠ [] := by intro h; have := congrArg List.length h; rw [Lib.byteCells_length] at this; simp at this
              have hbytes : (Lib.byteCells (83 :: (tabText set tabs k ++ exText (zs.take j)))).length + (textF x ++ (⟨#[59]⟩ : ByteArray)).size ≤ 140737488355328 := by
                have := HXL.out
                rw [Lib.byteCells_length]
                simp only [List.length_cons, List.length_append, ByteArray.size_append]
                have : (⟨#[59]⟩ : ByteArray).size = 1 := rfl
                omega
              have HT2 := Lib.hid hT; have HGA := Lib.hid hga; have HNE0 := Lib.hid hne0; have HBY := Lib.hid hbytes
              clear hT hga hb htx hne0 hbytes
              go_upto_region 24 with (first
                | (go_at_call 25; refine HT2.out.mono ?_; rintro r wt ⟨rfl, hgt⟩; have HGT := Lib.hid hgt; clear hgt e0 e1 e2 e3 e4 e5 e6 e7 e8 l1)
                | (go_at_call 20; refine (WriteStringV w2.heap.size w2.heap.size bv _ (textF x ++ (⟨#[59]⟩ : ByteArray)) _ (HBK.out.gro (HGA.out.same HGT.out)) HNE0.out HBY.out).mono ?_; rintro r w8 ⟨rfl, bv', hb8, hw8, hx8⟩; have HB8 := Lib.hid hb8; have HW8 := Lib.hid hw8; have HX8 := Lib.hid hx8; clear hb8 hw8 hx8))
              have hgkt := HGA.out.same HGT.out
              have hb2w : w.heap.size ≤ w2.heap.size := hle2
              have hbv2 := HBK.out.lt
              have hG8 : Gro w w8 := (HGK.out.same hgkt).trans HX8.out (fun i hi h => by
                rcases h with rfl | h
                · omega
                · have := (hbv2 i h).1; omega)
              have hsz8 := HX8.out.size
              have hszt := hgkt.size
              have hL8 : LRep w8 (fun b => wE.heap.size ≤ b ∧ b < wC.heap.size) (some ⟨bA, off, none⟩) zs css4 := (HLK.out.gro hgkt).ext HX8.out (fun b hb _ h => by
                rcases h with rfl | h
                · have := hb.1; omega
                · have := HQK.out b h; have := hb.1; have := hb.2; omega)
              have HL8 := Lib.hid hL8; have HG8 := Lib.hid hG8; clear hL8 hG8
              go_wp2_with fail
              go_roundw
              case rel =>
                refine ⟨j + 1, by omega, by go_num, HG8.out, by omega, HL8.out, bv', ?_, fun q hq => ?_⟩
                · have := HB8.out
                  rw [cat_semi, ← byteCells_append] at this
                  rw [HXT.out]
                  simpa using this
                · rcases HW8.out with e | e
                  · exact HQK.out q (e ▸ hq)
                  · rw [e] at hq; injection hq with hq; right; omega
              case measure => simp [intOf]; omega
            · obtain rfl : j = zs.length := by omega
              rw [List.take_length] at hBk
              have hBS := BString w2.heap.size w2.heap.size (83 :: (tabText set tabs k ++ exText zs)) wr hBk.of (by simp)
              have HBS := Lib.hid hBS; have HGK := Lib.hid hGk; clear hBS hGk hBk hLk hqk
              go_wp2_with (go_at_call 26; refine HBS.out.mono ?_; rintro r w9 ⟨rfl, hx9⟩; have HX9 := Lib.hid hx9; clear hx9)
              go_ret2
              refine ⟨BExt.toGro HGK.out hle2 hle2 HX9.out, .inr ⟨HGOOD.out, HALL.out, zs, ?_, rfl⟩⟩
              have := HREL.out
              rw [HIS.out] at this
              simpa [ofExprs] using this
    · have HALL := Lib.hid hall; clear hall HRES
      go_wp2_with fail
      go_ret2
      exact ⟨HW.out.same HG2.out, .inl ⟨.inr HALL.out, rfl⟩⟩
  · have h5' : (set / 2 ^ core.toNat != 0) = true := by simp [h5]
    go_wp2_with fail
    go_ret2
    exact ⟨HW.out, .inl ⟨.inl (by simp [badOf, h5]), rfl⟩⟩
end Go.Proofs.YtgikebkgihcogaaDoor
