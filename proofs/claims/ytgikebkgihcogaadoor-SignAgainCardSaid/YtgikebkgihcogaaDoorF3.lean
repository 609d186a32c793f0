/- The reference's Digits: a number's decimal numeral. -/
import Derived.Test.YtgikebkgihcogaaDoorF1
import Derived.Laws.IdiomStrings
import Derived.Lib.ItoaMem
namespace Go.Proofs.YtgikebkgihcogaaDoor
open Go.RowKit Go.Sort
set_option maxHeartbeats 1000000

/-- v is a slice of the call's own (from base on) that holds these bytes. -/
def Byts (w : World) (base : Nat) (v : Value) (bs : List UInt8) : Prop := w.ownsRow base 5 1 v bs.length (bs.map fun b => Value.int .u8 (b.toNat : Int))
theorem Byts.nil (w : World) (base : Nat) : Byts w base (.slice none 0 0) [] := World.ownsRow_nil _ _ _ _
theorem Byts.gro {w w' : World} {base : Nat} {v : Value} {bs : List UInt8} (h : Byts w base v bs) (hx : Gro w w') : Byts w' base v bs :=
  World.ownsRow.kept h (row := none) ⟨hx.os, hx.tape, hx.output, hx.size, fun k hk _ => hx.block k hk id⟩ (by cases v.ownBlock <;> simp)
theorem Byts.own_base {w : World} {base : Nat} {v : Value} {bs : List UInt8} (h : Byts w base v bs) (k : Nat) (hk : v.ownBlock = some k) : base ≤ k := (h.lt k hk).1
theorem Byts.read {w : World} {base : Nat} {v : Value} {bs : List UInt8} (h : Byts w base v bs) : ∃ A cap, v = .slice A bs.length cap ∧ bs.length ≤ cap ∧ cap ≤ maxLen ∧
    (0 < bs.length → ∃ g, A = some ⟨g, 0, none⟩ ∧ g < w.heap.size ∧ ∀ j b, bs[j]? = some b → w.cell? ⟨g, j, none⟩ = some (.int .u8 (b.toNat : Int))) := by
  have hc := fun g (hg : v.ownBlock = some g) j x hx => World.ownsRow.cells (g := g) h hg j x hx
  have hlt := h.lt
  rcases h.2 with ⟨rfl, hn⟩ | ⟨g, cap, cur, rfl, hb, hg, hnc, hcm, hcs, htake⟩
  · exact ⟨none, 0, by rw [hn], by omega, by unfold maxLen; omega, fun hp => by omega⟩
  · refine ⟨some ⟨g, 0, none⟩, cap, rfl, hnc, hcm, fun _ => ⟨g, rfl, (hlt g rfl).2, fun j x hx => ?_⟩⟩
    have := hc g rfl j (.int .u8 (x.toNat : Int)) (by rw [List.getElem?_map, hx]; rfl)
    rw [Addr.add_lit] at this
    simpa using this
theorem Byts.append {w : World} {base : Nat} {v : Value} {bs : List UInt8} (h : Byts w base v bs) (b : UInt8) (hbase : base ≤ w.heap.size) (hlen : bs.length + 1 ≤ 140737488355328) :
    ∃ v' w', (Builtin.append_ #[52, 52] 52 #[v, .slice (some ⟨w.heap.size, 0, none⟩) 1 1]).run Tryd.prog (w.alloc (.cells #[.int .u8 (b.toNat : Int)] 5)) = .ok v' w' ∧ Byts w' base v' (bs ++ [b]) ∧ Ext (fun k => v.ownBlock = some k) w w' := by
  obtain ⟨i0, hi, hz0, hz1, hz2⟩ := info_parts info_byte
  have hB := Blk.new w #[.int .u8 (b.toNat : Int)] 5
  obtain ⟨v', w', hrun, hown, hgrow, _, hat⟩ := run_append_own_at (P := Tryd.prog) (w.alloc (.cells #[.int .u8 (b.toNat : Int)] 5)) base 52 52 5 i0 _ 1 1 Tryd.underlying52 hi hz0 hz1 hz2 rfl (by decide) v bs.length _ (World.ownsRow.alloc h _)
    ⟨w.heap.size, 0, none⟩ 1 1 [.int .u8 (b.toNat : Int)] rfl (fun j u hu => by rw [Addr.add_lit, hB.cell]; simpa using hu) (by simp [Value.oneCell']) (by unfold maxLen; omega) (by omega) (by simp; omega)
  have hdr := run_drawn _ _ _ _ _ hrun
  have hx : Ext (fun k => v.ownBlock = some k) (w.alloc (.cells #[.int .u8 (b.toNat : Int)] 5)) w' := ⟨hgrow.os, hgrow.tape, hgrow.output, hgrow.size, hdr, fun k hk hn => hgrow.block k hk (fun e => hn e.symm)⟩
  exact ⟨v', w', hrun, by unfold Byts; simpa using hown, ((Ext.refl _ w).alloc _).same hx⟩
theorem dig_byte (q : Nat) : (((UInt8.ofNat (48 + q % 10)).toNat : Nat) : Int) = 48 + (q : Int) % 10 := by
  have : (UInt8.ofNat (48 + q % 10)).toNat = 48 + q % 10 := by
    rw [UInt8.toNat_ofNat']; omega
  rw [this]; omega

theorem take_snocD {α : Type} (l : List α) (k : Nat) (h : k < l.length) : l.take (k + 1) = l.take k ++ [l[k]] := List.take_succ_eq_append_getElem h

set_option maxRecDepth 100000 in
theorem ref_Digits_pos (u : Nat) (h1 : 1 ≤ u) (h2 : u ≤ 9223372036854775807) (w : World) :
    Calls Tryd.prog 28 #[.int .i64 ((u : Int))] w fun r w' => r = .returned (.string ⟨(Lib.itoa ((u : Int))).toArray⟩) ∧ Gro w w' := by
  have hu0 : (((u : Int)) == 0) = false := beq_eq_false_iff_ne.2 (by omega)
  have hneg : ¬ ((u : Int)) < 0 := by omega
  go_enter Tryd.func28, Tryd.ntmps28
  go_wp2_with fail
  go_loopw [3, 4] (fun v m wr => ∃ k q : Nat, Hid (q = u / 10 ^ k) ∧ Hid (∀ j, k = j + 1 → u / 10 ^ j ≠ 0) ∧ q ≤ u ∧ k ≤ 20 ∧ m = .int .i64 (q : Int) ∧ Byts wr w.heap.size v (revDig u k) ∧ Gro w wr) (fun _ m _ => (intOf m).natAbs)
  case atStart => exact ⟨0, u, Lib.hid (by simp), Lib.hid (fun j h => by omega), Nat.le_refl _, by omega, rfl, Byts.nil _ _, Ext.refl _ _⟩
  case round =>
    obtain ⟨k, q, HQ, HJ, hqu, hk, rfl, hB, hG⟩ := hrel
    have HB := Lib.hid hB; have HG := Lib.hid hG; clear hB hG
    by_cases hq : q = 0
    · subst hq
      have hm0 : ((((0 : Nat) : Int)) != 0) = false := by simp
      obtain ⟨j, rfl⟩ : ∃ j, k = j + 1 := by
        cases k with
        | zero => have := HQ.out; simp at this; omega
        | succ j => exact ⟨j, rfl⟩
      have hlo : 10 ^ j ≤ u := by
        rcases Nat.lt_or_ge u (10 ^ j) with h | h
        · exact absurd (Nat.div_eq_of_lt h) (HJ.out j rfl)
        · exact h
      have hhi : u < 10 ^ (j + 1) := by
        rcases Nat.lt_or_ge u (10 ^ (j + 1)) with h | h
        · exact h
        · have := Nat.div_pos h (Nat.pow_pos (by decide)); have := HQ.out; omega
      have hdec := decDigits_rev j u hlo hhi
      have hlen := revDig_len (j + 1) u
      obtain ⟨A, cap, rfl, hlc, hcm, hcell⟩ := HB.out.read
      rw [hlen] at hlc hcell ⊢
      obtain ⟨g, rfl, hgl, hc⟩ := hcell (by omega)
      obtain ⟨R, hR⟩ : ∃ R, R = (revDig u (j + 1)).reverse := ⟨_, rfl⟩
      have hRl : R.length = j + 1 := by rw [hR, List.length_reverse, hlen]
      have hRc : ∀ m t b, m + t = j → R[t]? = some b → wr.cell? ⟨g, m, none⟩ = some (.int .u8 (b.toNat : Int)) := fun m t b hmt hb => by
        apply hc
        rw [hR, List.getElem?_reverse (by omega), hlen] at hb
        rw [← hb]; congr 1; omega
      have HR := Lib.hid hR; have HDEC := Lib.hid hdec; have HRL := Lib.hid hRl; have HRC := Lib.hid hRc
      unfold maxLen at hcm
      clear hR hdec hRl hRc hc hcell hlo hhi hlen HJ HB HQ
      go_wp2_with fail
      go_loopw [6, 7] (fun o i wx => ∃ (t : Nat) (X : ByteArray), t ≤ j + 1 ∧ o = .string X ∧ Hid (X.data.toList = ([] : List UInt8) ++ R.take t) ∧ X.size ≤ t + 1 ∧ i = .int .i64 ((j : Int) - t) ∧ wx = wr) (fun _ i _ => (intOf i + 1).toNat)
      case atStart => exact ⟨0, _, by omega, rfl, Lib.hid (by simp), by decide, by go_num, rfl⟩
      case round =>
        obtain ⟨t, X, ht, rfl, HXL, hxs, rfl, rfl⟩ := hrel
        by_cases htj : t ≤ j
        · obtain ⟨m, hm⟩ : ∃ m : Nat, (j : Int) - t = m := ⟨j - t, by omega⟩
          rw [hm]
          have hmj : m + t = j := by omega
          have hml : m < j + 1 := by omega
          have htl : t < R.length := by rw [HRL.out]; omega
          have hcc := HRC.out m t R[t] hmj (List.getElem?_eq_getElem htl)
          have hcv := run_convert_bytes_back (P := Tryd.prog) wr 52 9 5 ⟨g, m, none⟩ (cap - m) [R[t]] Tryd.underlying52 Tryd.underlying5 Tryd.underlying9 (fun i hi => by
            have : i = 0 := by simpa using hi
            subst this; rw [Addr.add_lit]; exact hcc)
          simp only [List.length_cons, List.length_nil, Nat.zero_add] at hcv
          have HT := Lib.hid (take_snocD R t htl)
          generalize R[t] = b at hcv HT
          have HM := Lib.hid hm; have HMJ := Lib.hid hmj
          clear hm hmj hcc htl
          have hx1 : X.size + 1 ≤ 9223372036854775807 := by omega
          go_wp2_with fail
          go_roundw
          case rel =>
            refine ⟨t + 1, _, by omega, rfl, Lib.hid ?_, ?_, congrArg (Value.int .i64) (by have := HM.out; omega), trivial⟩
            · rw [HT.out, ← List.append_assoc, ← HXL.out]; simp
            · have : (X ++ (⟨#[b]⟩ : ByteArray)).size = X.size + 1 := by simp; rfl
              first | (rw [this]; omega) | (simp; omega)
          case measure => simp [intOf]
        · obtain rfl : t = j + 1 := by omega
          have hlt0 : (j : Int) - ((j + 1 : Nat) : Int) < 0 := by omega
          go_wp2_with fail
          go_ret
          refine ⟨?_, HG.out⟩
          have hX : X.data.toList = Lib.itoa ((u : Int)) := by
            rw [HXL.out, List.take_of_length_le (by rw [HRL.out]; omega), HR.out, ← HDEC.out]
            rw [Lib.itoa_nonneg u]; rfl
          have hXe : X = ⟨(Lib.itoa ((u : Int))).toArray⟩ := by rw [← hX]
          rw [← hXe]; rfl
    · have hq0 : (((q : Int)) != 0) = true := by simp [hq]
      have hd0 : 0 ≤ (q : Int) % 10 := by omega
      have hd9 : (q : Int) % 10 < 10 := by omega
      have hk19 : k < 19 := by
        rcases Nat.lt_or_ge k 19 with h | h
        · exact h
        · exfalso
          have h10 : 10 ^ 19 ≤ 10 ^ k := Nat.pow_le_pow_right (by decide) h
          apply hq
          rw [HQ.out]
          exact Nat.div_eq_of_lt (Nat.lt_of_lt_of_le (by omega) h10)
      have hlen : (revDig u k).length = k := revDig_len k u
      obtain ⟨v', w2, hrun, hB2, hx2⟩ := HB.out.append (UInt8.ofNat (48 + q % 10)) (HG.out.size) (by omega)
      rw [dig_byte] at hrun
      have hob := HB.out.own_base
      have hG2 : Gro w w2 := HG.out.trans hx2 (fun i hi e => by have := hob i e; omega)
      have HRUN := Lib.hid hrun; have HB2 := Lib.hid hB2; have HG2 := Lib.hid hG2; have HQ0 := Lib.hid hq
      clear hrun hB2 hG2 hx2 hob hlen hq
      go_wp2_with (at_builtin; refine wpList_append_run rfl _ _ 52 52 rfl _ _ rfl rfl _ _ HRUN.out ?_)
      go_roundw
      case rel =>
        refine ⟨k + 1, q / 10, Lib.hid ?_, Lib.hid ?_, by omega, by omega, by go_num, ?_, HG2.out⟩
        · rw [HQ.out, Nat.pow_succ, Nat.div_div_eq_div_mul]
        · intro j hj
          obtain rfl : j = k := by omega
          rw [← HQ.out]; exact HQ0.out
        · rw [revDig_snoc, ← HQ.out]; exact HB2.out
      case measure => have := HQ0.out; simp [intOf]; omega
set_option maxRecDepth 100000 in
theorem ref_Digits_neg (u : Nat) (h1 : 1 ≤ u) (h2 : u ≤ 9223372036854775808) (w : World) :
    Calls Tryd.prog 28 #[.int .i64 (-(u : Int))] w fun r w' => r = .returned (.string ⟨(Lib.itoa (-(u : Int))).toArray⟩) ∧ Gro w w' := by
  have hu0 : ((-(u : Int)) == 0) = false := beq_eq_false_iff_ne.2 (by omega)
  have hneg : (-(u : Int)) < 0 := by omega
  have hneg' : 0 < u := by omega
  go_enter Tryd.func28, Tryd.ntmps28
  go_wp2_with fail
  go_loopw [3, 4] (fun v m wr => ∃ k q : Nat, Hid (q = u / 10 ^ k) ∧ Hid (∀ j, k = j + 1 → u / 10 ^ j ≠ 0) ∧ q ≤ u ∧ k ≤ 20 ∧ m = .int .i64 (-(q : Int)) ∧ Byts wr w.heap.size v (revDig u k) ∧ Gro w wr) (fun _ m _ => (intOf m).natAbs)
  case atStart => exact ⟨0, u, Lib.hid (by simp), Lib.hid (fun j h => by omega), Nat.le_refl _, by omega, rfl, Byts.nil _ _, Ext.refl _ _⟩
  case round =>
    obtain ⟨k, q, HQ, HJ, hqu, hk, rfl, hB, hG⟩ := hrel
    have HB := Lib.hid hB; have HG := Lib.hid hG; clear hB hG
    by_cases hq : q = 0
    · subst hq
      have hm0 : (((-((0 : Nat) : Int))) != 0) = false := by simp
      obtain ⟨j, rfl⟩ : ∃ j, k = j + 1 := by
        cases k with
        | zero => have := HQ.out; simp at this; omega
        | succ j => exact ⟨j, rfl⟩
      have hlo : 10 ^ j ≤ u := by
        rcases Nat.lt_or_ge u (10 ^ j) with h | h
        · exact absurd (Nat.div_eq_of_lt h) (HJ.out j rfl)
        · exact h
      have hhi : u < 10 ^ (j + 1) := by
        rcases Nat.lt_or_ge u (10 ^ (j + 1)) with h | h
        · exact h
        · have := Nat.div_pos h (Nat.pow_pos (by decide)); have := HQ.out; omega
      have hdec := decDigits_rev j u hlo hhi
      have hlen := revDig_len (j + 1) u
      obtain ⟨A, cap, rfl, hlc, hcm, hcell⟩ := HB.out.read
      rw [hlen] at hlc hcell ⊢
      obtain ⟨g, rfl, hgl, hc⟩ := hcell (by omega)
      obtain ⟨R, hR⟩ : ∃ R, R = (revDig u (j + 1)).reverse := ⟨_, rfl⟩
      have hRl : R.length = j + 1 := by rw [hR, List.length_reverse, hlen]
      have hRc : ∀ m t b, m + t = j → R[t]? = some b → wr.cell? ⟨g, m, none⟩ = some (.int .u8 (b.toNat : Int)) := fun m t b hmt hb => by
        apply hc
        rw [hR, List.getElem?_reverse (by omega), hlen] at hb
        rw [← hb]; congr 1; omega
      have HR := Lib.hid hR; have HDEC := Lib.hid hdec; have HRL := Lib.hid hRl; have HRC := Lib.hid hRc
      unfold maxLen at hcm
      clear hR hdec hRl hRc hc hcell hlo hhi hlen HJ HB HQ
      go_wp2_with fail
      go_loopw [6, 7] (fun o i wx => ∃ (t : Nat) (X : ByteArray), t ≤ j + 1 ∧ o = .string X ∧ Hid (X.data.toList = [45] ++ R.take t) ∧ X.size ≤ t + 1 ∧ i = .int .i64 ((j : Int) - t) ∧ wx = wr) (fun _ i _ => (intOf i + 1).toNat)
      case atStart => exact ⟨0, _, by omega, rfl, Lib.hid (by simp), by decide, by go_num, rfl⟩
      case round =>
        obtain ⟨t, X, ht, rfl, HXL, hxs, rfl, rfl⟩ := hrel
        by_cases htj : t ≤ j
        · obtain ⟨m, hm⟩ : ∃ m : Nat, (j : Int) - t = m := ⟨j - t, by omega⟩
          rw [hm]
          have hmj : m + t = j := by omega
          have hml : m < j + 1 := by omega
          have htl : t < R.length := by rw [HRL.out]; omega
          have hcc := HRC.out m t R[t] hmj (List.getElem?_eq_getElem htl)
          have hcv := run_convert_bytes_back (P := Tryd.prog) wr 52 9 5 ⟨g, m, none⟩ (cap - m) [R[t]] Tryd.underlying52 Tryd.underlying5 Tryd.underlying9 (fun i hi => by
            have : i = 0 := by simpa using hi
            subst this; rw [Addr.add_lit]; exact hcc)
          simp only [List.length_cons, List.length_nil, Nat.zero_add] at hcv
          have HT := Lib.hid (take_snocD R t htl)
          generalize R[t] = b at hcv HT
          have HM := Lib.hid hm; have HMJ := Lib.hid hmj
          clear hm hmj hcc htl
          have hx1 : X.size + 1 ≤ 9223372036854775807 := by omega
          go_wp2_with fail
          go_roundw
          case rel =>
            refine ⟨t + 1, _, by omega, rfl, Lib.hid ?_, ?_, congrArg (Value.int .i64) (by have := HM.out; omega), trivial⟩
            · rw [HT.out, ← List.append_assoc, ← HXL.out]; simp
            · have : (X ++ (⟨#[b]⟩ : ByteArray)).size = X.size + 1 := by simp; rfl
              first | (rw [this]; omega) | (simp; omega)
          case measure => simp [intOf]
        · obtain rfl : t = j + 1 := by omega
          have hlt0 : (j : Int) - ((j + 1 : Nat) : Int) < 0 := by omega
          go_wp2_with fail
          go_ret
          refine ⟨?_, HG.out⟩
          have hX : X.data.toList = Lib.itoa (-(u : Int)) := by
            rw [HXL.out, List.take_of_length_le (by rw [HRL.out]; omega), HR.out, ← HDEC.out]
            rw [Lib.itoa_neg u h1]; rfl
          have hXe : X = ⟨(Lib.itoa (-(u : Int))).toArray⟩ := by rw [← hX]
          rw [← hXe]; rfl
    · have hq0 : (((-(q : Int))) != 0) = true := by simp [hq]
      have hd0 : 0 ≤ (q : Int) % 10 := by omega
      have hd9 : (q : Int) % 10 < 10 := by omega
      have hmod : Int.tmod (-(q : Int)) 10 = -((q : Int) % 10) := by rw [Int.neg_tmod, Int.tmod_eq_emod_of_nonneg (by omega)]
      have hdiv : Int.tdiv (-(q : Int)) 10 = -((q : Int) / 10) := by rw [Int.neg_tdiv, Int.tdiv_eq_ediv_of_nonneg (by omega)]
      clear hmod hdiv
      have hk19 : k < 19 := by
        rcases Nat.lt_or_ge k 19 with h | h
        · exact h
        · exfalso
          have h10 : 10 ^ 19 ≤ 10 ^ k := Nat.pow_le_pow_right (by decide) h
          apply hq
          rw [HQ.out]
          exact Nat.div_eq_of_lt (Nat.lt_of_lt_of_le (by omega) h10)
      have hlen : (revDig u k).length = k := revDig_len k u
      obtain ⟨v', w2, hrun, hB2, hx2⟩ := HB.out.append (UInt8.ofNat (48 + q % 10)) (HG.out.size) (by omega)
      rw [dig_byte] at hrun
      have hob := HB.out.own_base
      have hG2 : Gro w w2 := HG.out.trans hx2 (fun i hi e => by have := hob i e; omega)
      have HRUN := Lib.hid hrun; have HB2 := Lib.hid hB2; have HG2 := Lib.hid hG2; have HQ0 := Lib.hid hq
      clear hrun hB2 hG2 hx2 hob hlen hq
      go_upto_region 7 with (fail)
      by_cases hz : q % 10 = 0
      · have hz' : (q : Int) % 10 = 0 := by omega
        have hrun := HRUN.out
        rw [hz'] at hrun
        have HRUN0 := Lib.hid hrun; clear hrun
        go_wp2_with (at_builtin; refine wpList_append_run rfl _ _ 52 52 rfl _ _ rfl rfl _ _ HRUN0.out ?_)
        go_roundw
        case rel =>
          refine ⟨k + 1, q / 10, Lib.hid ?_, Lib.hid ?_, by omega, by omega, congrArg (Value.int .i64) (by omega), ?_, HG2.out⟩
          · rw [HQ.out, Nat.pow_succ, Nat.div_div_eq_div_mul]
          · intro j hj
            obtain rfl : j = k := by omega
            rw [← HQ.out]; exact HQ0.out
          · rw [revDig_snoc, ← HQ.out]; exact HB2.out
        case measure => have := HQ0.out; simp [intOf]; omega
      · have hz' : -((q : Int) % 10) < 0 := by omega
        go_wp2_with (at_builtin; refine wpList_append_run rfl _ _ 52 52 rfl _ _ rfl rfl _ _ HRUN.out ?_)
        go_roundw
        case rel =>
          refine ⟨k + 1, q / 10, Lib.hid ?_, Lib.hid ?_, by omega, by omega, congrArg (Value.int .i64) (by omega), ?_, HG2.out⟩
          · rw [HQ.out, Nat.pow_succ, Nat.div_div_eq_div_mul]
          · intro j hj
            obtain rfl : j = k := by omega
            rw [← HQ.out]; exact HQ0.out
          · rw [revDig_snoc, ← HQ.out]; exact HB2.out
        case measure => have := HQ0.out; simp [intOf]; omega
theorem ref_Digits (n : Int) (hn : I64 n) (w : World) :
    Calls Tryd.prog 28 #[.int .i64 n] w fun r w' => r = .returned (.string ⟨(Lib.itoa n).toArray⟩) ∧ Gro w w' := by
  unfold I64 at hn
  rcases Int.lt_trichotomy n 0 with h | rfl | h
  · obtain ⟨u, rfl⟩ : ∃ u : Nat, n = -(u : Int) := ⟨n.natAbs, by omega⟩
    exact ref_Digits_neg u (by omega) (by omega) w
  · have hi : Lib.itoa 0 = [48] := by kernel_rfl
    rw [hi]
    go_enter Tryd.func28, Tryd.ntmps28
    go_wp2_with fail
    go_ret
    exact ⟨rfl, Ext.refl _ _⟩
  · obtain ⟨u, rfl⟩ : ∃ u : Nat, n = (u : Int) := ⟨n.toNat, by omega⟩
    exact ref_Digits_pos u (by omega) (by omega) w
end Go.Proofs.YtgikebkgihcogaaDoor
