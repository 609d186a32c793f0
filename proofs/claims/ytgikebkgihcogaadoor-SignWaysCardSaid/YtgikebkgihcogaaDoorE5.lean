/- SignWays: the walk. -/
import Derived.Test.YtgikebkgihcogaaDoorE4
namespace Go.Proofs.YtgikebkgihcogaaDoor
open Go.RowKit Go.Sort
set_option maxHeartbeats 1000000

def bzero : Array Value := #[.slice none 0 0, .int .i64 0, .slice none 0 0, .slice none 0 0, .slice none 0 0, .slice none 0 0, .slice none 0 0, .bool false, .slice none 0 0, .slice none 0 0, .bool false]

set_option maxRecDepth 100000 in
theorem law_SignWays (w : World) (ok : Nat → Prop) (TA A : Option Addr) (tc cap : Nat) (tabs : List Int) (core set which : Int) (conds : List Ex) (css : Nat → List Value) (kr : BRest) (hkr : kr.One)
    (hT : IRep w ok TA tabs) (hL : LRep w ok A conds css) (hcap : conds.length ≤ cap) (hmax : cap ≤ maxLen) (hnil : A = none → cap = 0) (ht : Tab w) (hi : ∀ x ∈ tabs, I64 x) (hcore : I64 core) (hset : I64 set) (hwh : I64 which) :
    Calls Tryd.prog 5 #[.agg (bcells (.slice TA tabs.length tc) core (.slice A conds.length cap) kr), .int .i64 set, .int .i64 which] w fun r w' => r = .returned (.bool true) ∧ Gro w w' := by
  have HT := Lib.hid hT; have HL := Lib.hid hL; have HTAB := Lib.hid ht; have HWH := Lib.hid hwh; clear hT hL ht hwh
  unfold maxLen at hmax
  simp only [bcells]
  go_enter Tryd.func5, Tryd.ntmps5
  go_upto_region 1 with (fail)
  have hB := Blk.new w (bcells (.slice TA tabs.length tc) core (.slice A conds.length cap) kr) 26
  have hW := (Ext.refl (fun _ => False) w).alloc (.cells (bcells (.slice TA tabs.length tc) core (.slice A conds.length cap) kr) 26)
  simp only [bcells] at hW hB
  generalize w.alloc _ = w1 at hW hB ⊢
  have HB := Lib.hid hB; have HW := Lib.hid hW; clear hB hW
  go_upto_region 2 with (go_at_call 7; refine (law_examples _ (HTAB.out.gro HW.out)).mono ?_; rintro r w2 ⟨rfl, hg2⟩; have HG2 := Lib.hid hg2; clear hg2)
  have hB2 := HB.out.ext HG2.out id
  have hG2 := HW.out.same HG2.out
  have hs1 : w.heap.size < w1.heap.size := HB.out.lt
  have HB2 := Lib.hid hB2; have HGW2 := Lib.hid hG2
  have c4 := hB2.cell 4; have z4 := hB2.thaw 4
  simp at c4
  have l2 := hB2.lt
  clear hB2 hG2
  go_cut [] (fun wx => Blk wx w.heap.size (bcells (.slice TA tabs.length tc) core (.slice A (conds.take 12).length cap) kr) 26 ∧ Ext (· = w.heap.size) w wx)
  case first =>
    have hB3 := HB2.out
    have hlen : (min (conds.length : Int) 12).toNat = (conds.take 12).length := by rw [List.length_take]; omega
    have HLEN := Lib.hid hlen; clear hlen
    have hfin : Blk (w2.setCell ⟨w.heap.size, 4, none⟩ (.slice A (conds.take 12).length cap)) w.heap.size (bcells (.slice TA tabs.length tc) core (.slice A (conds.take 12).length cap) kr) 26 := by
      have := hB3.setCell 4 (.slice A (conds.take 12).length cap)
      simpa [bcells] using this
    have HFIN := Lib.hid hfin
    have HEXT := Lib.hid (((HGW2.out).mono (S' := (· = w.heap.size)) fun _ _ h => h.elim).setCell ⟨w.heap.size, 4, none⟩ (.slice A (conds.take 12).length cap) (fun _ => rfl))
    clear hB3 hfin
    cases A with
    | none =>
      obtain rfl : cap = 0 := hnil rfl
      obtain rfl : conds = [] := List.eq_nil_of_length_eq_zero (by omega)
      clear hnil hcap hmax
      go_wp2_with fail
      go_meet
      exact ⟨HFIN.out, HEXT.out⟩
    | some a =>
      clear hnil
      go_wp2_with fail
      go_meet
      rw [HLEN.out]
      exact ⟨HFIN.out, HEXT.out⟩
  case rest =>
    obtain ⟨hB3, hx3⟩ := hcut
    clear c4 z4 l2 hnil
    have hg3 : Gro w wc := hx3.mono fun i hi e => by omega
    have hL3 := HL.out.take 12
    have hn12 : (conds.take 12).length ≤ 12 := by rw [List.length_take]; omega
    have hncap : (conds.take 12).length ≤ cap := by rw [List.length_take]; omega
    generalize conds.take 12 = xs at hB3 hL3 hn12 hncap
    clear HL
    have hOf1 := (sign_Of wc ok TA A tc cap tabs core set xs css kr (HT.out.gro hg3) (hL3.gro hg3) (HTAB.out.gro hg3) (by omega) hi hcore hset).mono fun r w' h => OfPost.val h
    have HB3 := Lib.hid hB3; have HL3 := Lib.hid hL3; have HG3 := Lib.hid hg3; have HOF1 := Lib.hid hOf1
    simp only [bcells] at hB3
    clear hx3 hB3 hL3 hg3 hOf1
    go_upto_region 4 with (first
      | (refine wpList_load_row rfl 26 (.tmp 3) rfl w.heap.size rfl 26 _ (0, 0) _ HB3.out Tryd.underlying26 rfl (by kernel_rfl) ?_)
      | (go_at_call 11; refine Calls.mono HOF1.out ?_; rintro r w4 ⟨S, er, rfl, hv1, hg4⟩; have HV1 := Lib.hid hv1; have HG4 := Lib.hid hg4; clear hv1 hg4))
    have hB4 := HB3.out.ext HG4.out id
    have HB4 := Lib.hid hB4; clear hB4
    have HZ := Lib.hid (Blk.new w4 bzero 26)
    go_upto_region 5 with (first
      | (refine wpList_load_row rfl 26 (.tmp 3) rfl w.heap.size rfl 26 _ (0, 0) _ HB4.out Tryd.underlying26 rfl (by kernel_rfl) ?_)
      | (refine wpList_store_row rfl 26 (.tmp 10) (.tmp 30) rfl w4.heap.size (bcells (.slice TA tabs.length tc) core (.slice A xs.length cap) kr) rfl rfl 26 _ HZ.out (by kernel_rfl) rfl (hkr _ _ _ rfl rfl) ?_))
    have hC5 := HZ.out.setRow (bcells (.slice TA tabs.length tc) core (.slice A xs.length cap) kr)
    have hx5 := ((Ext.refl (fun _ => False) w4).alloc (.cells bzero 26)).setRow w4.heap.size (bcells (.slice TA tabs.length tc) core (.slice A xs.length cap) kr) (fun h => by omega)
    have hs5 : ((w4.alloc (.cells bzero 26)).setRow w4.heap.size (bcells (.slice TA tabs.length tc) core (.slice A xs.length cap) kr)).heap.size = w4.heap.size + 1 := by simp [World.setRow]
    simp only [bzero] at hC5 hx5 hs5
    generalize (w4.alloc _).setRow _ _ = w5 at hC5 hx5 hs5 ⊢
    have c4 : w5.cell? ⟨w4.heap.size, 4, none⟩ = some (.slice A xs.length cap) := hC5.cell 4
    have z4 := hC5.thaw 4
    have l5 := hC5.lt
    have hB5 := HB4.out.ext hx5 id
    have HC5 := Lib.hid hC5; have HX5 := Lib.hid hx5; have HB5 := Lib.hid hB5; have HS5 := Lib.hid hs5
    clear hC5 hx5 hB5 hs5
    go_upto_region 6 with (fail)
    have hC6 : Blk (w5.setCell ⟨w4.heap.size, 4, none⟩ (.slice none 0 0)) w4.heap.size (bcells (.slice TA tabs.length tc) core (.slice none 0 0) kr) 26 := by
      have := HC5.out.setCell 4 (.slice none 0 0)
      simpa [bcells] using this
    have hx6 := (Ext.refl (· = w4.heap.size) w5).setCell ⟨w4.heap.size, 4, none⟩ (.slice none 0 0) (fun _ => rfl)
    have hs6 : (w5.setCell ⟨w4.heap.size, 4, none⟩ (.slice none 0 0)).heap.size = w4.heap.size + 1 := by rw [← HS5.out]; simp [World.setCell]
    clear c4 z4 l5
    generalize w5.setCell _ _ = w6 at hC6 hx6 hs6 ⊢
    have hG46 : Gro w4 w6 := (HX5.out.mono (S' := (· = w4.heap.size)) fun _ _ h => h.elim).same hx6 |>.mono (S' := fun _ => False) fun i hi e => by omega
    have hwb : w.heap.size < w4.heap.size := HB4.out.lt
    have hB6 : Blk w6 w.heap.size (bcells (.slice TA tabs.length tc) core (.slice A xs.length cap) kr) 26 := HB4.out.ext hG46 id
    obtain ⟨cb, hcb⟩ : ∃ n, n = w4.heap.size := ⟨_, rfl⟩
    rw [← hcb] at hC6 hs6 hwb ⊢
    have HCB := Lib.hid hcb; clear hcb
    have b4 : w6.cell? ⟨w.heap.size, 4, none⟩ = some (.slice A xs.length cap) := hB6.cell 4
    have hGw6 : Gro w w6 := (HG3.out.same HG4.out).same hG46
    have HC6 := Lib.hid hC6; have HB6 := Lib.hid hB6; have HGW6 := Lib.hid hGw6; have HS6 := Lib.hid hs6
    clear hC6 hx6 hB6 hGw6 hG46 hs6
    go_wp2_with fail
    go_loopw [11] (fun i wr => ∃ (k : Nat) (v : Value), k ≤ xs.length ∧ i = .int .i64 ((xs.length : Int) - 1 - k) ∧
      FieldSt (fun b => b < w.heap.size ∨ w6.heap.size ≤ b) w6 cb 4 w6.heap.size (fun v => bcells (.slice TA tabs.length tc) core v kr) 26 wr v (waysTo which xs k)) (fun i _ => (intOf i + 1).toNat)
    case atStart =>
      exact ⟨0, .slice none 0 0, by omega, by go_num, MadeK.nil _ _ _, HC6.out, Ext.refl _ _⟩
    case round =>
      obtain ⟨k, v, hk, rfl, hF⟩ := hrel
      have HF := Lib.hid hF; clear hF
      by_cases hlt : k < xs.length
      · obtain ⟨m, hm⟩ : ∃ m : Nat, (xs.length : Int) - 1 - k = m := ⟨xs.length - 1 - k, by omega⟩
        rw [hm]
        have hmlt : m < xs.length := by omega
        have hmk : m = xs.length - 1 - k := by omega
        have HMK := Lib.hid hmk; have HM := Lib.hid hm; clear hmk hm
        have hGr : Gro w wr := ((HGW6.out.mono (S' := (· = cb)) fun _ _ h => h.elim).same HF.out.ext).mono (S' := fun _ => False) fun i hi e => by omega
        have hBr := HB6.out.ext HF.out.ext (by omega)
        have b4r : wr.cell? ⟨w.heap.size, 4, none⟩ = some (.slice A xs.length cap) := hBr.cell 4
        have lbr := hBr.lt
        have hLr := HL3.out.old.gro hGr
        obtain ⟨hlen, bA, off, hAe, hcA⟩ := hLr.elem m hmlt
        obtain ⟨A', cap', hcs⟩ := (hLr.hl m hmlt).shape
        have hRm := hLr.hl m hmlt
        rw [hcs] at hRm
        have hcc : ∀ j v, (cells xs[m] A' cap')[j]? = some v → wr.cell? ((⟨bA, off + m * 9, none⟩ : Addr).add j) = some v := fun j v h => by rw [Addr.add_lit]; exact hcA j v (by rw [hcs]; exact h)
        have HWE : Hid (wayE which xs m = if wayB which m = true then flipF xs[m] else xs[m]) := Lib.hid (by rw [wayE, nth_get xs m hmlt])
        generalize xs[m] = x at hcc hRm HWE
        have HCC := Lib.hid hcc; have HRM := Lib.hid hRm; have HGR := Lib.hid hGr
        clear hcc hRm hLr hcA hlen hcs hGr hBr b4
        subst hAe
        have hltr : wr.heap.size < wr.heap.size + 1 := by omega
        go_upto_region 10 with (refine wpList_load_list rfl 39 (.tmp 43) rfl ⟨bA, off + m * 9, none⟩ rfl (cells x A' cap') _ Tryd.underlying39 rfl (by kernel_rfl) HCC.out ?_; simp only [cells])
        have hXb := Blk.new wr (cells x A' cap').toArray 39
        have hg7 := (Ext.refl (fun _ => False) wr).alloc (.cells (cells x A' cap').toArray 39)
        simp only [cells] at hXb hg7
        have hs7 : (wr.alloc (.cells (cells x A' cap').toArray 39)).heap.size = wr.heap.size + 1 := by simp
        simp only [cells] at hs7
        generalize wr.alloc _ = w7 at hXb hg7 hs7 ⊢
        have HXB := Lib.hid hXb; have HG7 := Lib.hid hg7; have HS7 := Lib.hid hs7
        clear hXb hg7 hs7 b4r lbr
        have hown1 := HF.out.made.own_base
        have hown2 := HF.out.made.own_lt
        have hw6 : w.heap.size ≤ w6.heap.size := HGW6.out.size
        have hwr : w6.heap.size ≤ wr.heap.size := HF.out.ext.size
        have HOWN : Hid (∀ k, v.ownBlock = some k → w6.heap.size ≤ k ∧ k < wr.heap.size) := Lib.hid fun k hk => ⟨hown1 k hk, hown2 k hk⟩
        clear hown1 hown2
        go_upto_if 50 with (fail)
        go_cut [] from 50 to 52 (fun wx => ∃ cs : List Value, Blk wx wr.heap.size cs.toArray 39 ∧ Rep wx (OkK (fun b => b < w.heap.size ∨ w6.heap.size ≤ b) wx v) (wayE which xs m) cs ∧ Gro wr wx)
        case first =>
          by_cases hb : wayB which m = true
          · have HWB := Lib.hid hb
            unfold wayB at hb
            have hT := law_turned w7 (fun b => ok b ∧ b < w.heap.size) x (cells x A' cap') (HRM.out.gro HG7.out)
            simp only [cells] at hT
            have HTT := Lib.hid hT; clear hT
            go_wp2_with (first
              | (refine wpList_load_row rfl 39 (.tmp 12) rfl wr.heap.size rfl 39 _ (0, 0) _ HXB.out Tryd.underlying39 rfl (size_expr rfl) ?_)
              | (go_at_call 17; refine Calls.mono HTT.out ?_; rintro r w8 ⟨cs2, rfl, hR8, hg8⟩; obtain ⟨A2, cap2, rfl⟩ := hR8.shape; have HR8 := Lib.hid hR8; have HG8 := Lib.hid hg8; have HX8 := Lib.hid (HXB.out.ext hg8 id); clear hR8 hg8)
              | (refine wpList_store_row rfl 39 (.tmp 12) (.tmp 52) rfl wr.heap.size (cells (flipF x) A2 cap2).toArray rfl rfl 39 _ HX8.out (size_expr rfl) rfl (all_one (by simp [cells, Value.oneCell'])) ?_))
            go_meet
            have hg78 := HG8.out.size
            have hs7 := HS7.out
            have hx9 := (Ext.refl (· = wr.heap.size) w8).setRow wr.heap.size (cells (flipF x) A2 cap2).toArray (fun _ => rfl)
            refine ⟨_, HX8.out.setRow _, ?_, ((HG7.out.same HG8.out).mono (S' := (· = wr.heap.size)) fun _ _ h => h.elim).same hx9 |>.mono (S' := fun _ => False) fun i hi e => by omega⟩
            rw [HWE.out, if_pos HWB.out]
            refine HR8.out.mono fun b hb hlt8 => ⟨⟨?_, Nat.lt_of_lt_of_le hlt8 hx9.size, fun e => ?_⟩, hx9.block b hlt8 (fun e => ?_)⟩
            · rcases hb with hb | hb
              · exact .inl hb.2
              · exact .inr (by omega)
            · have := HOWN.out b e
              rcases hb with hb | hb <;> omega
            · rcases hb with hb | hb <;> omega
          · have hb' : wayB which m = false := by simpa using hb
            have HWB := Lib.hid hb'
            unfold wayB at hb'
            clear hb
            go_wp2_with fail
            go_meet
            have hs7 := HS7.out
            refine ⟨_, HXB.out, ?_, HG7.out⟩
            rw [HWE.out, if_neg (by simp [HWB.out])]
            have := (HRM.out.gro HG7.out)
            refine this.mono fun b hb hlt7 => ⟨⟨.inl hb.2, hlt7, fun e => ?_⟩, rfl⟩
            have := HOWN.out b e
            omega
        case rest =>
          obtain ⟨cs, hxc, hRc, hgc⟩ := hcut
          obtain ⟨A2, cap2, rfl⟩ := hRc.shape
          generalize hy : wayE which xs m = y at hxc hRc
          have HY := Lib.hid hy; clear hy
          have hFc := HF.out.gro hgc
          have hlen2 := waysTo_len which xs k
          have hset : ∀ v v' : Value, (bcells (.slice TA tabs.length tc) core v kr).setIfInBounds 4 v' = bcells (.slice TA tabs.length tc) core v' kr := fun _ _ => by simp [bcells]
          obtain ⟨v1, w1a, hrun1, hF1, hC1, hok1⟩ := hFc.append hset (by have := HS6.out; omega) rfl (by have := HS6.out; omega) hRc (by omega)
          obtain ⟨A3, cap3, _, rfl, _, _, _⟩ := hF1.made.lrep
          generalize hl3 : (waysTo which xs k ++ [y]).length = l3 at hrun1 hF1 hok1
          have HL3' := Lib.hid hl3; clear hl3
          have cc4 : wc.cell? ⟨cb, 4, none⟩ = some v := hFc.blk.cell 4
          have lcb := hFc.blk.lt
          have d4 : w1a.cell? ⟨cb, 4, none⟩ = some v := hC1.cell 4
          have zd4 := hC1.thaw 4
          have lcd := hC1.lt
          simp only [cells] at hrun1
          have HXC := Lib.hid hxc; have HRC := Lib.hid hRc; have HFC := Lib.hid hFc; have HGC := Lib.hid hgc
          have HRUN1 := Lib.hid hrun1; have HF1 := Lib.hid hF1; have HOK1 := Lib.hid hok1; have HSET := Lib.hid hset
          clear hxc hRc hFc hrun1 hF1 hC1 hok1 hset hgc
          go_upto_if 61 with (first
            | (refine wpList_load_row rfl 39 (.tmp 12) rfl wr.heap.size rfl 39 _ (0, 0) _ HXC.out Tryd.underlying39 rfl (size_expr rfl) ?_; simp only [cells])
            | (at_builtin; refine wpList_append_run rfl _ _ 23 23 rfl _ _ rfl rfl _ _ HRUN1.out ?_))
          have hokx : OkK (fun b => b < w.heap.size ∨ w6.heap.size ≤ b) wc v wr.heap.size := ⟨.inr hwr, HXC.out.lt, fun e => by have := HOWN.out _ e; omega⟩
          have hxd : Blk (w1a.setCell ⟨cb, 4, none⟩ (.slice A3 l3 cap3)) wr.heap.size (cells y A2 cap2).toArray 39 := (HOK1.out _ hokx).2.trans HXC.out
          have hRd := HRC.out.mono (w' := w1a.setCell ⟨cb, 4, none⟩ (.slice A3 l3 cap3)) (ok' := OkK (fun b => b < w.heap.size ∨ w6.heap.size ≤ b) (w1a.setCell ⟨cb, 4, none⟩ (.slice A3 l3 cap3)) (.slice A3 l3 cap3)) fun b hb _ => HOK1.out b hb
          have hFd := HF1.out
          clear hokx HOK1 HF1 cc4 lcb d4 zd4 lcd
          generalize w1a.setCell _ _ = wd at hxd hRd hFd ⊢
          by_cases h3 : m % 3 = 0
          · have t3 : ((m : Int) % 3 == 0) = true := beq_iff_eq.2 (by omega)
            have H3 := Lib.hid h3
            obtain ⟨v2, w2a, hrun2, hF2, hC2, _⟩ := hFd.append HSET.out (by have := HS6.out; omega) rfl (by have := HS6.out; omega) hRd (by simp; omega)
            obtain ⟨A4, cap4, _, rfl, _, _, _⟩ := hF2.made.lrep
            generalize hl4 : (waysTo which xs k ++ [y] ++ [y]).length = l4 at hrun2 hF2
            have hFd4 := hFd.blk
            have cc4 : wd.cell? ⟨cb, 4, none⟩ = some (.slice A3 l3 cap3) := hFd4.cell 4
            have lcb := hFd4.lt
            have d4 : w2a.cell? ⟨cb, 4, none⟩ = some (.slice A3 l3 cap3) := hC2.cell 4
            have zd4 := hC2.thaw 4
            have lcd := hC2.lt
            simp only [cells] at hrun2
            have HXD := Lib.hid hxd; have HRUN2 := Lib.hid hrun2; have HF2 := Lib.hid hF2
            clear hxd hRd hFd hFd4 hrun2 hF2 hC2 hl4 h3
            go_wp2_with (first
              | (refine wpList_load_row rfl 39 (.tmp 12) rfl wr.heap.size rfl 39 _ (0, 0) _ HXD.out Tryd.underlying39 rfl (size_expr rfl) ?_; simp only [cells])
              | (at_builtin; refine wpList_append_run rfl _ _ 23 23 rfl _ _ rfl rfl _ _ HRUN2.out ?_))
            go_roundw
            case rel =>
              refine ⟨k + 1, .slice A4 l4 cap4, by omega, congrArg (Value.int .i64) (by have := HM.out; omega), ?_⟩
              rw [show waysTo which xs (k + 1) = waysTo which xs k ++ [y] ++ [y] by
                rw [waysTo, ← HMK.out, wayL, if_pos H3.out, HY.out, List.append_assoc]; rfl]
              exact HF2.out
            case measure => simp [intOf]
          · have t3 : ((m : Int) % 3 == 0) = false := beq_eq_false_iff_ne.2 (by omega)
            have H3 := Lib.hid h3; clear h3
            have HFD := Lib.hid hFd
            clear hxd hRd hFd
            go_wp2_with fail
            go_roundw
            case rel =>
              refine ⟨k + 1, .slice A3 l3 cap3, by omega, congrArg (Value.int .i64) (by have := HM.out; omega), ?_⟩
              rw [show waysTo which xs (k + 1) = waysTo which xs k ++ [y] by
                rw [waysTo, ← HMK.out, wayL, if_neg H3.out, HY.out]]
              exact HFD.out
            case measure => simp [intOf]
      · obtain rfl : k = xs.length := by omega
        have hneg : (xs.length : Int) - 1 - xs.length < 0 := by omega
        have hGr : Gro w wr := ((HGW6.out.mono (S' := (· = cb)) fun _ _ h => h.elim).same HF.out.ext).mono (S' := fun _ => False) fun i hi e => by omega
        obtain ⟨A5, cap5, css5, rfl, _, _, hL5⟩ := HF.out.made.lrep
        have hlen5 := waysTo_len which xs xs.length
        have hOf2 := (sign_Of wr (fun _ => True) TA A5 tc cap5 tabs core set (waysTo which xs xs.length) css5 kr ((HT.out.gro hGr).mono fun _ _ _ => ⟨trivial, rfl⟩) hL5 (HTAB.out.gro hGr) (by omega) hi hcore hset).mono fun r w' h => OfPost.val h
        have HOF2 := Lib.hid hOf2; have HGR := Lib.hid hGr; have HC7 := Lib.hid HF.out.blk
        clear hOf2 hGr hL5
        go_upto_region 16 with (first
          | (refine wpList_load_row rfl 26 (.tmp 10) rfl cb rfl 26 _ (0, 0) _ HC7.out Tryd.underlying26 rfl (by kernel_rfl) ?_)
          | (go_at_call 11; refine Calls.mono HOF2.out ?_; rintro r w9 ⟨S2, er2, rfl, hv2, hg9⟩; have HV2 := Lib.hid hv2; have HG9 := Lib.hid hg9; clear hv2 hg9))
        obtain ⟨rfl, rfl⟩ := of_ways (ways_same which xs) HV1.out HV2.out
        have hss : (S2.toList == S2.toList) = true := by simp
        have hee : (er2 == er2) = true := by simp
        go_wp2_with fail
        go_ret
        exact ⟨by first | rfl | simp, HGR.out.same HG9.out⟩
end Go.Proofs.YtgikebkgihcogaaDoor
