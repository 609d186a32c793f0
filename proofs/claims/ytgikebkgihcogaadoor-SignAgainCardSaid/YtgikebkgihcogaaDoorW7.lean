/- Walks: expr.put. -/
import Derived.Test.YtgikebkgihcogaaDoorW6
namespace Go.Proofs.YtgikebkgihcogaaDoor
open Go.RowKit
set_option maxHeartbeats 1000000

def PutPost (B b : Nat) (m : List UInt8) (w : World) (e : Ending) (w' : World) : Prop := e = .returned (.tuple #[]) ∧ BAt B b (Lib.byteCells m) w' ∧ BExt B b w w'
/-- Inside put: the box of the builder's pointer, the box of the expression, the builder, the library's table. -/
structure PSt (B b gb ge : Nat) (ecs : Array Value) (w : World) (m : List UInt8) (w1 : World) : Prop where
  cb : Blk w1 gb #[.pointer (some ⟨b, 0, none⟩)] 51
  ce : Blk w1 ge ecs 39
  bis : BIs B b (Lib.byteCells m) w1
  tab : Tab w1
  ext : BExt B b w w1
  n1 : gb ≠ b
  n2 : ge ≠ b
  tabB : 1 < B
theorem PSt.next {B b gb ge : Nat} {ecs : Array Value} {w w1 w2 : World} {m m' : List UInt8} (h : PSt B b gb ge ecs w m w1) (hx : BExt B b w1 w2) (hb : BAt B b (Lib.byteCells m') w2) : PSt B b gb ge ecs w m' w2 :=
  ⟨h.cb.ext hx (BS.not h.cb h.n1 (by decide)), h.ce.ext hx (BS.not h.ce h.n2 (by decide)), .inr hb, h.tab.ext hx (BS.notOld (by have := h.bis.base; have := h.tabB; omega) h.tabB), h.ext.trans hx, h.n1, h.n2, h.tabB⟩
theorem PSt.grow {B b gb ge : Nat} {ecs : Array Value} {w w1 w2 : World} {m : List UInt8} (h : PSt B b gb ge ecs w m w1) (hx : Gro w1 w2) : PSt B b gb ge ecs w m w2 :=
  ⟨h.cb.ext hx id, h.ce.ext hx id, h.bis.gro hx, h.tab.gro hx, h.ext.trans (BExt.gro hx), h.n1, h.n2, h.tabB⟩

set_option maxRecDepth 100000 in
theorem expr_put (B b : Nat) (w0 : World) (ok : Nat → Prop) (hok : ∀ k, ok k → k < B) (htB : 1 < B) (e : Ex) (cs : List Value) (h : Rep w0 ok e cs) :
    ∀ (l : List UInt8) (w : World), BExt B b w0 w → BIs B b (Lib.byteCells l) w → Tab w → l.length + (printF e).length ≤ 140737488355328 →
      Calls Tryd.prog 66 #[.pointer (some ⟨b, 0, none⟩), .agg cs.toArray] w (PutPost B b (l ++ printF e) w) := by
  induction h with
  | mk e A cap css hcap hmax h1 h2 h3 h4 h5 h6 h7 h8 hA hl ih =>
  intro l w hx hb ht hlen
  have hbb := hb.base
  have IH := Lib.hid ih; have HL := Lib.hid hl; have HA := Lib.hid hA; have HX := Lib.hid hx
  clear ih hl hA hx
  simp only [cells]
  go_enter Tryd.func66, Tryd.ntmps66
  go_upto_region 2 with (fail)
  have hst : PSt B b w.heap.size (w.heap.size + 1) (cells e A cap).toArray w l ((w.alloc (.cells #[.pointer (some ⟨b, 0, none⟩)] 51)).alloc (.cells (cells e A cap).toArray 39)) :=
    ⟨(Blk.newAt rfl _ _).alloc _, Blk.newAt (by simp) _ _, hb.gro (((Ext.refl _ _).alloc _).alloc _), ht.gro (((Ext.refl _ _).alloc _).alloc _), BExt.gro (((Ext.refl _ _).alloc _).alloc _), by omega, by omega, htB⟩
  simp only [cells] at hst
  generalize (w.alloc (.cells #[.pointer (some ⟨b, 0, none⟩)] 51)).alloc _ = w1 at hst ⊢
  have e0 := hst.ce.cell 0
  have f0 := hst.cb.cell 0
  have lt1 := hst.ce.lt
  simp at e0 f0
  clear hb ht
  have lt0 : w.heap.size < w1.heap.size := by omega
  by_cases ho1 : e.op = 1
  · have e1 := hst.ce.cell 1; have e2 := hst.ce.cell 2; have e3 := hst.ce.cell 3
    simp at e1 e2 e3
    have HST := Lib.hid hst; clear hst
    rw [ho1] at e0
    have hp := printF_eq e
    rw [if_pos ho1] at hp
    have HP := Lib.hid hp; have HLEN := Lib.hid hlen; have HO := Lib.hid ho1; clear hp hlen ho1
    go_upto_region 14 with (fail)
    have hst := HST.out.grow ((Ext.refl _ w1).alloc (.cells #[.int .i64 e.kind, .int .i64 e.num, .string e.vs] 37))
    have hv := Blk.newAt (w := w1) (n := w1.heap.size) rfl #[.int .i64 e.kind, .int .i64 e.num, .string e.vs] 37
    have hvb : w1.heap.size ≠ b := by have := HST.out.bis.base; omega
    generalize w1.alloc _ = w2 at hst hv ⊢
    generalize w1.heap.size = gv at hv hvb ⊢
    clear e0 e1 e2 e3 f0 lt1 lt0 HST
    have f0 := hst.cb.cell 0; have v0 := hv.cell 0; have v1 := hv.cell 1; have v2 := hv.cell 2
    simp at f0 v0 v1 v2
    have HST := Lib.hid hst; have HV := Lib.hid hv; clear hst hv
    by_cases hk0 : e.kind = 0
    · have _ := hk0
      have hp := HP.out
      rw [if_pos hk0] at hp
      have hb0 := HLEN.out; rw [hp] at hb0
      have hk0' : (e.kind == 0) = true := by simp [hk0]
      have HK := Lib.hid hk0
      have HP0 := Lib.hid hp; have HB0 := Lib.hid hb0; clear hp hb0 hk0
      go_wp2_with fail
      refine (writes B b (l) [78] _ rfl _ HST.out.bis (by have := HB0.out; simp at this ⊢; omega)).mono ?_
      rintro r w3 ⟨rfl, hb3, hx3⟩
      have H1 := Lib.hid hb3; have H2 := Lib.hid hx3; clear hb3 hx3
      go_wp2_with fail
      go_end0
      exact ⟨rfl, by rw [HP0.out]; simpa using H1.out, HST.out.ext.trans H2.out⟩
    have hk0' : (e.kind == 0) = false := by simp [hk0]
    by_cases hk1 : e.kind = 1
    · have _ := hk1
      have hp := HP.out
      rw [if_neg hk0, if_pos hk1] at hp
      have hb0 := HLEN.out; rw [hp] at hb0
      have hk1' : (e.kind == 1) = true := by simp [hk1]
      have HK := Lib.hid hk1
      have HP0 := Lib.hid hp; have HB0 := Lib.hid hb0; clear hp hb0 hk0 hk1
      go_wp2_with fail
      refine (writes B b (l) [73] _ rfl _ HST.out.bis (by have := HB0.out; simp at this ⊢; omega)).mono ?_
      rintro r w3 ⟨rfl, hb3, hx3⟩
      have hst3 := HST.out.next hx3 hb3
      have hv3 := HV.out.ext hx3 (BS.not HV.out hvb (by decide))
      have g3 := hst3.cb.cell 0; have u3_0 := hv3.cell 0; have u3_1 := hv3.cell 1; have u3_2 := hv3.cell 2
      simp at g3 u3_0 u3_1 u3_2
      have HST3 := Lib.hid hst3; have HV3 := Lib.hid hv3; clear hst3 hb3 hx3 f0 v0 v1 v2 hv3
      go_wp2_with fail
      refine (put1 (e.num) (h3) B b w.heap.size (l ++ [73]) _ HST3.out.bis HST3.out.cb HST3.out.tab (by have := HB0.out; simp at this ⊢; omega)).mono ?_
      rintro r w4 ⟨rfl, hb4, hx4⟩
      have H1 := Lib.hid hb4; have H2 := Lib.hid hx4; clear hb4 hx4
      go_wp2_with fail
      go_end0
      exact ⟨rfl, by rw [HP0.out]; simpa using H1.out, HST3.out.ext.trans H2.out⟩
    have hk1' : (e.kind == 1) = false := by simp [hk1]
    by_cases hk2 : e.kind = 2
    · have _ := hk2
      have hp := HP.out
      rw [if_neg hk0, if_neg hk1, if_pos hk2] at hp
      have hb0 := HLEN.out; rw [hp] at hb0
      have hk2' : (e.kind == 2) = true := by simp [hk2]
      have HK := Lib.hid hk2
      have HP0 := Lib.hid hp; have HB0 := Lib.hid hb0; clear hp hb0 hk0 hk1 hk2
      go_wp2_with fail
      refine (writes B b (l) [66] _ rfl _ HST.out.bis (by have := HB0.out; simp at this ⊢; omega)).mono ?_
      rintro r w3 ⟨rfl, hb3, hx3⟩
      have hst3 := HST.out.next hx3 hb3
      have hv3 := HV.out.ext hx3 (BS.not HV.out hvb (by decide))
      have g3 := hst3.cb.cell 0; have u3_0 := hv3.cell 0; have u3_1 := hv3.cell 1; have u3_2 := hv3.cell 2
      simp at g3 u3_0 u3_1 u3_2
      have HST3 := Lib.hid hst3; have HV3 := Lib.hid hv3; clear hst3 hb3 hx3 f0 v0 v1 v2 hv3
      go_wp2_with fail
      refine (put1 (e.num) (h3) B b w.heap.size (l ++ [66]) _ HST3.out.bis HST3.out.cb HST3.out.tab (by have := HB0.out; simp at this ⊢; omega)).mono ?_
      rintro r w4 ⟨rfl, hb4, hx4⟩
      have H1 := Lib.hid hb4; have H2 := Lib.hid hx4; clear hb4 hx4
      go_wp2_with fail
      go_end0
      exact ⟨rfl, by rw [HP0.out]; simpa using H1.out, HST3.out.ext.trans H2.out⟩
    have hk2' : (e.kind == 2) = false := by simp [hk2]
    · have _ := hk2
      have hp := HP.out
      rw [if_neg hk0, if_neg hk1, if_neg hk2] at hp
      have hb0 := HLEN.out; rw [hp] at hb0
      have HP0 := Lib.hid hp; have HB0 := Lib.hid hb0; clear hp hb0 hk0 hk1 hk2
      go_wp2_with fail
      refine (writes B b (l) [84] _ rfl _ HST.out.bis (by have := HB0.out; simp at this ⊢; omega)).mono ?_
      rintro r w3 ⟨rfl, hb3, hx3⟩
      have hst3 := HST.out.next hx3 hb3
      have hv3 := HV.out.ext hx3 (BS.not HV.out hvb (by decide))
      have g3 := hst3.cb.cell 0; have u3_0 := hv3.cell 0; have u3_1 := hv3.cell 1; have u3_2 := hv3.cell 2
      simp at g3 u3_0 u3_1 u3_2
      have HST3 := Lib.hid hst3; have HV3 := Lib.hid hv3; clear hst3 hb3 hx3 f0 v0 v1 v2 hv3
      go_wp2_with fail
      refine (put1 ((e.vs.size : Nat)) (⟨by omega, by unfold maxLen at h4; omega⟩) B b w.heap.size (l ++ [84]) _ HST3.out.bis HST3.out.cb HST3.out.tab (by have := HB0.out; simp at this ⊢; omega)).mono ?_
      rintro r w4 ⟨rfl, hb4, hx4⟩
      have hst4 := HST3.out.next hx4 hb4
      have hv4 := HV3.out.ext hx4 (BS.not HV3.out hvb (by decide))
      have g4 := hst4.cb.cell 0; have u4_0 := hv4.cell 0; have u4_1 := hv4.cell 1; have u4_2 := hv4.cell 2
      simp at g4 u4_0 u4_1 u4_2
      have HST4 := Lib.hid hst4; have HV4 := Lib.hid hv4; clear hst4 hb4 hx4 g3 u3_0 u3_1 u3_2 hv4
      have hvs : e.vs.size ≤ 140737488355328 := by have := HB0.out; simp only [List.length_cons, List.length_append, Array.length_toList] at this; have h : e.vs.size = e.vs.data.size := rfl; omega
      go_wp2_with fail
      refine (writes B b (l ++ [84] ++ Lib.itoa ((e.vs.size : Nat))) (58 :: e.vs.data.toList) _ ?_ _ HST4.out.bis (by have := HB0.out; simp at this ⊢; omega)).mono ?_
      · simp
      rintro r w5 ⟨rfl, hb5, hx5⟩
      have H1 := Lib.hid hb5; have H2 := Lib.hid hx5; clear hb5 hx5
      go_wp2_with fail
      go_end0
      exact ⟨rfl, by rw [HP0.out]; simpa using H1.out, HST4.out.ext.trans H2.out⟩
  have ho1' : (e.op == 1) = false := by simp [ho1]
  by_cases ho2 : e.op = 2
  · have e2 := hst.ce.cell 4; have e3 := hst.ce.cell 5
    simp at e2 e3
    have hp := printF_eq e
    rw [if_neg ho1, if_pos ho2] at hp
    have hb0 := hlen; rw [hp] at hb0
    have ho2' : (e.op == 2) = true := by simp [ho2]
    have HO := Lib.hid ho2
    have HST := Lib.hid hst
    have HP0 := Lib.hid hp; have HB0 := Lib.hid hb0; clear hp hb0 hlen hst ho1 ho2
    go_wp2_with fail
    refine (writes B b (l) [82] _ rfl _ HST.out.bis (by have := HB0.out; simp at this ⊢; omega)).mono ?_
    rintro r w3 ⟨rfl, hb3, hx3⟩
    have hst3 := HST.out.next hx3 hb3
    have g3 := hst3.cb.cell 0; have u3_0 := hst3.ce.cell 0; have u3_4 := hst3.ce.cell 4; have u3_5 := hst3.ce.cell 5
    simp at g3 u3_0 u3_4 u3_5
    have HST3 := Lib.hid hst3; clear hst3 hb3 hx3 f0 e0 e2 e3
    go_wp2_with fail
    refine (put1 (e.rel) (h5) B b w.heap.size (l ++ [82]) _ HST3.out.bis HST3.out.cb HST3.out.tab (by have := HB0.out; simp at this ⊢; omega)).mono ?_
    rintro r w4 ⟨rfl, hb4, hx4⟩
    have hst4 := HST3.out.next hx4 hb4
    have g4 := hst4.cb.cell 0; have u4_0 := hst4.ce.cell 0; have u4_4 := hst4.ce.cell 4; have u4_5 := hst4.ce.cell 5
    simp at g4 u4_0 u4_4 u4_5
    have HST4 := Lib.hid hst4; clear hst4 hb4 hx4 g3 u3_0 u3_4 u3_5
    go_wp2_with fail
    refine (writes B b (l ++ [82] ++ Lib.itoa (e.rel)) [46] _ rfl _ HST4.out.bis (by have := HB0.out; simp at this ⊢; omega)).mono ?_
    rintro r w5 ⟨rfl, hb5, hx5⟩
    have hst5 := HST4.out.next hx5 hb5
    have g5 := hst5.cb.cell 0; have u5_0 := hst5.ce.cell 0; have u5_4 := hst5.ce.cell 4; have u5_5 := hst5.ce.cell 5
    simp at g5 u5_0 u5_4 u5_5
    have HST5 := Lib.hid hst5; clear hst5 hb5 hx5 g4 u4_0 u4_4 u4_5
    go_wp2_with fail
    refine (put1 (e.col) (h6) B b w.heap.size (l ++ [82] ++ Lib.itoa (e.rel) ++ [46]) _ HST5.out.bis HST5.out.cb HST5.out.tab (by have := HB0.out; simp at this ⊢; omega)).mono ?_
    rintro r w6 ⟨rfl, hb6, hx6⟩
    have H1 := Lib.hid hb6; have H2 := Lib.hid hx6; clear hb6 hx6
    go_wp2_with fail
    go_end0
    exact ⟨rfl, by rw [HP0.out]; simpa using H1.out, HST5.out.ext.trans H2.out⟩
  have ho2' : (e.op == 2) = false := by simp [ho2]
  by_cases ho3 : e.op = 3
  · have e6 := hst.ce.cell 6
    simp at e6
    have hp := printF_eq e
    rw [if_neg ho1, if_neg ho2, if_pos ho3] at hp
    have hb0 := hlen; rw [hp] at hb0
    have ho3' : (e.op == 3) = true := by simp [ho3]
    have HO := Lib.hid ho3
    have HST := Lib.hid hst
    have HP0 := Lib.hid hp; have HB0 := Lib.hid hb0; clear hp hb0 hlen hst ho1 ho2 ho3
    go_wp2_with fail
    refine (writes B b (l) [80] _ rfl _ HST.out.bis (by have := HB0.out; simp at this ⊢; omega)).mono ?_
    rintro r w3 ⟨rfl, hb3, hx3⟩
    have hst3 := HST.out.next hx3 hb3
    have g3 := hst3.cb.cell 0; have u3_0 := hst3.ce.cell 0; have u3_6 := hst3.ce.cell 6
    simp at g3 u3_0 u3_6
    have HST3 := Lib.hid hst3; clear hst3 hb3 hx3 f0 e0 e6
    go_wp2_with fail
    refine (put1 (e.n) (h7) B b w.heap.size (l ++ [80]) _ HST3.out.bis HST3.out.cb HST3.out.tab (by have := HB0.out; simp at this ⊢; omega)).mono ?_
    rintro r w4 ⟨rfl, hb4, hx4⟩
    have H1 := Lib.hid hb4; have H2 := Lib.hid hx4; clear hb4 hx4
    go_wp2_with fail
    go_end0
    exact ⟨rfl, by rw [HP0.out]; simpa using H1.out, HST3.out.ext.trans H2.out⟩
  have ho3' : (e.op == 3) = false := by simp [ho3]
  have hp := printF_eq e
  rw [if_neg ho1, if_neg ho2, if_neg ho3] at hp
  have hb0 := hlen; rw [hp] at hb0
  have HST := Lib.hid hst
  have HP0 := Lib.hid hp; have HB0 := Lib.hid hb0; clear hp hb0 hlen hst ho1 ho2 ho3
  go_wp2_with fail
  refine (writes B b l [40] _ rfl _ HST.out.bis (by have := HB0.out; simp at this ⊢; omega)).mono ?_
  rintro r w3 ⟨rfl, hb3, hx3⟩
  have hst3 := HST.out.next hx3 hb3
  have g3 := hst3.cb.cell 0; have u3_0 := hst3.ce.cell 0
  simp at g3 u3_0
  have HST3 := Lib.hid hst3; clear hst3 hb3 hx3 f0 e0
  go_wp2_with fail
  refine (put1 e.op h1 B b w.heap.size (l ++ [40]) w3 HST3.out.bis HST3.out.cb HST3.out.tab (by have := HB0.out; simp at this ⊢; omega)).mono ?_
  rintro r w4 ⟨rfl, hb4, hx4⟩
  have hst4 := HST3.out.next hx4 hb4
  have u4_8 := hst4.ce.cell 8
  simp at u4_8
  have HST4 := Lib.hid hst4; clear hst4 hb4 hx4 g3 u3_0
  have hmx : e.l.length ≤ 9223372036854775807 := by have h9 := Nat.le_trans hcap hmax; unfold maxLen at h9; omega
  go_wp2_with fail
  go_loopw [20] (fun i wr => ∃ k : Nat, k ≤ e.l.length ∧ i = .int .i64 k ∧ PSt B b w.heap.size (w.heap.size + 1) (cells e A cap).toArray w (l ++ [40] ++ Lib.itoa e.op ++ printL (e.l.take k)) wr) (fun i _ => e.l.length - (intOf i).toNat)
  case atStart => exact ⟨0, Nat.zero_le _, rfl, by simpa [printL, cells] using HST4.out⟩
  case round =>
    obtain ⟨k, hk, rfl, hstr⟩ := hrel
    clear u4_8
    have f0 := hstr.cb.cell 0
    simp at f0
    have hbr := hstr.bis.base
    have HSTR := Lib.hid hstr; clear hstr HST4 HST3 HST
    by_cases hlt : k < e.l.length
    · obtain ⟨bA, off, rfl, hokA, hcA⟩ := HA.out (by omega)
      have hREP := HL.out k hlt
      obtain ⟨A', cap', hcs⟩ := hREP.shape
      have hne : bA ≠ b := by have := hok bA hokA; omega
      have hx0 : BExt B b w0 wr := HX.out.trans HSTR.out.ext
      have hcc : ∀ j v, (cells e.l[k] A' cap')[j]? = some v → wr.cell? ((⟨bA, off + k * 9, none⟩ : Addr).add j) = some v := fun j v h => by
        rw [Addr.add_lit]
        exact hx0.cell (hcA k hlt j v (by rw [hcs]; exact h)) (BS.notOld (g := bA) hne (hok bA hokA))
      have HCC := Lib.hid hcc; have HCS := Lib.hid hcs; have HX0 := Lib.hid hx0; have HREP := Lib.hid hREP
      clear hcc hcs hx0 hREP hcA
      generalize e.l[k] = x at HCC HCS HREP
      go_upto_region 8 with (refine wpList_load_list rfl 39 (.tmp 22) rfl ⟨bA, off + k * 9, none⟩ rfl (cells x A' cap') _ Tryd.underlying39 rfl (by kernel_rfl) HCC.out ?_; simp only [cells])
      have hst5 := HSTR.out.grow ((Ext.refl _ wr).alloc (.cells (cells x A' cap').toArray 39))
      have hv := Blk.newAt (w := wr) (n := wr.heap.size) rfl (cells x A' cap').toArray 39
      have hvb : wr.heap.size ≠ b := by omega
      have hgr : Gro wr (wr.alloc (.cells (cells x A' cap').toArray 39)) := (Ext.refl _ wr).alloc _
      simp only [cells] at hv hst5 hgr
      generalize wr.alloc _ = w5 at hst5 hv hgr ⊢
      generalize wr.heap.size = gv at hv hvb ⊢
      clear f0
      have f0 := hst5.cb.cell 0
      simp at f0
      have HST5 := Lib.hid hst5; have HV := Lib.hid hv; have HGR := Lib.hid hgr; clear hst5 hv hgr
      go_wp2_with fail
      have htake : e.l.take (k + 1) = e.l.take k ++ [e.l[k]] := List.take_succ_eq_append_getElem hlt
      have hsn := printL_snoc (e.l.take k) e.l[k]
      rw [← htake] at hsn
      have hle := printL_take_le e.l (k + 1)
      rw [hsn] at hle
      simp only [List.length_append, List.length_cons] at hle
      have HSN := Lib.hid hsn; have HLE := Lib.hid hle; clear htake hsn hle
      refine (writes B b (l ++ [40] ++ Lib.itoa e.op ++ printL (e.l.take k)) [32] _ rfl _ HST5.out.bis (by have t1 := HB0.out; have t2 := HLE.out; simp at t1 ⊢; omega)).mono ?_
      rintro r w6 ⟨rfl, hb6, hx6⟩
      have hst6 := HST5.out.next hx6 hb6
      have hv6 := HV.out.ext hx6 (BS.not HV.out hvb (by decide))
      have g6 := hst6.cb.cell 0
      have u0 := hv6.cell 0; have u1 := hv6.cell 1; have u2 := hv6.cell 2; have u3 := hv6.cell 3; have u4 := hv6.cell 4; have u5 := hv6.cell 5; have u6 := hv6.cell 6; have u7 := hv6.cell 7; have u8 := hv6.cell 8
      simp at g6 u0 u1 u2 u3 u4 u5 u6 u7 u8
      have HST6 := Lib.hid hst6; clear hst6 hv6 hb6 hx6 f0
      go_wp2_with fail
      have hIH := IH.out k hlt (l ++ [40] ++ Lib.itoa e.op ++ printL (e.l.take k) ++ [32]) w6 (HX.out.trans HST6.out.ext) HST6.out.bis HST6.out.tab (by have t1 := HB0.out; have t2 := HLE.out; simp at t1 ⊢; omega)
      rw [HCS.out] at hIH
      simp only [cells] at hIH
      refine hIH.mono ?_
      rintro r w7 ⟨rfl, hb7, hx7⟩
      have hst7 := HST6.out.next hx7 hb7
      have HST7 := Lib.hid hst7; clear hst7 hb7 hx7 hIH g6 u0 u1 u2 u3 u4 u5 u6 u7 u8
      go_wp2_with fail
      go_roundw
      case rel => exact ⟨k + 1, by omega, by go_num, by rw [HSN.out]; simpa [cells] using HST7.out⟩
      case measure => simp [intOf]; omega
    · obtain rfl : k = e.l.length := by omega
      go_wp2_with fail
      have h8 := HSTR.out.bis
      rw [List.take_length] at h8
      refine (writes B b (l ++ [40] ++ Lib.itoa e.op ++ printL e.l) [41] _ rfl _ h8 (by have := HB0.out; simp at this ⊢; omega)).mono ?_
      rintro r w6 ⟨rfl, hb6, hx6⟩
      have H1 := Lib.hid hb6; have H2 := Lib.hid hx6; clear hb6 hx6
      go_wp2_with fail
      go_end0
      exact ⟨rfl, by rw [HP0.out]; simpa using H1.out, HSTR.out.ext.trans H2.out⟩
end Go.Proofs.YtgikebkgihcogaaDoor
