/- The reference's Print: an expression's text. -/
import Derived.Test.YtgikebkgihcogaaDoorF2
import Derived.Test.YtgikebkgihcogaaDoorF3
namespace Go.Proofs.YtgikebkgihcogaaDoor
open Go.RowKit Go.Sort
set_option maxHeartbeats 1000000

theorem str_ext {a : ByteArray} {l : List UInt8} (h : a.data.toList = l) : a = ⟨l.toArray⟩ := by subst h; rfl
theorem ret_str {a : ByteArray} {l : List UInt8} (h : a.data.toList = l) : Ending.returned (.string a) = .returned (.string ⟨l.toArray⟩) := by rw [str_ext h]
/-- A number's text, by name. -/
def digS (n : Int) : ByteArray := ⟨(Lib.itoa n).toArray⟩
theorem digS_list (n : Int) : (digS n).data.toList = Lib.itoa n := rfl
theorem digS_size {n : Int} (h : I64 n) : (digS n).size ≤ 21 := by
  have := Lib.itoa_length_le n h.1 h.2
  show (Lib.itoa n).toArray.size ≤ 21
  simpa using this
theorem ref_DigS (n : Int) (hn : I64 n) (w : World) : Calls Tryd.prog 28 #[.int .i64 n] w fun r w' => r = .returned (.string (digS n)) ∧ Gro w w' := ref_Digits n hn w
theorem ref_DigG (n : Int) (hn : I64 n) (w1 : World) (m : Nat) (os : Array Obj) : Calls Tryd.prog 28 #[.int .i64 n] (Sort.grow (w1.drewN m) os) fun r w' => r = .returned (.string (digS n)) ∧ ∃ q os', w' = Sort.grow ((Sort.grow (w1.drewN m) os).drewN q) os' :=
  (ref_DigS n hn _).mono fun _ _ h => ⟨h.1, h.2.grow⟩

set_option maxRecDepth 100000 in
theorem ref_Print (w0 : World) (ok : Nat → Prop) (e : Ex) (cs : List Value) (h : Rep w0 ok e cs) : ∀ w : World, Gro w0 w → (printF e).length ≤ 1000000 →
    Calls Tryd.prog 30 #[.agg cs.toArray] w fun r w' => r = .returned (.string ⟨(printF e).toArray⟩) ∧ Gro w w' := by
  induction h with
  | mk e A cap css hcap hmax h1 h2 h3 h4 h5 h6 h7 h8 hA hl ih =>
  intro w hx hlen
  have hLR : LRep w0 ok A e.l css := ⟨hA, hl⟩
  have IH := Lib.hid ih; have HL := Lib.hid hLR; have HX := Lib.hid hx
  clear ih hl hA hx hLR
  have mixed : Tryd.prog.follows .mixedOrders = true := by kernel_rfl
  simp only [cells]
  go_enter Tryd.func30, Tryd.ntmps30
  go_upto_region 1 with (fail)
  have hE := Blk.new w (cells e A cap).toArray 39
  have hG := (Ext.refl (fun _ => False) w).alloc (.cells (cells e A cap).toArray 39)
  simp only [cells] at hE hG
  generalize w.alloc _ = w1 at hE hG ⊢
  have e0 := hE.cell 0
  simp at e0
  have l0 := hE.lt
  have HE := Lib.hid hE; have HG := Lib.hid hG; clear hE hG
  have hp := printF_eq e
  by_cases ho1 : e.op = 1
  · have t1 : (e.op == 1) = true := by simp [ho1]
    rw [if_pos ho1] at hp
    have e1 := HE.out.cell 1; have e2 := HE.out.cell 2; have e3 := HE.out.cell 3
    simp at e1 e2 e3
    clear ho1
    by_cases hk0 : e.kind = 0
    · rw [if_pos hk0] at hp
      have k0 : (e.kind == 0) = true := by simp [hk0]
      have HP := Lib.hid hp; clear hp hk0
      go_wp2_with fail
      go_ret
      exact ⟨by rw [HP.out]; rfl, HG.out⟩
    rw [if_neg hk0] at hp
    have k0 : (e.kind == 0) = false := by simp [hk0]
    by_cases hk1 : e.kind = 1
    · rw [if_pos hk1] at hp
      have k1 : (e.kind == 1) = true := by simp [hk1]
      have hds := digS_size h3
      have hd1 : 1 + (digS e.num).size ≤ 9223372036854775807 := by omega
      have HP := Lib.hid hp; clear hp hk0 hk1
      go_wp2_with (go_at_call 28; refine (ref_DigS _ h3 _).mono ?_; rintro r w2 ⟨rfl, hg2⟩; have HG2 := Lib.hid hg2; clear hg2)
      go_ret
      exact ⟨ret_str (by rw [HP.out]; simp [digS_list]), HG.out.same HG2.out⟩
    rw [if_neg hk1] at hp
    have k1 : (e.kind == 1) = false := by simp [hk1]
    by_cases hk2 : e.kind = 2
    · rw [if_pos hk2] at hp
      have k2 : (e.kind == 2) = true := by simp [hk2]
      have hds := digS_size h3
      have hd1 : 1 + (digS e.num).size ≤ 9223372036854775807 := by omega
      have HP := Lib.hid hp; clear hp hk0 hk1 hk2
      go_wp2_with (go_at_call 28; refine (ref_DigS _ h3 _).mono ?_; rintro r w2 ⟨rfl, hg2⟩; have HG2 := Lib.hid hg2; clear hg2)
      go_ret
      exact ⟨ret_str (by rw [HP.out]; simp [digS_list]), HG.out.same HG2.out⟩
    rw [if_neg hk2] at hp
    have k2 : (e.kind == 2) = false := by simp [hk2]
    have hvl : e.vs.size ≤ 1000000 := by
      have hle := hlen
      rw [hp] at hle
      simp only [List.length_cons, List.length_append, Array.length_toList] at hle
      have : e.vs.size = e.vs.data.size := rfl
      omega
    have hsi : I64 (e.vs.size : Int) := by unfold I64; omega
    have c3 : ∀ m os, (Sort.grow (w1.drewN m) os).cell? ⟨w.heap.size, 3, none⟩ = some (.string e.vs) := fun m os => (HE.out.grown m os).cell 3
    have hds := digS_size hsi
    have HD := Lib.hid (ref_DigG _ hsi w1)
    have HP := Lib.hid hp
    have hd1 : 1 + (digS (e.vs.size : Int)).size ≤ 9223372036854775807 := by omega
    have hd2 : ((⟨#[84]⟩ : ByteArray) ++ digS (e.vs.size : Int)).size + 1 ≤ 9223372036854775807 := by rw [ByteArray.size_append]; show 1 + _ + 1 ≤ _; omega
    have hd3 : (((⟨#[84]⟩ : ByteArray) ++ digS (e.vs.size : Int)) ++ (⟨#[58]⟩ : ByteArray)).size + e.vs.size ≤ 9223372036854775807 := by rw [ByteArray.size_append, ByteArray.size_append]; show 1 + _ + 1 + _ ≤ _; omega
    clear hp hk0 hk1 hk2 hlen
    go_upto_region 10 with (fail)
    refine wp_region_quiet_grown mixed (by kernel_rfl) ?_
    repeat (go_big_quiet_step ((go_at_call 28; with_reducible refine Calls.grown_of (HD.out _ _))))
    refine wpQuiet_nil ?_
    intro _ hw'
    obtain ⟨⟨nq, osq⟩, hw''⟩ := hw'
    subst hw''
    go_wp2_with fail
    go_ret
    exact ⟨ret_str (by rw [HP.out]; simp [digS_list]), HG.out.same (Ext.of_grow w1 nq osq)⟩
  rw [if_neg ho1] at hp
  have t1 : (e.op == 1) = false := by simp [ho1]
  by_cases ho2 : e.op = 2
  · rw [if_pos ho2] at hp
    have t2 : (e.op == 2) = true := by simp [ho2]
    have c4 : ∀ m os, (Sort.grow (w1.drewN m) os).cell? ⟨w.heap.size, 4, none⟩ = some (.int .i64 e.rel) := fun m os => (HE.out.grown m os).cell 4
    have c5 : ∀ m os, (Sort.grow (w1.drewN m) os).cell? ⟨w.heap.size, 5, none⟩ = some (.int .i64 e.col) := fun m os => (HE.out.grown m os).cell 5
    have hds := digS_size h5
    have hds' := digS_size h6
    have HD := Lib.hid (ref_DigG _ h5 w1)
    have HD' := Lib.hid (ref_DigG _ h6 w1)
    have HP := Lib.hid hp
    have hd1 : 1 + (digS e.rel).size ≤ 9223372036854775807 := by omega
    have hd2 : ((⟨#[82]⟩ : ByteArray) ++ digS e.rel).size + 1 ≤ 9223372036854775807 := by rw [ByteArray.size_append]; show 1 + _ + 1 ≤ _; omega
    have hd3 : (((⟨#[82]⟩ : ByteArray) ++ digS e.rel) ++ (⟨#[46]⟩ : ByteArray)).size + (digS e.col).size ≤ 9223372036854775807 := by rw [ByteArray.size_append, ByteArray.size_append]; show 1 + _ + 1 + _ ≤ _; omega
    clear hp ho1 ho2 hlen
    go_upto_region 12 with (fail)
    refine wp_region_quiet_grown mixed (by kernel_rfl) ?_
    repeat (go_big_quiet_step (first | (go_at_call 28; with_reducible refine Calls.grown_of (HD.out _ _)) | (go_at_call 28; with_reducible refine Calls.grown_of (HD'.out _ _))))
    refine wpQuiet_nil ?_
    intro _ hw'
    obtain ⟨⟨nq, osq⟩, hw''⟩ := hw'
    subst hw''
    go_wp2_with fail
    go_ret
    exact ⟨ret_str (by rw [HP.out]; simp [digS_list]), HG.out.same (Ext.of_grow w1 nq osq)⟩
  rw [if_neg ho2] at hp
  have t2 : (e.op == 2) = false := by simp [ho2]
  by_cases ho3 : e.op = 3
  · rw [if_pos ho3] at hp
    have t3 : (e.op == 3) = true := by simp [ho3]
    have e6 := HE.out.cell 6
    simp at e6
    have hds := digS_size h7
    have hd1 : 1 + (digS e.n).size ≤ 9223372036854775807 := by omega
    have HP := Lib.hid hp; clear hp ho1 ho2 ho3
    go_wp2_with (go_at_call 28; refine (ref_DigS _ h7 _).mono ?_; rintro r w2 ⟨rfl, hg2⟩; have HG2 := Lib.hid hg2; clear hg2)
    go_ret
    exact ⟨ret_str (by rw [HP.out]; simp [digS_list]), HG.out.same HG2.out⟩
  rw [if_neg ho3] at hp
  have t3 : (e.op == 3) = false := by simp [ho3]
  rw [hp] at hlen
  have hil : (printL e.l).length ≤ 1000000 := by simp only [List.length_cons, List.length_append, List.length_nil] at hlen; omega
  have hds := digS_size h1
  have hd1 : 1 + (digS e.op).size ≤ 9223372036854775807 := by omega
  have HP := Lib.hid hp; clear hp ho1 ho2 ho3 hlen
  go_upto_region 16 with (go_at_call 28; refine (ref_DigS _ h1 _).mono ?_; rintro r w2 ⟨rfl, hg2⟩; have HG2 := Lib.hid hg2; clear hg2)
  have hE2 := HE.out.ext HG2.out id
  have HE2 := Lib.hid hE2
  have e8 := hE2.cell 8
  simp at e8
  clear hE2 e0
  have hX0 : ((⟨#[40]⟩ : ByteArray) ++ digS e.op).size ≤ 22 := by rw [ByteArray.size_append]; show 1 + _ ≤ _; omega
  have HX0 : Hid (((⟨#[40]⟩ : ByteArray) ++ digS e.op).data.toList = 40 :: Lib.itoa e.op) := Lib.hid (by simp [digS_list])
  generalize (⟨#[40]⟩ : ByteArray) ++ digS e.op = X0 at hX0 HX0 ⊢
  unfold maxLen at hmax
  go_wp2_with fail
  go_loopw [3, 4] (fun o i wr => ∃ (k : Nat) (X : ByteArray), k ≤ e.l.length ∧ o = .string X ∧ Hid (X.data.toList = 40 :: Lib.itoa e.op ++ printL (e.l.take k)) ∧ i = .int .i64 k ∧ Gro w2 wr) (fun _ i _ => e.l.length - (intOf i).toNat)
  case atStart => exact ⟨0, X0, Nat.zero_le _, rfl, Lib.hid (by rw [HX0.out]; simp [printL]), by go_num, Ext.refl _ _⟩
  case round =>
    obtain ⟨k, X, hk, rfl, HXL, rfl, hGr⟩ := hrel
    have hEr := HE2.out.ext hGr id
    have er8 := hEr.cell 8
    simp at er8
    have lr := hEr.lt
    have HGR := Lib.hid hGr
    have hXs : X.size ≤ 1000100 := by
      have := congrArg List.length HXL.out
      have h1' := printL_take_le e.l k
      have h2' := Lib.itoa_length_le e.op h1.1 h1.2
      have h3' : X.data.toList.length = X.size := by simp
      rw [h3'] at this
      simp only [List.length_append, List.length_cons] at this
      omega
    clear hEr hGr e8
    by_cases hlt : k < e.l.length
    · have hG0 : Gro w0 wr := ((HX.out.same HG.out).same HG2.out).same HGR.out
      have hLa := HL.out.gro hG0
      obtain ⟨_, bA, offA, hAe, hcA⟩ := hLa.elem k hlt
      obtain ⟨A', cap', hcs⟩ := (hLa.hl k hlt).shape
      have hca : ∀ j v, (cells e.l[k] A' cap')[j]? = some v → wr.cell? ((⟨bA, offA + k * 9, none⟩ : Addr).add j) = some v := fun j v h => by rw [Addr.add_lit]; exact hcA j v (by rw [hcs]; exact h)
      have HTK := Lib.hid (List.take_succ_eq_append_getElem hlt)
      have hpk : (printF e.l[k]).length ≤ 1000000 := by
        have h1' := printL_take_le e.l (k + 1)
        rw [HTK.out, printL_snoc] at h1'
        simp only [List.length_append, List.length_cons] at h1'
        omega
      have hC := IH.out k hlt wr hG0 hpk
      rw [hcs] at hC
      generalize e.l[k] = x at hca hC HTK hpk
      subst hAe
      simp only [cells] at hC
      have hts : (⟨(printF x).toArray⟩ : ByteArray).size ≤ 1000000 := by show (printF x).toArray.size ≤ _; simpa using hpk
      obtain ⟨S, hS⟩ : ∃ S : ByteArray, S = ⟨(printF x).toArray⟩ := ⟨_, rfl⟩
      rw [← hS] at hC hts
      have HSL : Hid (S.data.toList = printF x) := Lib.hid (by rw [hS])
      have HC := Lib.hid hC; have HCA := Lib.hid hca
      clear hC hca hLa hcA hcs hS hG0 hpk
      have hx1 : X.size + 1 ≤ 9223372036854775807 := by omega
      have hx2 : (X ++ (⟨#[32]⟩ : ByteArray)).size + S.size ≤ 9223372036854775807 := by rw [ByteArray.size_append]; show X.size + 1 + _ ≤ _; omega
      have hx3 : X.size + 1 + S.size ≤ 9223372036854775807 := by omega
      go_wp2_with (first
        | (refine wpList_load_list rfl 39 (.tmp 72) rfl ⟨bA, offA + k * 9, none⟩ rfl (cells x A' cap') _ Tryd.underlying39 rfl (by kernel_rfl) HCA.out ?_; simp only [cells])
        | (go_at_call 30; refine Calls.mono HC.out ?_; rintro r w3 ⟨rfl, hg3⟩; have HG3 := Lib.hid hg3; clear hg3))
      go_roundw
      case rel =>
        refine ⟨k + 1, _, by omega, rfl, Lib.hid ?_, by go_num, HGR.out.same HG3.out⟩
        rw [HTK.out, printL_snoc]
        simp [HXL.out, HSL.out]
      case measure => simp [intOf]; omega
    · obtain rfl : k = e.l.length := by omega
      have hx1 : X.size + 1 ≤ 9223372036854775807 := by omega
      go_wp2_with fail
      go_ret
      refine ⟨ret_str ?_, (HG.out.same HG2.out).same HGR.out⟩
      rw [HP.out]
      simp [HXL.out]
theorem print_spec : PrintSpec := fun w ok e cs h hr => (ref_Print w ok e cs h w (Ext.refl _ _) (by have := right_print_le h hr; omega))
end Go.Proofs.YtgikebkgihcogaaDoor
