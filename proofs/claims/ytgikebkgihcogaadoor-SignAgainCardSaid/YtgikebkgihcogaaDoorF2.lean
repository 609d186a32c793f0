/- The laws' exprs, at two lists of right expressions with the same texts: given what the reference's Print does. -/
import Derived.Test.YtgikebkgihcogaaDoorF1
namespace Go.Proofs.YtgikebkgihcogaaDoor
open Go.RowKit Go.Sort
set_option maxHeartbeats 1000000

/-- The reference's Print at a right expression. -/
def PrintSpec : Prop := ∀ (w : World) (ok : Nat → Prop) (e : Ex) (cs : List Value), Rep w ok e cs → rightF e = true →
  Calls Tryd.prog 30 #[.agg cs.toArray] w fun r w' => r = .returned (.string ⟨(printF e).toArray⟩) ∧ Gro w w'

set_option maxRecDepth 100000 in
theorem law_exprs (hP : PrintSpec) (w : World) (ok ok' : Nat → Prop) (A B : Option Addr) (ca cb : Nat) (xs ys : List Ex) (css ds : Nat → List Value) (hA : LRep w ok A xs css) (hB : LRep w ok' B ys ds)
    (hx : ∀ x ∈ xs, rightF x = true) (hy : ∀ y ∈ ys, rightF y = true) (hn : xs.length ≤ 9223372036854775807) (he : xs.map printF = ys.map printF) :
    Calls Tryd.prog 16 #[.slice A xs.length ca, .slice B ys.length cb] w fun r w' => r = .returned (.bool true) ∧ Gro w w' := by
  have hlen : ys.length = xs.length := by have := congrArg List.length he; simpa using this.symm
  have HPR : Hid (∀ i (h : i < xs.length) (h' : i < ys.length), printF xs[i] = printF ys[i]) := Lib.hid fun i h h' => by
    have := congrArg (fun l => l[i]?) he
    simpa [List.getElem?_eq_getElem h, List.getElem?_eq_getElem h'] using this
  have HA := Lib.hid hA; have HB := Lib.hid hB; have HX := Lib.hid hx; have HY := Lib.hid hy; have HP := Lib.hid hP; have HLEN := Lib.hid hlen
  clear hA hB hx hy hP he
  rw [hlen]
  clear hlen
  have hne : ((xs.length : Int) != (xs.length : Int)) = false := by simp
  go_enter Tryd.func16, Tryd.ntmps16
  go_wp2_with fail
  go_loopw [5] (fun i wr => ∃ k : Nat, k ≤ xs.length ∧ i = .int .i64 k ∧ Gro w wr) (fun i _ => xs.length - (intOf i).toNat)
  case atStart => exact ⟨0, Nat.zero_le _, rfl, Ext.refl _ _⟩
  case round =>
    obtain ⟨k, hk, rfl, hG⟩ := hrel
    by_cases hlt : k < xs.length
    · have hlt' : k < ys.length := by rw [HLEN.out]; exact hlt
      have hLa := HA.out.gro hG
      obtain ⟨_, bA, offA, hAe, hcA⟩ := hLa.elem k hlt
      obtain ⟨A', cap', hcs⟩ := (hLa.hl k hlt).shape
      have hRa := hLa.hl k hlt
      have hLb := HB.out.gro hG
      obtain ⟨_, bB, offB, hBe, hcB⟩ := hLb.elem k hlt'
      obtain ⟨B', capb', hds⟩ := (hLb.hl k hlt').shape
      have hRb := hLb.hl k hlt'
      rw [hcs] at hRa
      rw [hds] at hRb
      have hca : ∀ j v, (cells xs[k] A' cap')[j]? = some v → wr.cell? ((⟨bA, offA + k * 9, none⟩ : Addr).add j) = some v := fun j v h => by rw [Addr.add_lit]; exact hcA j v (by rw [hcs]; exact h)
      have hcb : ∀ j v, (cells ys[k] B' capb')[j]? = some v → wr.cell? ((⟨bB, offB + k * 9, none⟩ : Addr).add j) = some v := fun j v h => by rw [Addr.add_lit]; exact hcB j v (by rw [hds]; exact h)
      have hpr := HPR.out k hlt hlt'
      have hxr := HX.out _ (List.getElem_mem hlt)
      have hyr := HY.out _ (List.getElem_mem hlt')
      generalize xs[k] = x at hRa hca hpr hxr
      generalize ys[k] = y at hRb hcb hpr hyr
      subst hAe hBe
      have hPa := HP.out wr ok x _ hRa hxr
      simp only [cells] at hPa
      have HPA := Lib.hid hPa; have HCA := Lib.hid hca; have HCB := Lib.hid hcb; have HRB := Lib.hid hRb; have HG := Lib.hid hG; have HE := Lib.hid hpr; have HYR := Lib.hid hyr
      clear hPa hca hcb hRa hRb hLa hLb hG hpr hcA hcB hcs hds hxr hyr
      go_upto_region 7 with (first
        | (refine wpList_load_list rfl 39 (.tmp 21) rfl ⟨bA, offA + k * 9, none⟩ rfl (cells x A' cap') _ Tryd.underlying39 rfl (by kernel_rfl) HCA.out ?_; simp only [cells])
        | (go_at_call 30; refine Calls.mono HPA.out ?_; rintro r w1 ⟨rfl, hg1⟩; have HG1 := Lib.hid hg1; clear hg1))
      have hPb := HP.out w1 ok' y _ (HRB.out.gro HG1.out) HYR.out
      have hcb1 : ∀ j v, (cells y B' capb')[j]? = some v → w1.cell? ((⟨bB, offB + k * 9, none⟩ : Addr).add j) = some v := fun j v h => HG1.out.cell (HCB.out j v h) id
      simp only [cells] at hPb
      have HPB := Lib.hid hPb; have HCB1 := Lib.hid hcb1
      clear hPb hcb1
      go_upto_region 8 with (first
        | (refine wpList_load_list rfl 39 (.tmp 26) rfl ⟨bB, offB + k * 9, none⟩ rfl (cells y B' capb') _ Tryd.underlying39 rfl (by kernel_rfl) HCB1.out ?_; simp only [cells])
        | (go_at_call 30; refine Calls.mono HPB.out ?_; rintro r w2 ⟨rfl, hg2⟩; have HG2 := Lib.hid hg2; clear hg2))
      rw [HE.out]
      obtain ⟨S, hS⟩ : ∃ S : ByteArray, S = ⟨(printF y).toArray⟩ := ⟨_, rfl⟩
      rw [← hS]
      clear hS
      have hss : (S.toList == S.toList) = true := by simp
      go_wp2_with fail
      go_roundw
      case rel => exact ⟨k + 1, by omega, by go_num, (HG.out.same HG1.out).same HG2.out⟩
      case measure => simp [intOf]; omega
    · obtain rfl : k = xs.length := by omega
      have HG := Lib.hid hG; clear hG
      go_wp2_with fail
      go_ret
      exact ⟨rfl, HG.out⟩
end Go.Proofs.YtgikebkgihcogaaDoor
