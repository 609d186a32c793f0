/- Walks: slices.IndexFunc and ContainsFunc at expressions, whatever the function does. -/
import Derived.Test.YtgikebkgihcogaaDoorW1
import Derived.Shelf.Abstract
namespace Go.Proofs.YtgikebkgihcogaaDoor
open Go.RowKit
set_option maxHeartbeats 400000

/-- What an element of a slice of expressions reads as. -/
def Elem (w : World) (A : Option Addr) (i : Nat) (cs : List Value) : Prop :=
  cs.length = 9 ∧ ∃ b off, A = some ⟨b, off, none⟩ ∧ ∀ j v, cs[j]? = some v → w.cell? ⟨b, off + i * 9 + j, none⟩ = some v

def IdxPost (n : Nat) (J K : Nat → World → Prop) (e : Ending) (w' : World) : Prop :=
  (e = .returned (.int .i64 (-1)) ∧ J n w') ∨ ∃ i, i < n ∧ e = .returned (.int .i64 (i : Nat)) ∧ K i w'
def StepPost (J K : World → Prop) (e : Ending) (w' : World) : Prop :=
  (e = .returned (.bool false) ∧ J w') ∨ (e = .returned (.bool true) ∧ K w')

theorem slices_IndexFunc (g : Nat) (cb : Array Value) (A : Option Addr) (n cap : Nat) (css : Nat → List Value) (J K : Nat → World → Prop) (w : World) (hn : n ≤ maxLen)
    (eg : ∀ args w, (callFunc g args).run Tryd.prog w = .ok (.enter g args) w) (h0 : J 0 w)
    (hread : ∀ i w1, i < n → J i w1 → Elem w1 A i (css i))
    (hcall : ∀ i w1, i < n → J i w1 → Calls Tryd.prog g (#[.agg (css i).toArray] ++ cb) w1 (StepPost (J (i + 1)) (K i))) :
    Calls Tryd.prog 58 #[.slice A n cap, .func (.func g) #[] cb] w (IdxPost n J K) := by
  unfold maxLen at hn
  have HR := Lib.hid hread; have HC := Lib.hid hcall; clear hread hcall
  go_enter Tryd.func58, Tryd.ntmps58
  go_wp2_with fail
  go_loopw [8] (fun i wr => ∃ k : Nat, k ≤ n ∧ i = .int .i64 k ∧ J k wr) (fun i _ => n - (intOf i).toNat)
  case atStart => exact ⟨0, Nat.zero_le _, rfl, h0⟩
  case round =>
    obtain ⟨k, hk, rfl, hJ⟩ := hrel
    by_cases hlt : k < n
    · obtain ⟨hlen, b, off, rfl, hc⟩ := HR.out k wr hlt hJ
      have HCk := HC.out k wr hlt hJ
      have HCK := Lib.hid HCk
      have h39 : (Tryd.prog.info? 39).map (·.size) = some (css k).length := by rw [hlen]; kernel_rfl
      have hcc : ∀ j v, (css k)[j]? = some v → wr.cell? ((⟨b, off + k * 9, none⟩ : Addr).add j) = some v := fun j v h => by rw [Addr.add_lit]; exact hc j v h
      have H39 := Lib.hid h39; have HCC := Lib.hid hcc; clear HCk hc hcc h39 hlen
      go_wp2_with (refine wpList_load_list rfl 39 (.tmp 14) rfl ⟨b, off + k * 9, none⟩ rfl (css k) _ Tryd.underlying39 rfl H39.out HCC.out ?_)
      refine HCK.out.mono ?_
      rintro e w1 (⟨rfl, hj⟩ | ⟨rfl, hk1⟩)
      · go_wp2_with fail
        go_roundw
        case rel => exact ⟨k + 1, by omega, by go_num, hj⟩
        case measure => simp [intOf]; omega
      · go_wp2_with fail
        go_ret
        exact .inr ⟨k, hlt, rfl, hk1⟩
    · obtain rfl : k = n := by omega
      go_wp2_with fail
      go_ret
      exact .inl ⟨rfl, hJ⟩

theorem slices_ContainsFunc (g : Nat) (cb : Array Value) (A : Option Addr) (n cap : Nat) (css : Nat → List Value) (J : Nat → World → Prop) (K : World → Prop) (w : World) (hn : n ≤ maxLen)
    (eg : ∀ args w, (callFunc g args).run Tryd.prog w = .ok (.enter g args) w) (h0 : J 0 w)
    (hread : ∀ i w1, i < n → J i w1 → Elem w1 A i (css i))
    (hcall : ∀ i w1, i < n → J i w1 → Calls Tryd.prog g (#[.agg (css i).toArray] ++ cb) w1 (StepPost (J (i + 1)) K)) :
    Calls Tryd.prog 35 #[.slice A n cap, .func (.func g) #[] cb] w (StepPost (J n) K) := by
  have hI := slices_IndexFunc g cb A n cap css J (fun _ => K) w hn eg h0 hread hcall
  have HI := Lib.hid hI; clear hI hread hcall eg
  go_enter Tryd.func35, Tryd.ntmps35
  go_wp2_with fail
  refine HI.out.mono ?_
  rintro e w1 (⟨rfl, hj⟩ | ⟨i, hi, rfl, hk1⟩)
  · go_wp2_with fail
    go_ret
    exact .inl ⟨rfl, hj⟩
  · go_wp2_with fail
    go_ret
    exact .inr ⟨rfl, hk1⟩
end Go.Proofs.YtgikebkgihcogaaDoor
