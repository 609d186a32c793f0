/- slices.CompactFunc of a made list: the walk. -/
import Derived.Test.YtgikebkgihcogaaDoorC2
namespace Go.Proofs.YtgikebkgihcogaaDoor
open Go.RowKit Go.Sort
set_option maxHeartbeats 1000000

theorem dedup_one (eq : Ex → Ex → Bool) (xs : List Ex) (h : xs.length < 2) : dedup eq xs = xs := by
  match xs, h with
  | [], _ => rfl
  | [_], _ => rfl
theorem dedup_take_one (eq : Ex → Ex → Bool) (xs : List Ex) : dedup eq (xs.take 1) = xs.take 1 := dedup_one eq _ (by simp; omega)

theorem cells9 {w : World} {b o : Nat} {x : Ex} {A : Option Addr} {c : Nat} (hb : b < w.heap.size) (h : ∀ i v, (cells x A c)[i]? = some v → w.cell? ⟨b, o + i, none⟩ = some v) :
    (∀ m os, (Sort.grow (w.drewN m) os).cell? ⟨b, o, none⟩ = some (Value.int .i64 x.op)) ∧ (∀ m os, (Sort.grow (w.drewN m) os).cell? ⟨b, o + 1, none⟩ = some (Value.int .i64 x.kind)) ∧ (∀ m os, (Sort.grow (w.drewN m) os).cell? ⟨b, o + 2, none⟩ = some (Value.int .i64 x.num)) ∧
    (∀ m os, (Sort.grow (w.drewN m) os).cell? ⟨b, o + 3, none⟩ = some (Value.string x.vs)) ∧ (∀ m os, (Sort.grow (w.drewN m) os).cell? ⟨b, o + 4, none⟩ = some (Value.int .i64 x.rel)) ∧ (∀ m os, (Sort.grow (w.drewN m) os).cell? ⟨b, o + 5, none⟩ = some (Value.int .i64 x.col)) ∧
    (∀ m os, (Sort.grow (w.drewN m) os).cell? ⟨b, o + 6, none⟩ = some (Value.int .i64 x.n)) ∧ (∀ m os, (Sort.grow (w.drewN m) os).cell? ⟨b, o + 7, none⟩ = some (Value.string x.s)) ∧ (∀ m os, (Sort.grow (w.drewN m) os).cell? ⟨b, o + 8, none⟩ = some (Value.slice A x.l.length c)) :=
  ⟨fun m os => cell_grown hb (h 0 _ rfl) m os, fun m os => cell_grown hb (h 1 _ rfl) m os, fun m os => cell_grown hb (h 2 _ rfl) m os, fun m os => cell_grown hb (h 3 _ rfl) m os, fun m os => cell_grown hb (h 4 _ rfl) m os, fun m os => cell_grown hb (h 5 _ rfl) m os, fun m os => cell_grown hb (h 6 _ rfl) m os, fun m os => cell_grown hb (h 7 _ rfl) m os, fun m os => cell_grown hb (h 8 _ rfl) m os⟩
theorem flatten_take (css : List (List Value)) (h : ∀ cs ∈ css, cs.length = 9) : ∀ k, css.flatten.take (k * 9) = (css.take k).flatten := by
  induction css with
  | nil => intro k; simp
  | cons d css ih =>
    intro k
    have hd := h d List.mem_cons_self
    cases k with
    | zero => simp
    | succ k =>
      have := ih (fun cs hcs => h cs (List.mem_cons_of_mem _ hcs)) k
      simp only [List.flatten_cons, List.take_succ_cons]
      rw [List.take_append, List.take_of_length_le (by omega), hd, show (k + 1) * 9 - 9 = k * 9 from by omega, this]
theorem flatten_len (css : List (List Value)) (h : ∀ cs ∈ css, cs.length = 9) : css.flatten.length = css.length * 9 := by
  induction css with
  | nil => rfl
  | cons d css ih =>
    have hd := h d List.mem_cons_self
    have := ih (fun cs hcs => h cs (List.mem_cons_of_mem _ hcs))
    simp only [List.flatten_cons, List.length_append, List.length_cons]; omega
/-- The end: the rest cleared, the front kept. -/
theorem compact_end {w w' : World} {base b n cap : Nat} {eq : Ex → Ex → Bool} {ps qs : List (EP w (OkM w base (.slice (some ⟨b, 0, none⟩) n cap)))} {kk : Nat} (hn : ps.length = n) (hI : CInv eq ps qs n kk)
    (hx : Ext (fun k => (Value.slice (some ⟨b, 0, none⟩) n cap).ownBlock = some k) w w') (zs : List Value) (_hz : zs.length = (n - kk) * 9)
    (ho : w'.ownsRow base 39 9 (.slice (some ⟨b, 0, none⟩) n cap) n ((qs.map encE).flatten.take (kk * 9) ++ zs ++ (qs.map encE).flatten.drop (kk * 9 + zs.length))) :
    Made w' base (.slice (some ⟨b, 0, none⟩) kk cap) (dedup eq (ps.map exE)) := by
  have hl := hI.len; have hlt := hI.lt
  have hlen : ∀ cs ∈ qs.map encE, cs.length = 9 := fun cs h => by obtain ⟨x, _, rfl⟩ := List.mem_map.1 h; exact x.2.length
  have h1 := own_shrink ho kk (by omega)
  have htk : ((qs.map encE).flatten.take (kk * 9) ++ zs ++ (qs.map encE).flatten.drop (kk * 9 + zs.length)).take (kk * 9) = ((qs.take kk).map encE).flatten := by
    have hfl : (qs.map encE).flatten.length = n * 9 := by rw [flatten_len _ hlen, List.length_map, hl, hn]
    rw [List.append_assoc, List.take_append_of_le_length (by simp only [List.length_take]; omega), List.take_take, Nat.min_self, flatten_take _ hlen, List.map_take]
  rw [htk] at h1
  have hd := hI.done
  rw [List.take_of_length_le (l := ps.map exE) (by simp; omega)] at hd
  rw [← hd]
  have hq : (qs.take kk).length = kk := by simp; omega
  have h2 : w'.ownsRow base 39 9 (.slice (some ⟨b, 0, none⟩) kk cap) (qs.take kk).length ((qs.take kk).map encE).flatten := by rw [hq]; exact h1
  exact Made.ofPs (w := w) (v := .slice (some ⟨b, 0, none⟩) kk cap) (qs.take kk) hx h2

theorem run_zeroE : ∃ z : Value, (∀ w, (zeroValue 39).run Tryd.prog w = .ok z w) ∧ z.cells.size = 9 ∧ ∀ v ∈ z.cells.toList, v.oneCell' = true :=
  ⟨.agg #[(.int .i64 0), (.int .i64 0), (.int .i64 0), (.string ⟨#[]⟩), (.int .i64 0), (.int .i64 0), (.int .i64 0), (.string ⟨#[]⟩), (.slice none 0 0)], fun w => by kernel_rfl, rfl, by simp [Value.cells, Value.oneCell']⟩

set_option maxRecDepth 100000 in
theorem slices_CompactFunc (w : World) (base : Nat) (v : Value) (xs : List Ex) (h : Made w base v xs) (hn : xs.length ≤ 1353245080300) (g : Nat)
    (eg : ∀ args w, (callFunc g args).run Tryd.prog w = .ok (.enter g args) w) (eq : Ex → Ex → Bool)
    (hcmp : ∀ (ok : Nat → Prop) (x y : Ex) (cs ds : List Value) (w1 : World), Ext (fun k => v.ownBlock = some k) w w1 → Rep w1 ok x cs → Rep w1 ok y ds →
      Calls Tryd.prog g #[.agg cs.toArray, .agg ds.toArray] w1 fun e w2 => e = .returned (.bool (eq x y)) ∧ Gro w1 w2) :
    Calls Tryd.prog 43 #[v, .func (.func g) #[] #[]] w fun e w' =>
      ∃ v', e = .returned v' ∧ Made w' base v' (dedup eq xs) ∧ Ext (fun k => v.ownBlock = some k) w w' := by
  have mixed : Tryd.prog.follows .mixedOrders = true := by kernel_rfl
  by_cases h2 : xs.length < 2
  · obtain ⟨A, cap, _, rfl, _⟩ := h.lrep
    have HM := Lib.hid h; clear h hcmp
    have h2' : (xs.length : Int) < 2 := by omega
    go_enter Tryd.func43, Tryd.ntmps43
    go_wp2_with fail
    go_ret
    exact ⟨_, rfl, by rw [dedup_one eq xs h2]; exact HM.out, Ext.refl _ _⟩
  · obtain ⟨b, cap, rfl, hb⟩ := h.slice (by intro e; rw [e] at h2; simp at h2)
    obtain ⟨ps, hps, hown⟩ := h.ps
    have hlen : ps.length = xs.length := by have := congrArg List.length hps; simpa using this
    rw [hlen] at hown
    obtain ⟨_, _, _, hcap, hmax⟩ := own_size hown
    have HC := Lib.hid hcmp; have HPS := Lib.hid hps; have HLEN := Lib.hid hlen; have HOWN := Lib.hid hown
    clear hcmp hps hlen hown h
    generalize hnn : xs.length = n at *
    have hbase := hb
    have h2n : ¬ (n : Int) < 2 := by omega
    go_enter Tryd.func43, Tryd.ntmps43
    go_wp2_with fail
    go_loopw [5] (fun i wr => ∃ k : Nat, 1 ≤ k ∧ k ≤ n ∧ i = .int .i64 k ∧ wr.ownsRow base 39 9 (.slice (some ⟨b, 0, none⟩) n cap) n (ps.map encE).flatten ∧ Ext (fun k => (Value.slice (some ⟨b, 0, none⟩) n cap).ownBlock = some k) w wr ∧ dedup eq (xs.take k) = xs.take k) (fun i _ => n - (intOf i).toNat)
    case atStart => exact ⟨1, Nat.le_refl _, by omega, rfl, HOWN.out, Ext.refl _ _, dedup_take_one eq xs⟩
    case round =>
      obtain ⟨k, hk1, hk, rfl, hO, hX, hD⟩ := hrel
      by_cases hlt : k < n
      · have hkp : k < ps.length := by rw [HLEN.out]; exact hlt
        have hkp' : k - 1 < ps.length := by omega
        have hat1 := own_at ps hO k hkp
        have hat0 := own_at ps hO (k - 1) hkp'
        have hR1 : Rep wr (OkM w base (.slice (some ⟨b, 0, none⟩) n cap)) (exE ps[k]) (encE ps[k]) := (ps[k].2).ext hX fun i hi _ => hi.2.2
        have hR0 : Rep wr (OkM w base (.slice (some ⟨b, 0, none⟩) n cap)) (exE ps[k - 1]) (encE ps[k - 1]) := (ps[k - 1].2).ext hX fun i hi _ => hi.2.2
        obtain ⟨A1, c1, hs1⟩ := hR1.shape
        obtain ⟨A0, c0, hs0⟩ := hR0.shape
        rw [hs1] at hat1 hR1
        rw [hs0] at hat0 hR0
        have HE : Hid (eq (exE ps[k]) (exE ps[k - 1]) = eq (exE ps[k]) (exE ps[k - 1])) := Lib.hid rfl
        generalize hx1 : exE ps[k] = x1 at hat1 hR1
        generalize hx0 : exE ps[k - 1] = x0 at hat0 hR0
        have hbl : b < wr.heap.size := Nat.lt_of_lt_of_le hb hX.size
        obtain ⟨q0, q1, q2, q3, q4, q5, q6, q7, q8⟩ := cells9 hbl hat1
        obtain ⟨p0, p1, p2, p3, p4, p5, p6, p7, p8⟩ := cells9 hbl hat0
        have hcl : ∀ m os, Calls Tryd.prog g #[.agg (cells x1 A1 c1).toArray, .agg (cells x0 A0 c0).toArray] (Sort.grow (wr.drewN m) os) fun e w' => e = .returned (.bool (eq x1 x0)) ∧ ∃ q os', w' = Sort.grow ((Sort.grow (wr.drewN m) os).drewN q) os' := fun m os =>
          (HC.out _ x1 x0 _ _ _ (hX.then_ (Ext.of_grow wr m os)) (hR1.gro (Ext.of_grow wr m os)) (hR0.gro (Ext.of_grow wr m os))).mono fun _ _ h => ⟨h.1, h.2.grow⟩
        simp only [cells] at hcl
        have HCL := Lib.hid hcl; have HO := Lib.hid hO; have HX := Lib.hid hX; have HD := Lib.hid hD
        have HX1 := Lib.hid hx1; have HX0 := Lib.hid hx0
        have hkm : ((k : Int) - 1) = ((k - 1 : Nat) : Int) := by omega
        have hk1n : k - 1 < n := by omega
        clear hcl hO hX hD hx1 hx0 hat1 hat0 hR1 hR0 hs1 hs0 HE
        go_upto_region 6 with (fail)
        refine wp_region_quiet_grown mixed (by kernel_rfl) ?_
        repeat (go_big_quiet_step (refine Calls.grown_of (HCL.out _ _)))
        refine wpQuiet_nil ?_
        intro _ hw'
        obtain ⟨⟨nq, osq⟩, hw''⟩ := hw'
        subst hw''
        have hG := Ext.of_grow wr nq osq
        have hX2 := HX.out.then_ hG
        have hO2 : (Sort.grow (wr.drewN nq) osq).ownsRow base 39 9 (.slice (some ⟨b, 0, none⟩) n cap) n (ps.map encE).flatten := HO.out.kept (row := none) ⟨hG.os, hG.tape, hG.output, hG.size, fun k hk _ => hG.block k hk id⟩ (.inr (by intro e; cases e))
        clear p0 p1 p2 p3 p4 p5 p6 p7 p8 q0 q1 q2 q3 q4 q5 q6 q7 q8 hG
        generalize Sort.grow (wr.drewN nq) osq = wc at hX2 hO2 ⊢
        have HX2 := Lib.hid hX2; have HO2 := Lib.hid hO2; clear hX2 hO2
        by_cases he : eq x1 x0 = true
        · rw [he]
          have HEQ := Lib.hid he; clear he
          go_wp2_with fail
          go_loopw [5, 7] (fun v5 v7 w2 => ∃ (kk k2 : Nat) (qs : List (EP w (OkM w base (.slice (some ⟨b, 0, none⟩) n cap)))), v5 = .int .i64 kk ∧ v7 = .int .i64 k2 ∧ 1 ≤ k2 ∧ CInv eq ps qs (k + k2) kk ∧ w2.ownsRow base 39 9 (.slice (some ⟨b, 0, none⟩) n cap) n (qs.map encE).flatten ∧ Ext (fun k => (Value.slice (some ⟨b, 0, none⟩) n cap).ownBlock = some k) w w2) (fun _ v7 _ => n - k - (intOf v7).toNat)
          case atStart => exact ⟨k, 1, ps, rfl, rfl, Nat.le_refl _, CInv.start hk1 hkp (by rw [HPS.out]; exact HD.out) (by rw [HX1.out, HX0.out]; exact HEQ.out), HO2.out, HX2.out⟩
          case round =>
            obtain ⟨kk, k2, qs, rfl, rfl, hk2, hI, hO3, hX3⟩ := hrel
            have hIlt := hI.lt; have hIle := hI.le; have hIlen := hI.len
            rw [HLEN.out] at hIle hIlen
            by_cases hlt2 : k + k2 < n
            · have hjq : k + k2 < qs.length := by rw [hIlen]; exact hlt2
              have hjq' : k + k2 - 1 < qs.length := by omega
              have hjp : k + k2 < ps.length := by rw [HLEN.out]; exact hlt2
              have hjp' : k + k2 - 1 < ps.length := by omega
              have e1 : qs[k + k2] = ps[k + k2] := hI.high _ hjp hjq (by omega)
              have e0 : qs[k + k2 - 1] = ps[k + k2 - 1] := hI.high _ hjp' hjq' (by omega)
              have hat1 := own_at qs hO3 (k + k2) hjq
              have hat0 := own_at qs hO3 (k + k2 - 1) hjq'
              rw [e1] at hat1
              rw [e0] at hat0
              have hR1 : Rep wr (OkM w base (.slice (some ⟨b, 0, none⟩) n cap)) (exE ps[k + k2]) (encE ps[k + k2]) := (ps[k + k2].2).ext hX3 fun i hi _ => hi.2.2
              have hR0 : Rep wr (OkM w base (.slice (some ⟨b, 0, none⟩) n cap)) (exE ps[k + k2 - 1]) (encE ps[k + k2 - 1]) := (ps[k + k2 - 1].2).ext hX3 fun i hi _ => hi.2.2
              obtain ⟨A3, c3, hs3⟩ := hR1.shape
              obtain ⟨A2, c2, hs2⟩ := hR0.shape
              have HS3 := Lib.hid hs3
              rw [hs3] at hat1 hR1
              rw [hs2] at hat0 hR0
              rw [Nat.add_mul] at hat1
              rw [show (k + k2 - 1) * 9 = k * 9 + (k2 - 1) * 9 from by omega] at hat0
              generalize hx3 : exE ps[k + k2] = x3 at hat1 hR1 HS3
              generalize hx2 : exE ps[k + k2 - 1] = x2 at hat0 hR0
              have hbl2 : b < wr.heap.size := Nat.lt_of_lt_of_le hb hX3.size
              obtain ⟨q0, q1, q2, q3, q4, q5, q6, q7, q8⟩ := cells9 hbl2 hat1
              obtain ⟨p0, p1, p2, p3, p4, p5, p6, p7, p8⟩ := cells9 hbl2 hat0
              have hcl : ∀ m os, Calls Tryd.prog g #[.agg (cells x3 A3 c3).toArray, .agg (cells x2 A2 c2).toArray] (Sort.grow (wr.drewN m) os) fun e w' => e = .returned (.bool (eq x3 x2)) ∧ ∃ q os', w' = Sort.grow ((Sort.grow (wr.drewN m) os).drewN q) os' := fun m os =>
                (HC.out _ x3 x2 _ _ _ (hX3.then_ (Ext.of_grow wr m os)) (hR1.gro (Ext.of_grow wr m os)) (hR0.gro (Ext.of_grow wr m os))).mono fun _ _ h => ⟨h.1, h.2.grow⟩
              simp only [cells] at hcl
              have HCL := Lib.hid hcl; have HO3 := Lib.hid hO3; have HX3' := Lib.hid hX3; have HI := Lib.hid hI
              have HX3 := Lib.hid hx3; have HX2' := Lib.hid hx2
              have hkm2 : ((k2 : Int) - 1) = ((k2 - 1 : Nat) : Int) := by omega
              have hk2n : k2 - 1 < n - k := by omega
              have hk2m : k2 < n - k := by omega
              have hkk9 : kk * 9 + 9 ≤ n * 9 := by omega
              clear hcl hO3 hX3 hx3 hx2 hat1 hat0 hR1 hR0 hs2 hs3 e1 e0 hI
              go_upto_region 11 with (fail)
              refine wp_region_quiet_grown mixed (by kernel_rfl) ?_
              repeat (go_big_quiet_step (refine Calls.grown_of (HCL.out _ _)))
              refine wpQuiet_nil ?_
              intro _ hw'
              obtain ⟨⟨nq2, osq2⟩, hw''⟩ := hw'
              subst hw''
              have hG := Ext.of_grow wr nq2 osq2
              have hX4 := HX3'.out.then_ hG
              have hO4 : (Sort.grow (wr.drewN nq2) osq2).ownsRow base 39 9 (.slice (some ⟨b, 0, none⟩) n cap) n (qs.map encE).flatten := HO3.out.kept (row := none) ⟨hG.os, hG.tape, hG.output, hG.size, fun k hk _ => hG.block k hk id⟩ (.inr (by intro e; cases e))
              clear p0 p1 p2 p3 p4 p5 p6 p7 p8 q0 q1 q2 q3 q4 q5 q6 q7 q8 hG
              generalize Sort.grow (wr.drewN nq2) osq2 = w4 at hX4 hO4 ⊢
              by_cases he2 : eq x3 x2 = true
              · rw [he2]
                have HEQ2 := Lib.hid he2; have HX4 := Lib.hid hX4; have HO4 := Lib.hid hO4; clear he2 hX4 hO4
                go_wp2_with fail
                go_roundw
                case rel => exact ⟨kk, k2 + 1, qs, rfl, by go_num, by omega, HI.out.skip hjp (by rw [HX3.out, HX2'.out]; exact HEQ2.out), HO4.out, HX4.out⟩
                case measure => simp [intOf]; omega
              · have he2' : eq x3 x2 = false := by simpa using he2
                rw [he2']
                have hat3 := own_at qs hO4 (k + k2) hjq
                rw [HI.out.high _ hjp hjq (by omega), HS3.out, Nat.add_mul] at hat3
                have hcc : ∀ j v, (cells x3 A3 c3)[j]? = some v → w4.cell? ((⟨b, k * 9 + k2 * 9, none⟩ : Addr).add j) = some v := fun j v h => by rw [Addr.add_lit]; exact hat3 j v h
                obtain ⟨cur, hBc, hoc, hO5⟩ := own_put hO4 (kk * 9) (cells x3 A3 c3) (by simp only [cells, List.length_cons, List.length_nil]; omega)
                have HEQ2 := Lib.hid he2'; have HX4 := Lib.hid hX4; have HO4 := Lib.hid hO4; have HCC := Lib.hid hcc; have HBC := Lib.hid hBc; have HOC := Lib.hid hoc; have HO5 := Lib.hid hO5
                clear he2 he2' hX4 hO4 hcc hBc hoc hO5 hat3
                go_wp2_with (first
                  | (refine wpList_load_list rfl 39 (.tmp 54) rfl ⟨b, k * 9 + k2 * 9, none⟩ rfl (cells x3 A3 c3) _ Tryd.underlying39 rfl (by kernel_rfl) HCC.out ?_; simp only [cells])
                  | (refine wpList_store_in rfl 39 (.tmp 56) (.tmp 55) rfl b (kk * 9) (cells x3 A3 c3) cur 39 rfl rfl HBC.out (by kernel_rfl) HOC.out (by simp [cells, Value.oneCell']) ?_))
                go_roundw
                case rel =>
                  refine ⟨kk + 1, k2 + 1, qs.set kk ps[k + k2], by go_num, by go_num, by omega, HI.out.keep hjp (by rw [HX3.out, HX2'.out]; exact HEQ2.out), ?_, ?_⟩
                  · have hf := flatten_set (qs.map encE) (fun cs h => by obtain ⟨x, _, rfl⟩ := List.mem_map.1 h; exact x.2.length) (cells x3 A3 c3) rfl kk (by simp; omega)
                    have := HO5.out
                    rw [show (cells x3 A3 c3).length = 9 from rfl, hf, List.append_assoc] at this
                    rw [List.map_set, HS3.out]
                    exact this
                  · exact HX4.out.setRow b _ (fun _ => rfl)
                case measure => simp [intOf]; omega
            · have hend : k + k2 = n := by omega
              have hz := run_zeroE
              obtain ⟨zv, hzv, hzs, hz1⟩ := hz
              have hzl := zeroCells_len zv.cells (n - kk)
              rw [hzs] at hzl
              obtain ⟨cur, hBc, hoc, hO5⟩ := own_put hO3 (kk * 9) (Builtin.zeroCells zv.cells (n - kk)).toList (by rw [hzl]; omega)
              have hcl : ∀ ty, (Builtin.clear_ #[23] ty #[.slice (some ⟨b, kk * 9, none⟩) (n - kk) (cap - kk)]).run Tryd.prog wr = .ok (.tuple #[]) _ := fun ty =>
                run_clear_in wr _ 39 ty zv Tryd.underlying23 (hzv wr) b (kk * 9) (n - kk) (cap - kk) (by omega) cur 39 hBc _ rfl (fun v hv => hz1 v (zeroCells_mem _ _ (by omega) v hv)) hoc
              have hX5 := hX3.setRow b (cur.toList.take (kk * 9) ++ (Builtin.zeroCells zv.cells (n - kk)).toList ++ cur.toList.drop (kk * 9 + (Builtin.zeroCells zv.cells (n - kk)).toList.length)).toArray (fun _ => rfl)
              have hE := compact_end HLEN.out (by rw [hend] at hI; exact hI) hX5 _ hzl hO5
              generalize wr.setRow b _ = w6 at hcl hX5 hE
              have HE := Lib.hid hE; have HX5 := Lib.hid hX5
              have hkkn : kk < n := by omega
              clear hE hX5 hO5 hoc hBc hzl hz1 hzs hzv hI hO3 hX3
              go_wp2_with fail
              go_ret
              exact ⟨_, rfl, by rw [← HPS.out]; exact HE.out, HX5.out⟩
        · have he' : eq x1 x0 = false := by simpa using he
          rw [he']
          have HEQ := Lib.hid he'; clear he he'
          go_wp2_with fail
          go_roundw
          case rel =>
            refine ⟨k + 1, by omega, by omega, by go_num, HO2.out, HX2.out, ?_⟩
            have hxs : k < xs.length := by rw [hnn]; exact hlt
            have g1 : xs[k] = exE ps[k] := by simp only [← HPS.out, List.getElem_map]
            have g0 : xs[k - 1]'(by omega) = exE ps[k - 1] := by simp only [← HPS.out, List.getElem_map]
            rw [dedup_take eq xs k hk1 hxs, g1, g0, HX1.out, HX0.out, if_neg (by simp [HEQ.out]), HD.out, List.take_succ_eq_append_getElem hxs, g1, HX1.out]
          case measure => simp [intOf]; omega
      · obtain rfl : k = n := by omega
        have hE : Made wr base (.slice (some ⟨b, 0, none⟩) k cap) xs := by
          rw [← HPS.out]
          exact Made.ofPs ps hX (by rw [HLEN.out]; exact hO)
        have HE := Lib.hid hE; have HX := Lib.hid hX; have HD := Lib.hid hD
        clear hE hX hO hD
        go_wp2_with fail
        go_ret
        refine ⟨_, rfl, ?_, HX.out⟩
        have := HD.out
        rw [List.take_of_length_le (by omega)] at this
        rw [this]; exact HE.out
end Go.Proofs.YtgikebkgihcogaaDoor
