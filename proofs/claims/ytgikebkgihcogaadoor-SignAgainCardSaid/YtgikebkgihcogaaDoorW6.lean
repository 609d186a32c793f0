/- Walks: strconv.Itoa, strings.Compare (the library's contracts at this program); expr.put, Text, Same; sign.text. -/
import Derived.Test.YtgikebkgihcogaaDoorW5
import Derived.Test.YtgikebkgihcogaaDoorLay
namespace Go.Proofs.YtgikebkgihcogaaDoor
open Go.RowKit
set_option maxHeartbeats 400000

/-- The library's table of powers of ten, as its start-up lays it. -/
abbrev Tab (w : World) : Prop := Lib.TabIs Tryd.prog w "internal/strconv.uint64pow10" .u64 Lib.pow10Tab

theorem itoa (n : Int) (hn : I64 n) (w : World) (ht : Tab w) :
    Calls Tryd.prog 21 #[.int .i64 n] w fun e w' => e = .returned (.string ⟨(Lib.itoa n).toArray⟩) ∧ Gro w w' :=
  (Any.strconv_Itoa Tryd.itoaL n hn.1 hn.2 w ht).mono fun _ _ ⟨he, k, os, hw⟩ => ⟨he, by rw [hw]; exact Ext.of_grow w k os⟩
theorem compare (a b : ByteArray) (w : World) :
    Calls Tryd.prog 42 #[.string a, .string b] w fun e w' => e = .returned (.int .i64 (Lib.compareBytes a.data.toList b.data.toList)) ∧ w = w' :=
  (Any.strings_Compare Tryd.compareL a b w).mono fun _ _ ⟨he, hw⟩ => ⟨he, hw.symm⟩

theorem Tab.lt {w : World} (h : Tab w) : 1 < w.heap.size := by
  unfold Tab Lib.TabIs World.var? at h
  rw [show Tryd.prog.globalNamed "internal/strconv.uint64pow10" = some 1 by kernel_rfl] at h
  simp only [Option.bind_some] at h
  rcases Nat.lt_or_ge 1 w.heap.size with h' | h'
  · exact h'
  · rw [Array.getElem?_eq_none h'] at h; simp at h
theorem Tab.ext {S : Nat → Prop} {w w' : World} (h : Tab w) (hx : Ext S w w') (hs : ¬ S 1) : Tab w' := by
  have hl := h.lt
  unfold Tab Lib.TabIs World.var? at h ⊢
  rw [show Tryd.prog.globalNamed "internal/strconv.uint64pow10" = some 1 by kernel_rfl] at h ⊢
  simp only [Option.bind_some] at h ⊢
  rw [hx.block _ hl hs]; exact h
theorem Tab.gro {w w' : World} (h : Tab w) (hx : Gro w w') : Tab w' := h.ext hx id

theorem strCells_eq (s : ByteArray) : Lib.strCells s = Lib.byteCells s.data.toList := rfl
theorem byteCells_append (a b : List UInt8) : Lib.byteCells (a ++ b) = Lib.byteCells a ++ Lib.byteCells b := by simp [Lib.byteCells]
theorem BAtAny.gro {B b : Nat} {p : Value} {bs : List Value} {w w' : World} (h : Lib.BuilderAt 54 5 B b p bs w) (hx : Gro w w') : Lib.BuilderAt 54 5 B b p bs w' := by
  obtain ⟨hB, v, hbk, hown, hne⟩ := h
  refine ⟨hB, v, (Blk.ext hbk hx id : Blk w' b _ _), ?_, hne⟩
  exact hown.kept (row := none) ⟨hx.os, hx.tape, hx.output, hx.size, fun k hk _ => hx.block k hk id⟩ (by cases v.ownBlock <;> simp)
theorem BIs.gro {B b : Nat} {bs : List Value} {w w' : World} (h : BIs B b bs w) (hx : Gro w w') : BIs B b bs w' := by
  rcases h with h | h
  · exact .inl (BAtAny.gro h hx)
  · exact .inr (BAtAny.gro h hx)
theorem BIs.base {B b : Nat} {bs : List Value} {w : World} (h : BIs B b bs w) : B ≤ b ∧ b < w.heap.size := by
  rcases h with h | h
  · exact ⟨h.1, h.lt⟩
  · exact ⟨h.1, h.lt⟩

/-- WriteString in lists of bytes. -/
theorem writes (B b : Nat) (l m : List UInt8) (s : ByteArray) (hs : s.data.toList = m) (w : World) (h : BIs B b (Lib.byteCells l) w) (hlen : l.length + m.length ≤ 140737488355328) :
    Calls Tryd.prog 20 #[.pointer (some ⟨b, 0, none⟩), .string s] w fun e w' => e = .returned (.tuple #[.int .i64 s.size, .nilIface]) ∧ BAt B b (Lib.byteCells (l ++ m)) w' ∧ BExt B b w w' := by
  have hb := h.base
  refine (WriteString B b _ s w h (by rw [Lib.byteCells_length]; have : s.size = m.length := by rw [← hs, Array.length_toList]; rfl
                                      omega) (by omega)).mono ?_
  rintro e w' ⟨he, h1, h2⟩
  exact ⟨he, by rw [byteCells_append, ← hs, ← strCells_eq]; exact h1, h2⟩

theorem put1 (n : Int) (hn : I64 n) (B b gb : Nat) (l : List UInt8) (w : World) (h : BIs B b (Lib.byteCells l) w) (hg : Blk w gb #[.pointer (some ⟨b, 0, none⟩)] 51) (ht : Tab w)
    (hlen : l.length + (Lib.itoa n).length ≤ 140737488355328) :
    Calls Tryd.prog 85 (#[.int .i64 n] ++ #[.pointer (some ⟨gb, 0, none⟩)]) w fun e w' => e = .returned (.tuple #[]) ∧ BAt B b (Lib.byteCells (l ++ Lib.itoa n)) w' ∧ BExt B b w w' := by
  have c1 := hg.cell 0
  have l1 := hg.lt
  simp at c1
  have C1 : Hid (w.drew.cell? ⟨gb, 0, none⟩ = some (.pointer (some ⟨b, 0, none⟩))) := Lib.hid c1
  have HB := Lib.hid h; have HT := Lib.hid ht; have HN := Lib.hid hn; have HL := Lib.hid hlen; clear h ht hn hlen hg
  go_enter Tryd.func85, Tryd.ntmps85
  go_wp2_with fail
  go_region_with (first
    | (go_at_call 21; refine (itoa n HN.out _ (HT.out.gro (Ext.refl _ _).drew)).mono ?_; rintro e w1 ⟨rfl, hg1⟩; have c1' := hg1.cell (a := ⟨gb, 0, none⟩) C1.out id; have HG1 := Lib.hid hg1; clear hg1)
    | (go_at_call 20; refine (writes B b l (Lib.itoa n) _ rfl _ (HB.out.gro ((Ext.refl _ _).drew.same HG1.out)) HL.out).mono ?_; rintro e w2 ⟨rfl, hb2, hx2⟩; have HB2 := Lib.hid hb2; have HX2 := Lib.hid hx2; clear hb2 hx2))
  all_goals
    go_end0
    exact ⟨rfl, HB2.out, (BExt.gro ((Ext.refl _ _).drew.same HG1.out)).trans HX2.out⟩

mutual
/-- An expression's text. -/
def printF : Ex → List UInt8
  | .mk op kind num vs rel col n _ l =>
    if op = 1 then
      (if kind = 0 then [78] else if kind = 1 then 73 :: Lib.itoa num else if kind = 2 then 66 :: Lib.itoa num else 84 :: (Lib.itoa vs.size ++ 58 :: vs.data.toList))
    else if op = 2 then 82 :: (Lib.itoa rel ++ 46 :: Lib.itoa col)
    else if op = 3 then 80 :: Lib.itoa n
    else 40 :: (Lib.itoa op ++ (printL l ++ [41]))
def printL : List Ex → List UInt8
  | [] => []
  | x :: xs => 32 :: (printF x ++ printL xs)
end
theorem printF_eq (e : Ex) : printF e = if e.op = 1 then
      (if e.kind = 0 then [78] else if e.kind = 1 then 73 :: Lib.itoa e.num else if e.kind = 2 then 66 :: Lib.itoa e.num else 84 :: (Lib.itoa e.vs.size ++ 58 :: e.vs.data.toList))
    else if e.op = 2 then 82 :: (Lib.itoa e.rel ++ 46 :: Lib.itoa e.col)
    else if e.op = 3 then 80 :: Lib.itoa e.n
    else 40 :: (Lib.itoa e.op ++ (printL e.l ++ [41])) := by cases e; rw [printF]; rfl
theorem printL_snoc (l : List Ex) (x : Ex) : printL (l ++ [x]) = printL l ++ 32 :: printF x := by
  induction l with
  | nil => simp [printL]
  | cons y l ih => simp [printL, ih]
theorem printL_take_le (l : List Ex) (i : Nat) : (printL (l.take i)).length ≤ (printL l).length := by
  induction l generalizing i with
  | nil => simp
  | cons y l ih =>
    cases i with
    | zero => simp [printL]
    | succ i => have := ih i; simp [printL]; omega
end Go.Proofs.YtgikebkgihcogaaDoor
