/- Lines read and written, rows slid, over lists; laws on rows stored in a known world. -/
import Derived.Test.YtgkfhppmopmgjaaOwnI
import Derived.Test.YtgkfhppmopmgjaaSlideRow
import Derived.Test.YtgkfhppmopmgjaaLine0
import Derived.Test.YtgkfhppmopmgjaaLine1
import Derived.Test.YtgkfhppmopmgjaaLine2
import Derived.Test.YtgkfhppmopmgjaaLine3
set_option linter.all false
namespace Go.Proofs.Ytgkfhppmopmgjaa
open Go.RowKit Pl

theorem heap_setRow_same {w : World} {n : Nat} {cs old : Array Value} {e : TypeId} {f : Nat × Nat} (h : w.heap[n]? = some (.cells old e f)) : (w.setRow n cs).heap[n]? = some (.cells cs e f) := by
  simp [World.setRow, Array.getElem?_modify, h]
theorem heap_setRow_other {w : World} {m n : Nat} {cs : Array Value} {r : Option Obj} (hne : m ≠ n) (h : w.heap[m]? = r) : (w.setRow n cs).heap[m]? = r := by
  simp only [World.setRow, Array.getElem?_modify]
  rw [if_neg (Ne.symm hne), h]
theorem below_setRow0 {B : Nat} {w w' : World} {n : Nat} {cs : Array Value} (hB : B ≤ n) (h : RowKit.Below B w w') : RowKit.Below B w (w'.setRow n cs) := by
  refine ⟨h.os, h.tape, h.output, by rw [size_setRow]; exact h.size, fun k hk => ?_⟩
  rw [heap_setRow_other (by omega) rfl]
  exact h.block k hk

theorem line_any (b : List Int) (hb : b.length = 16) (d i : Nat) (hd : d < 4) (hi : i < 4) (w : World) : Calls Try.prog 69 #[aggB b, .int .i64 d, .int .i64 i] w fun e w' => e = .returned (aggB (lineB b d i)) ∧ RowKit.Below w.heap.size w w' := by
  obtain ⟨x0, x1, x2, x3, x4, x5, x6, x7, x8, x9, x10, x11, x12, x13, x14, x15, rfl⟩ := len16 b hb
  match d, hd, i, hi with
  | 0, _, 0, _ => exact line_00 _ _ _ _ _ _ _ _ _ _ _ _ _ _ _ _ w
  | 0, _, 1, _ => exact line_01 _ _ _ _ _ _ _ _ _ _ _ _ _ _ _ _ w
  | 0, _, 2, _ => exact line_02 _ _ _ _ _ _ _ _ _ _ _ _ _ _ _ _ w
  | 0, _, 3, _ => exact line_03 _ _ _ _ _ _ _ _ _ _ _ _ _ _ _ _ w
  | 1, _, 0, _ => exact line_10 _ _ _ _ _ _ _ _ _ _ _ _ _ _ _ _ w
  | 1, _, 1, _ => exact line_11 _ _ _ _ _ _ _ _ _ _ _ _ _ _ _ _ w
  | 1, _, 2, _ => exact line_12 _ _ _ _ _ _ _ _ _ _ _ _ _ _ _ _ w
  | 1, _, 3, _ => exact line_13 _ _ _ _ _ _ _ _ _ _ _ _ _ _ _ _ w
  | 2, _, 0, _ => exact line_20 _ _ _ _ _ _ _ _ _ _ _ _ _ _ _ _ w
  | 2, _, 1, _ => exact line_21 _ _ _ _ _ _ _ _ _ _ _ _ _ _ _ _ w
  | 2, _, 2, _ => exact line_22 _ _ _ _ _ _ _ _ _ _ _ _ _ _ _ _ w
  | 2, _, 3, _ => exact line_23 _ _ _ _ _ _ _ _ _ _ _ _ _ _ _ _ w
  | 3, _, 0, _ => exact line_30 _ _ _ _ _ _ _ _ _ _ _ _ _ _ _ _ w
  | 3, _, 1, _ => exact line_31 _ _ _ _ _ _ _ _ _ _ _ _ _ _ _ _ w
  | 3, _, 2, _ => exact line_32 _ _ _ _ _ _ _ _ _ _ _ _ _ _ _ _ w
  | 3, _, 3, _ => exact line_33 _ _ _ _ _ _ _ _ _ _ _ _ _ _ _ _ w
theorem withLine_any (b : List Int) (hb : b.length = 16) (r : List Int) (hr : r.length = 4) (d i : Nat) (hd : d < 4) (hi : i < 4) (w : World) :
    Calls Try.prog 70 #[aggB b, .int .i64 d, .int .i64 i, aggB r] w fun e w' => e = .returned (aggB (putL b d i r)) ∧ RowKit.Below w.heap.size w w' := by
  obtain ⟨x0, x1, x2, x3, x4, x5, x6, x7, x8, x9, x10, x11, x12, x13, x14, x15, rfl⟩ := len16 b hb
  obtain ⟨r0, r1, r2, r3, rfl⟩ := len4 r hr
  match d, hd, i, hi with
  | 0, _, 0, _ => exact withLine_00 _ _ _ _ _ _ _ _ _ _ _ _ _ _ _ _ _ _ _ _ w
  | 0, _, 1, _ => exact withLine_01 _ _ _ _ _ _ _ _ _ _ _ _ _ _ _ _ _ _ _ _ w
  | 0, _, 2, _ => exact withLine_02 _ _ _ _ _ _ _ _ _ _ _ _ _ _ _ _ _ _ _ _ w
  | 0, _, 3, _ => exact withLine_03 _ _ _ _ _ _ _ _ _ _ _ _ _ _ _ _ _ _ _ _ w
  | 1, _, 0, _ => exact withLine_10 _ _ _ _ _ _ _ _ _ _ _ _ _ _ _ _ _ _ _ _ w
  | 1, _, 1, _ => exact withLine_11 _ _ _ _ _ _ _ _ _ _ _ _ _ _ _ _ _ _ _ _ w
  | 1, _, 2, _ => exact withLine_12 _ _ _ _ _ _ _ _ _ _ _ _ _ _ _ _ _ _ _ _ w
  | 1, _, 3, _ => exact withLine_13 _ _ _ _ _ _ _ _ _ _ _ _ _ _ _ _ _ _ _ _ w
  | 2, _, 0, _ => exact withLine_20 _ _ _ _ _ _ _ _ _ _ _ _ _ _ _ _ _ _ _ _ w
  | 2, _, 1, _ => exact withLine_21 _ _ _ _ _ _ _ _ _ _ _ _ _ _ _ _ _ _ _ _ w
  | 2, _, 2, _ => exact withLine_22 _ _ _ _ _ _ _ _ _ _ _ _ _ _ _ _ _ _ _ _ w
  | 2, _, 3, _ => exact withLine_23 _ _ _ _ _ _ _ _ _ _ _ _ _ _ _ _ _ _ _ _ w
  | 3, _, 0, _ => exact withLine_30 _ _ _ _ _ _ _ _ _ _ _ _ _ _ _ _ _ _ _ _ w
  | 3, _, 1, _ => exact withLine_31 _ _ _ _ _ _ _ _ _ _ _ _ _ _ _ _ _ _ _ _ w
  | 3, _, 2, _ => exact withLine_32 _ _ _ _ _ _ _ _ _ _ _ _ _ _ _ _ _ _ _ _ w
  | 3, _, 3, _ => exact withLine_33 _ _ _ _ _ _ _ _ _ _ _ _ _ _ _ _ _ _ _ _ w
def boolsB (l : List Bool) : Array Value := (l.map Value.bool).toArray
theorem size_boolsB (l : List Bool) : (boolsB l).size = l.length := by simp [boolsB]
theorem one_boolsB (l : List Bool) : (boolsB l).all (·.oneCell') = true := by simp [boolsB, Value.oneCell']
theorem slideRow_list (r : List Int) (hr : r.length = 4) (ok : okL r) (w : World) :
    Calls Try.prog 68 #[aggB r] w fun e w' => e = .returned (.tuple #[aggB (rowOut r), .int .i64 (rowScore r), .agg (boolsB (rowMg r))]) ∧ RowKit.Below w.heap.size w w' := by
  obtain ⟨x0, x1, x2, x3, rfl⟩ := len4 r hr
  refine (slideRow_any x0 x1 x2 x3 w (ok x0 (by simp)) (ok x1 (by simp)) (ok x2 (by simp)) (ok x3 (by simp))).mono ?_
  rintro e w' ⟨o0, o1, o2, o3, m0, m1, m2, m3, h1, h2, rfl, hb⟩
  rw [h1, h2]
  exact ⟨rfl, hb⟩

namespace Pl
def upB (b : List Int) (d : Nat) : Nat → List Int
  | 0 => b
  | k + 1 => putL (upB b d k) d k (rowOut (lineB b d k))
def scoreU (b : List Int) (d : Nat) : Nat → Int
  | 0 => 0
  | k + 1 => scoreU b d k + rowScore (lineB b d k)
def manyU (b : List Int) (d : Nat) : Nat → Int
  | 0 => 0
  | k + 1 => manyU b d k + rowMany (lineB b d k)
theorem upB_four (b : List Int) (d : Nat) : upB b d 4 = slideB b d := rfl
theorem scoreU_four (b : List Int) (d : Nat) : scoreU b d 4 = scoreB b d := by simp [scoreU, scoreB]
theorem manyU_four (b : List Int) (d : Nat) : manyU b d 4 = manyB b d := by simp [manyU, manyB]
theorem upB_length (b : List Int) (d k : Nat) : (upB b d k).length = b.length := by
  induction k with
  | zero => rfl
  | succ k ih => rw [upB, putL_length, ih]
theorem scoreU_bd {b : List Int} (h : okL b) (d k : Nat) : 0 ≤ scoreU b d k ∧ scoreU b d k ≤ 524288 * k := by
  induction k with
  | zero => simp [scoreU]
  | succ k ih =>
    have := rowScore_bd (lineB_ok h d k) (by simp [lineB])
    simp only [scoreU]; omega
theorem manyU_bd (b : List Int) (d k : Nat) : 0 ≤ manyU b d k ∧ manyU b d k ≤ 4 * k := by
  induction k with
  | zero => simp [manyU]
  | succ k ih =>
    have := rowMany_bd (r := lineB b d k) (by simp [lineB])
    simp only [manyU]; omega
/-- How many of the first k flags are set. -/
def cntB (l : List Bool) (k : Nat) : Int := ((l.take k).filter id).length
theorem many_flags (l : List (Int × Bool)) (h : l.length ≤ 4) : (((List.range 4).map fun i => (l.getD i (0, false)).2).filter id).length = (l.filter (·.2)).length := by
  match l, h with
  | [], _ => rfl
  | [(a, x)], _ => cases x <;> rfl
  | [(a, x), (b, y)], _ => cases x <;> cases y <;> rfl
  | [(a, x), (b, y), (c, z)], _ => cases x <;> cases y <;> cases z <;> rfl
  | [(a, x), (b, y), (c, z), (d, t)], _ => cases x <;> cases y <;> cases z <;> cases t <;> rfl
theorem cntB_many {r : List Int} (hr : r.length ≤ 4) : cntB (rowMg r) 4 = rowMany r := by
  have h2 := mergeL_len (tilesL r)
  have h3 : (tilesL r).length ≤ r.length := List.length_filter_le _ _
  have h := many_flags (mergeL (tilesL r)) (by omega)
  unfold cntB rowMany
  rw [List.take_of_length_le (by simp [rowMg])]
  unfold rowMg
  rw [h]
end Pl
end Go.Proofs.Ytgkfhppmopmgjaa
