/- Bounds of a row's score, boards as values, the row's slide with its score named. -/
import Derived.Test.YtgkfhppmopmgjaaRowS
import Derived.Test.YtgkfhppmopmgjaaJunk
set_option linter.all false
namespace Go.Proofs.Ytgkfhppmopmgjaa
open Go.RowKit Pl

namespace Pl
theorem mergeL_len (l : List Int) : (mergeL l).length ≤ l.length := by
  induction l using mergeL.induct with
  | case1 => simp [mergeL]
  | case2 x => simp [mergeL]
  | case3 x y r hc ih => rw [mergeL, if_pos hc]; simp only [List.length_cons]; omega
  | case4 x y r hc ih => rw [mergeL, if_neg hc]; simp only [List.length_cons] at *; omega
theorem mergeL_ok17 (l : List Int) (h : ∀ x ∈ l, 0 ≤ x ∧ x ≤ 17) : ∀ p ∈ mergeL l, 0 ≤ p.1 ∧ p.1 ≤ 17 := mergeL_ok l h
theorem scoreL_bd (l : List (Int × Bool)) (h : ∀ p ∈ l, 0 ≤ p.1 ∧ p.1 ≤ 17) : 0 ≤ scoreL l ∧ scoreL l ≤ 131072 * l.length := by
  induction l with
  | nil => simp [scoreL]
  | cons p l ih =>
    obtain ⟨t, m⟩ := p
    have h1 := ih (fun q hq => h q (by simp [hq]))
    have h2 := worthI_bd t (h (t, m) (by simp))
    simp only [scoreL, List.length_cons]
    cases m <;> simp <;> omega
theorem rowScore_bd {r : List Int} (h : okL r) (hl : r.length ≤ 4) : 0 ≤ rowScore r ∧ rowScore r ≤ 524288 := by
  have h1 := scoreL_bd (mergeL (tilesL r)) (mergeL_ok _ (fun z hz => h z (List.mem_filter.1 hz).1))
  have h2 := mergeL_len (tilesL r)
  have h3 : (tilesL r).length ≤ r.length := List.length_filter_le _ _
  unfold rowScore
  omega
theorem rowMany_bd {r : List Int} (hl : r.length ≤ 4) : 0 ≤ rowMany r ∧ rowMany r ≤ 4 := by
  have h2 := mergeL_len (tilesL r)
  have h3 : (tilesL r).length ≤ r.length := List.length_filter_le _ _
  have h4 : ((mergeL (tilesL r)).filter (·.2)).length ≤ (mergeL (tilesL r)).length := List.length_filter_le _ _
  unfold rowMany
  omega
theorem lineB_length (b : List Int) (d i : Nat) : (lineB b d i).length = 4 := rfl
theorem scoreB_bd {b : List Int} (h : okL b) (d : Nat) : 0 ≤ scoreB b d ∧ scoreB b d ≤ 2097152 := by
  have h0 := rowScore_bd (lineB_ok h d 0) (by simp [lineB])
  have h1 := rowScore_bd (lineB_ok h d 1) (by simp [lineB])
  have h2 := rowScore_bd (lineB_ok h d 2) (by simp [lineB])
  have h3 := rowScore_bd (lineB_ok h d 3) (by simp [lineB])
  unfold scoreB
  omega
theorem manyB_bd (b : List Int) (d : Nat) : 0 ≤ manyB b d ∧ manyB b d ≤ 16 := by
  have h0 := rowMany_bd (r := lineB b d 0) (by simp [lineB])
  have h1 := rowMany_bd (r := lineB b d 1) (by simp [lineB])
  have h2 := rowMany_bd (r := lineB b d 2) (by simp [lineB])
  have h3 := rowMany_bd (r := lineB b d 3) (by simp [lineB])
  unfold manyB
  omega
end Pl

/-- A list of whole numbers as an array's cells, and as its value. -/
def cellsB (l : List Int) : Array Value := (l.map (Value.int .i64)).toArray
abbrev aggB (l : List Int) : Value := .agg (cellsB l)

theorem wrapI (n : Int) (h : -1000000000 ≤ n ∧ n ≤ 1000000000) : IntKind.i64.wrap n = n := by rw [IntKind.wrap_i64]; omega

/-- A row's slide, its numbers and its score named. -/
def RowSs (l : List Int) (B : Nat) (w : World) (e : Ending) (w' : World) : Prop :=
  ∃ o0 o1 o2 o3 s : Int, rowOut l = [o0, o1, o2, o3] ∧ rowScore l = s ∧ (0 ≤ s ∧ s ≤ 524288) ∧ e = .returned (.tuple #[.agg #[.int .i64 o0, .int .i64 o1, .int .i64 o2, .int .i64 o3], .int .i64 s]) ∧ Below B w w'
theorem ok4 {x0 x1 x2 x3 : Int} (h0 : 0 ≤ x0 ∧ x0 ≤ 17) (h1 : 0 ≤ x1 ∧ x1 ≤ 17) (h2 : 0 ≤ x2 ∧ x2 ≤ 17) (h3 : 0 ≤ x3 ∧ x3 ≤ 17) : okL [x0, x1, x2, x3] := by
  intro x hx
  simp only [List.mem_cons, List.not_mem_nil, or_false] at hx
  rcases hx with rfl | rfl | rfl | rfl <;> assumption
theorem l2Row_s (x0 x1 x2 x3 : Int) (w : World) (h0 : 0 ≤ x0 ∧ x0 ≤ 17) (h1 : 0 ≤ x1 ∧ x1 ≤ 17) (h2 : 0 ≤ x2 ∧ x2 ≤ 17) (h3 : 0 ≤ x3 ∧ x3 ≤ 17) :
    Calls Try.prog 71 #[.agg #[.int .i64 x0, .int .i64 x1, .int .i64 x2, .int .i64 x3]] w (RowSs [x0, x1, x2, x3] w.heap.size w) :=
  (l2Row_any x0 x1 x2 x3 w h0 h1 h2 h3).mono fun _ _ ⟨o0, o1, o2, o3, hl, he, hb⟩ => ⟨o0, o1, o2, o3, _, hl, rfl, rowScore_bd (ok4 h0 h1 h2 h3) (by simp), he, hb⟩

theorem ok16 {l : List Int} (h : okL l) (i : Nat) : 0 ≤ l.getD i 0 ∧ l.getD i 0 ≤ 17 := okL_getD h i
end Go.Proofs.Ytgkfhppmopmgjaa
