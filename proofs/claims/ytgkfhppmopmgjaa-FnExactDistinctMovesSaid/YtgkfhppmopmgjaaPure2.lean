/- Plain functions on boards: moves, forms, order, first form. No Go here. -/
import Derived.Test.YtgkfhppmopmgjaaPure
set_option linter.all false
namespace Go.Proofs.Ytgkfhppmopmgjaa.Pl

def movesB (b : List Int) : List Int := ((List.range 4).filter fun d => decide (slideB b d ≠ b)).map Int.ofNat

/-- The board behind some slides and the sum of their scores. -/
def slidesB (b : List Int) : List Nat → List Int
  | [] => b
  | d :: ds => slidesB (slideB b d) ds

def quarterB (b : List Int) : List Int :=
  [b.getD 12 0, b.getD 8 0, b.getD 4 0, b.getD 0 0, b.getD 13 0, b.getD 9 0, b.getD 5 0, b.getD 1 0, b.getD 14 0, b.getD 10 0, b.getD 6 0, b.getD 2 0, b.getD 15 0, b.getD 11 0, b.getD 7 0, b.getD 3 0]
def mirrorB (b : List Int) : List Int :=
  [b.getD 3 0, b.getD 2 0, b.getD 1 0, b.getD 0 0, b.getD 7 0, b.getD 6 0, b.getD 5 0, b.getD 4 0, b.getD 11 0, b.getD 10 0, b.getD 9 0, b.getD 8 0, b.getD 15 0, b.getD 14 0, b.getD 13 0, b.getD 12 0]
def madeB (b : List Int) : Nat → List Int
  | 0 => b
  | 1 => quarterB b
  | 2 => quarterB (quarterB b)
  | 3 => quarterB (quarterB (quarterB b))
  | 4 => mirrorB b
  | 5 => mirrorB (quarterB b)
  | 6 => mirrorB (quarterB (quarterB b))
  | _ => mirrorB (quarterB (quarterB (quarterB b)))

def ltL : List Int → List Int → Bool
  | x :: xs, y :: ys => if x = y then ltL xs ys else decide (x < y)
  | _, _ => false
def stepF (b : List Int) (s : List Int × Nat) (k : Nat) : List Int × Nat := if ltL (madeB b k) s.1 then (madeB b k, k) else s
def firstB (b : List Int) : List Int × Nat := [1, 2, 3, 4, 5, 6, 7].foldl (stepF b) (b, 0)

theorem ltL_irrefl (l : List Int) : ltL l l = false := by
  induction l with
  | nil => rfl
  | cons x l ih => simp [ltL, ih]
theorem quarterB_length (b : List Int) : (quarterB b).length = 16 := rfl
theorem mirrorB_length (b : List Int) : (mirrorB b).length = 16 := rfl
theorem madeB_length (b : List Int) (h : b.length = 16) (k : Nat) : (madeB b k).length = 16 := by
  unfold madeB; split <;> first | exact h | rfl
theorem all_getD {b : List Int} (h : okL b) (i : Nat) : 0 ≤ b.getD i 0 ∧ b.getD i 0 ≤ 17 := okL_getD h i
theorem quarterB_ok {b : List Int} (h : okL b) : okL (quarterB b) := by
  intro x hx
  simp only [quarterB, List.mem_cons, List.not_mem_nil, or_false] at hx
  rcases hx with rfl | rfl | rfl | rfl | rfl | rfl | rfl | rfl | rfl | rfl | rfl | rfl | rfl | rfl | rfl | rfl <;> exact okL_getD h _
theorem mirrorB_ok {b : List Int} (h : okL b) : okL (mirrorB b) := by
  intro x hx
  simp only [mirrorB, List.mem_cons, List.not_mem_nil, or_false] at hx
  rcases hx with rfl | rfl | rfl | rfl | rfl | rfl | rfl | rfl | rfl | rfl | rfl | rfl | rfl | rfl | rfl | rfl <;> exact okL_getD h _
theorem madeB_ok {b : List Int} (h : okL b) (k : Nat) : okL (madeB b k) := by
  unfold madeB
  split <;> first | exact h | (first | exact quarterB_ok h | exact quarterB_ok (quarterB_ok h) | exact quarterB_ok (quarterB_ok (quarterB_ok h)) | exact mirrorB_ok h | exact mirrorB_ok (quarterB_ok h) | exact mirrorB_ok (quarterB_ok (quarterB_ok h)) | exact mirrorB_ok (quarterB_ok (quarterB_ok (quarterB_ok h))))
theorem slidesB_ok {b : List Int} (h : okL b) (ds : List Nat) : okL (slidesB b ds) := by
  induction ds generalizing b with
  | nil => exact h
  | cons d ds ih => exact ih (slideB_ok h d)
theorem slidesB_length {b : List Int} (h : b.length = 16) (ds : List Nat) : (slidesB b ds).length = 16 := by
  induction ds generalizing b with
  | nil => exact h
  | cons d ds ih => exact ih (by rw [slideB_length, h])
end Go.Proofs.Ytgkfhppmopmgjaa.Pl
