/- Plain functions on rows and boards (lists of four and of sixteen whole numbers) that both texts of the Go program come to. No Go here. -/
set_option linter.all false
namespace Go.Proofs.Ytgkfhppmopmgjaa.Pl

/-- The tiles that come out, from the first one, each with whether it has come out of a merger. -/
def mergeL : List Int → List (Int × Bool)
  | [] => []
  | [x] => [(x, false)]
  | x :: y :: r => if x = y ∧ x < 17 then (x + 1, true) :: mergeL r else (x, false) :: mergeL (y :: r)

def tilesL (r : List Int) : List Int := r.filter fun x => x != 0

def worthI (t : Int) : Int := 2 ^ t.toNat

def rowOut (r : List Int) : List Int := (List.range 4).map fun i => ((mergeL (tilesL r)).getD i (0, false)).1
def rowMg (r : List Int) : List Bool := (List.range 4).map fun i => ((mergeL (tilesL r)).getD i (0, false)).2
def scoreL : List (Int × Bool) → Int
  | [] => 0
  | (t, m) :: r => (if m then worthI t else 0) + scoreL r
def rowScore (r : List Int) : Int := scoreL (mergeL (tilesL r))
def rowMany (r : List Int) : Int := ((mergeL (tilesL r)).filter (·.2)).length

/-- The place of cell k of line i as a slide in direction d looks at it. -/
def at4 (d i k : Nat) : Nat :=
  match d with
  | 0 => 4 * i + k
  | 1 => 4 * k + i
  | 2 => 4 * i + (3 - k)
  | _ => 4 * (3 - k) + i

def lineB (b : List Int) (d i : Nat) : List Int := [b.getD (at4 d i 0) 0, b.getD (at4 d i 1) 0, b.getD (at4 d i 2) 0, b.getD (at4 d i 3) 0]

def putL (b : List Int) (d i : Nat) (r : List Int) : List Int :=
  (((b.set (at4 d i 0) (r.getD 0 0)).set (at4 d i 1) (r.getD 1 0)).set (at4 d i 2) (r.getD 2 0)).set (at4 d i 3) (r.getD 3 0)

def slideB (b : List Int) (d : Nat) : List Int :=
  putL (putL (putL (putL b d 0 (rowOut (lineB b d 0))) d 1 (rowOut (lineB b d 1))) d 2 (rowOut (lineB b d 2))) d 3 (rowOut (lineB b d 3))
def scoreB (b : List Int) (d : Nat) : Int := rowScore (lineB b d 0) + rowScore (lineB b d 1) + rowScore (lineB b d 2) + rowScore (lineB b d 3)
def manyB (b : List Int) (d : Nat) : Int := rowMany (lineB b d 0) + rowMany (lineB b d 1) + rowMany (lineB b d 2) + rowMany (lineB b d 3)

/-- Each number in 0..17. -/
def okL (l : List Int) : Prop := ∀ x ∈ l, 0 ≤ x ∧ x ≤ 17
instance (l : List Int) : Decidable (okL l) := by unfold okL; infer_instance

theorem putL_length (b : List Int) (d i : Nat) (r : List Int) : (putL b d i r).length = b.length := by simp [putL]
theorem slideB_length (b : List Int) (d : Nat) : (slideB b d).length = b.length := by simp [slideB, putL_length]
theorem rowOut_length (r : List Int) : (rowOut r).length = 4 := by simp [rowOut]
theorem rowMg_length (r : List Int) : (rowMg r).length = 4 := by simp [rowMg]

theorem len4 {α : Type} (l : List α) (h : l.length = 4) : ∃ a b c d, l = [a, b, c, d] := by
  match l, h with
  | [a, b, c, d], _ => exact ⟨a, b, c, d, rfl⟩
theorem len16 {α : Type} (l : List α) (h : l.length = 16) : ∃ x0 x1 x2 x3 x4 x5 x6 x7 x8 x9 x10 x11 x12 x13 x14 x15, l = [x0, x1, x2, x3, x4, x5, x6, x7, x8, x9, x10, x11, x12, x13, x14, x15] := by
  match l, h with
  | [x0, x1, x2, x3, x4, x5, x6, x7, x8, x9, x10, x11, x12, x13, x14, x15], _ => exact ⟨x0, x1, x2, x3, x4, x5, x6, x7, x8, x9, x10, x11, x12, x13, x14, x15, rfl⟩

theorem mergeL_ok (l : List Int) (h : ∀ x ∈ l, 0 ≤ x ∧ x ≤ 17) : ∀ p ∈ mergeL l, 0 ≤ p.1 ∧ p.1 ≤ 17 := by
  induction l using mergeL.induct with
  | case1 => intro p hp; simp [mergeL] at hp
  | case2 x => intro p hp; simp [mergeL] at hp; subst hp; exact h x (by simp)
  | case3 x y r hc ih =>
    intro p hp
    rw [mergeL, if_pos hc] at hp
    rcases List.mem_cons.1 hp with rfl | hp
    · have := h x (by simp); simp only []; omega
    · exact ih (fun z hz => h z (by simp [hz])) p hp
  | case4 x y r hc ih =>
    intro p hp
    rw [mergeL, if_neg hc] at hp
    rcases List.mem_cons.1 hp with rfl | hp
    · exact h x (by simp)
    · exact ih (fun z hz => h z (List.mem_cons_of_mem _ hz)) p hp

theorem getD_mem_or {α : Type} (l : List α) (i : Nat) (d : α) : l.getD i d ∈ l ∨ l.getD i d = d := by
  rw [List.getD_eq_getElem?_getD]
  rcases Nat.lt_or_ge i l.length with h | h
  · left; simp [List.getElem?_eq_getElem h]
  · right; simp [List.getElem?_eq_none h]

theorem rowOut_ok (r : List Int) (h : okL r) : okL (rowOut r) := by
  intro x hx
  simp only [rowOut, List.mem_map] at hx
  obtain ⟨i, _, rfl⟩ := hx
  rcases getD_mem_or (mergeL (tilesL r)) i (0, false) with h1 | h1
  · exact mergeL_ok _ (fun z hz => h z (List.mem_filter.1 hz).1) _ h1
  · rw [h1]; simp

theorem okL_set {l : List Int} (h : okL l) (i : Nat) {x : Int} (hx : 0 ≤ x ∧ x ≤ 17) : okL (l.set i x) := by
  intro y hy
  rcases List.mem_or_eq_of_mem_set hy with hy | rfl
  · exact h y hy
  · exact hx

theorem okL_getD {l : List Int} (h : okL l) (i : Nat) : 0 ≤ l.getD i 0 ∧ l.getD i 0 ≤ 17 := by
  rcases getD_mem_or l i 0 with h1 | h1
  · exact h _ h1
  · rw [h1]; omega

theorem lineB_ok {b : List Int} (h : okL b) (d i : Nat) : okL (lineB b d i) := by
  intro x hx
  simp only [lineB, List.mem_cons, List.not_mem_nil, or_false] at hx
  rcases hx with rfl | rfl | rfl | rfl <;> exact okL_getD h _

theorem putL_ok {b r : List Int} (h : okL b) (hr : okL r) (d i : Nat) : okL (putL b d i r) :=
  okL_set (okL_set (okL_set (okL_set h _ (okL_getD hr _)) _ (okL_getD hr _)) _ (okL_getD hr _)) _ (okL_getD hr _)

theorem slideB_ok {b : List Int} (h : okL b) (d : Nat) : okL (slideB b d) :=
  putL_ok (putL_ok (putL_ok (putL_ok h (rowOut_ok _ (lineB_ok h _ _)) _ _) (rowOut_ok _ (lineB_ok h _ _)) _ _) (rowOut_ok _ (lineB_ok h _ _)) _ _) (rowOut_ok _ (lineB_ok h _ _)) _ _

end Go.Proofs.Ytgkfhppmopmgjaa.Pl
