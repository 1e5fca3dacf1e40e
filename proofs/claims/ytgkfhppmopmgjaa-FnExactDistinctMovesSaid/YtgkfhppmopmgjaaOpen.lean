/- Arguments that are a row, or a board: an array of four whole numbers, or a struct of one field of four such arrays: their cells are whole numbers. -/
import Derived.Test.YtgkfhppmopmgjaaBd
import Derived.OpenShut
import Derived.ChangeSame
import Derived.WideShapes
set_option linter.all false
namespace Go.Proofs.Ytgkfhppmopmgjaa
open Go.RowKit Pl Go.ChangeShapes Go.WideShapes

theorem ints_of_cells (cs : List Value) (h : ∀ q, q < cs.length → ∃ x, cs[q]? = some (.int .i64 x) ∧ (Lit.int .i64 x).wf = true) : ∃ l : List Int, cs = l.map (Value.int .i64) ∧ ∀ x ∈ l, (Lit.int .i64 x).wf = true := by
  induction cs with
  | nil => exact ⟨[], rfl, by simp⟩
  | cons c cs ih =>
    obtain ⟨x, hx, wx⟩ := h 0 (by simp)
    obtain ⟨l, rfl, wl⟩ := ih (fun q hq => by simpa using h (q + 1) (by simpa using hq))
    simp only [List.getElem?_cons_zero, Option.some.injEq] at hx
    subst hx
    exact ⟨x :: l, by simp, by simpa using ⟨wx, wl⟩⟩

section
variable {H : Type} {enc : TypeId × Value → H} {P : Program} {w : World} {base : Nat} {spare : Nat → Bool} {held : Bool}
theorem row_cells {t e : TypeId} {n fuel : Nat} {cs : List Value} {x : DataW H × List MemPlace} (ht : P.underlying t = some (.array n e)) (he : P.underlying e = some (.int .i64)) (hc : P.cellsOf e = 1)
    (h : DataW.trod enc P w base spare held fuel t cs = some x) : ∀ q, q < n → ∃ y, cs[q]? = some (.int .i64 y) ∧ (Lit.int .i64 y).wf = true := by
  obtain ⟨xs, m, _, _, hl, hx, hi⟩ := DataW.trod_array ht h
  intro q hq
  have h1 := hi q hq
  rw [hc, Nat.mul_one, List.getElem?_eq_getElem (by omega)] at h1
  obtain ⟨y, hy, _, wy⟩ := DataW.trod_int he h1
  refine ⟨y, ?_, wy⟩
  have := congrArg (fun l => l[0]?) hy
  simpa [List.getElem?_take, List.getElem?_drop] using this
theorem open_row {t e : TypeId} {n b0 : Nat} {r : Reach} {v : Value} {d : DataW H} {p : List MemPlace} (ht : P.underlying t = some (.array n e)) (he : P.underlying e = some (.int .i64)) (hc : P.cellsOf e = 1) (hC : P.cellsOf t = n)
    (hv : Value.okWide P w r b0 t v) (h : DataW.Trod enc P w base spare held t v d p) : ∃ l : List Int, v = aggB l ∧ l.length = n ∧ ∀ x ∈ l, (Lit.int .i64 x).wf = true := by
  obtain ⟨cs, rfl, hsz⟩ : ∃ cs, v = .agg cs ∧ cs.size = P.cellsOf t := by
    simp only [Value.okWide, ht] at hv
    obtain ⟨cs, h1, h2, _⟩ := hv
    exact ⟨cs, h1, h2⟩
  obtain ⟨fuel, hf⟩ := h
  have h1 := row_cells ht he hc hf
  simp only [Value.cells] at h1
  obtain ⟨l, hl, wl⟩ := ints_of_cells cs.toList (fun q hq => h1 q (by simpa [hsz, hC] using hq))
  refine ⟨l, ?_, ?_, wl⟩
  · rw [aggB, cellsB, ← hl]
  · have := congrArg List.length hl
    simp at this; omega
theorem open_board {t t4 e : TypeId} {b0 : Nat} {r : Reach} {f : Field} {v : Value} {d : DataW H} {p : List MemPlace} (hs : P.underlying t = some (.struct #[f])) (hf0 : f.offset = 0) (ht2 : P.underlying f.type = some (.array 4 t4)) (ht : P.underlying t4 = some (.array 4 e))
    (he : P.underlying e = some (.int .i64)) (hc : P.cellsOf e = 1) (hc4 : P.cellsOf t4 = 4) (hc2 : P.cellsOf f.type = 16) (hC : P.cellsOf t = 16)
    (hv : Value.okWide P w r b0 t v) (h : DataW.Trod enc P w base spare held t v d p) : ∃ l : List Int, v = aggB l ∧ l.length = 16 ∧ ∀ x ∈ l, (Lit.int .i64 x).wf = true := by
  obtain ⟨cs, rfl, hsz⟩ := okWide_struct hs hv
  rw [hC] at hsz
  obtain ⟨fuel, hf⟩ := h
  obtain ⟨y0, n, _, _, h0⟩ := trod_struct1 hs hf
  rw [hf0, hc2] at h0
  obtain ⟨xs, m, _, _, _, hx, hi⟩ := DataW.trod_array ht2 h0
  simp only [Value.cells, List.drop_zero] at hi
  have h16 : cs.toList.take 16 = cs.toList := List.take_of_length_le (by simp; omega)
  rw [h16] at hi
  have hcell : ∀ q, q < cs.toList.length → ∃ y, cs.toList[q]? = some (.int .i64 y) ∧ (Lit.int .i64 y).wf = true := by
    intro q hq
    have hq' : q < 16 := by simp at hq; omega
    have h1 := hi (q / 4) (by omega)
    rw [hc4, List.getElem?_eq_getElem (by omega)] at h1
    obtain ⟨y, hy, wy⟩ := row_cells ht he hc h1 (q % 4) (by omega)
    refine ⟨y, ?_, wy⟩
    rw [List.getElem?_take_of_lt (by omega), List.getElem?_drop] at hy
    rwa [show q / 4 * 4 + q % 4 = q by omega] at hy
  obtain ⟨l, hl, wl⟩ := ints_of_cells _ hcell
  refine ⟨l, by rw [aggB, cellsB, ← hl], ?_, wl⟩
  have := congrArg List.length hl
  simp at this; omega
end
end Go.Proofs.Ytgkfhppmopmgjaa
