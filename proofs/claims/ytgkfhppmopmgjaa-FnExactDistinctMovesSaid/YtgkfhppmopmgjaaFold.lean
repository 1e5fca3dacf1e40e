/- The loop of the program's own slideRow as a fold over the tiles, and that it ends in mergeL. No Go here. -/
import Derived.Test.YtgkfhppmopmgjaaPure
set_option linter.all false
namespace Go.Proofs.Ytgkfhppmopmgjaa.Pl

/-- One tile more, each tile that is put with whether it has come out of a merger. -/
def stepP (s : List (Int × Bool) × Int) (t : Int) : List (Int × Bool) × Int :=
  if s.1 ≠ [] ∧ s.1.getLastD (0, false) = (t, false) ∧ t < 17 then (s.1.dropLast ++ [(t + 1, true)], s.2 + worthI (t + 1))
  else (s.1 ++ [(t, false)], s.2)
def foldP (ts : List Int) : List (Int × Bool) × Int := ts.foldl stepP ([], 0)
theorem foldP_snoc (l : List Int) (t : Int) : foldP (l ++ [t]) = stepP (foldP l) t := by simp [foldP]
theorem foldP_new {l : List Int} {p : List (Int × Bool)} {sc t : Int} (h : foldP l = (p, sc)) (hn : p = [] ∨ ¬ p.getLastD (0, false) = (t, false) ∨ ¬ t < 17) : foldP (l ++ [t]) = (p ++ [(t, false)], sc) := by
  rw [foldP_snoc, h]; unfold stepP
  rw [if_neg]
  rintro ⟨h1, h2, h3⟩
  rcases hn with hn | hn | hn
  · exact h1 hn
  · exact hn h2
  · exact hn h3
theorem foldP_merge {l : List Int} {p : List (Int × Bool)} {sc t : Int} (h : foldP l = (p ++ [(t, false)], sc)) (h17 : t < 17) : foldP (l ++ [t]) = (p ++ [(t + 1, true)], sc + worthI (t + 1)) := by
  rw [foldP_snoc, h]; unfold stepP
  rw [if_pos ⟨by simp, by simp, h17⟩]
  simp

theorem fold_mergeP (ts : List Int) : ∀ (p : List (Int × Bool)) (u sc : Int),
    ts.foldl stepP (p ++ [(u, true)], sc) = (p ++ (u, true) :: mergeL ts, sc + scoreL (mergeL ts)) ∧
    ts.foldl stepP (p ++ [(u, false)], sc) = (p ++ mergeL (u :: ts), sc + scoreL (mergeL (u :: ts))) := by
  induction ts with
  | nil => intro p u sc; simp [mergeL, scoreL]
  | cons t ts ih =>
    intro p u sc
    simp only [List.foldl_cons]
    constructor
    · have e : stepP (p ++ [(u, true)], sc) t = ((p ++ [(u, true)]) ++ [(t, false)], sc) := by
        unfold stepP; rw [if_neg (by simp)]
      rw [e, (ih (p ++ [(u, true)]) t sc).2]
      simp
    · by_cases hm : u = t ∧ t < 17
      · obtain ⟨rfl, h17⟩ := hm
        have e : stepP (p ++ [(u, false)], sc) u = (p ++ [(u + 1, true)], sc + worthI (u + 1)) := by
          unfold stepP; rw [if_pos ⟨by simp, by simp, h17⟩]; simp
        have hm1 : mergeL (u :: u :: ts) = (u + 1, true) :: mergeL ts := by rw [mergeL, if_pos ⟨rfl, h17⟩]
        rw [e, (ih p (u + 1) (sc + worthI (u + 1))).1, hm1]
        simp [scoreL]; omega
      · have e : stepP (p ++ [(u, false)], sc) t = ((p ++ [(u, false)]) ++ [(t, false)], sc) := by
          unfold stepP
          rw [if_neg]
          rintro ⟨_, h2, h3⟩
          simp only [List.getLastD_concat, Prod.mk.injEq, and_true] at h2
          exact hm ⟨h2, h3⟩
        have hne : ¬ (u = t ∧ u < 17) := fun ⟨h1, h2⟩ => hm ⟨h1, h1 ▸ h2⟩
        have hm1 : mergeL (u :: t :: ts) = (u, false) :: mergeL (t :: ts) := by rw [mergeL, if_neg hne]
        rw [e, (ih (p ++ [(u, false)]) t sc).2, hm1]
        simp [scoreL]

theorem foldP_all (ts : List Int) : foldP ts = (mergeL ts, scoreL (mergeL ts)) := by
  cases ts with
  | nil => simp [foldP, mergeL, scoreL]
  | cons t ts =>
    have e : foldP (t :: ts) = ts.foldl stepP ([] ++ [(t, false)], 0) := by simp [foldP, stepP]
    rw [e, (fold_mergeP ts [] t 0).2]; simp

theorem tilesL_ok {r : List Int} (h : okL r) : ∀ t ∈ tilesL r, 1 ≤ t ∧ t ≤ 17 := by
  intro t ht
  have h1 := h t (List.mem_filter.1 ht).1
  have h2 := (List.mem_filter.1 ht).2
  have h3 : t ≠ 0 := by simpa using h2
  omega
end Go.Proofs.Ytgkfhppmopmgjaa.Pl
