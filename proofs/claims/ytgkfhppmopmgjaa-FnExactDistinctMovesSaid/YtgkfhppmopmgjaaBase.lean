/- Small words that all walks of this text use: stores under draws, results, bounds of worths, the fold that a row's slide is. -/
import Derived.Test.YtgkfhppmopmgjaaPure
import Derived.WalkKit
import Derived.Lib.Hide
import Derived.Lib.QuietBelow
import Derived.Deep.Draws
set_option linter.all false
namespace Go.Proofs.Ytgkfhppmopmgjaa
open Go.RowKit Pl

@[go_sem] theorem setCell_drewN (w : World) (a : Addr) (v : Value) (n : Nat) : (w.drewN n).setCell a v = (w.setCell a v).drewN n := rfl
theorem ret_int {k : IntKind} {a b : Int} (h : a = b) : Ending.returned (.int k a) = .returned (.int k b) := by rw [h]
theorem Below.drewN {B : Nat} {a w : World} (h : Below B a w) (n : Nat) : Below B a (w.drewN n) := ⟨h.os, h.tape, h.output, h.size, h.block⟩
theorem bcell {W w1 : World} (hb : Below W.heap.size W w1) : (∀ b o, b < W.heap.size → w1.cell? ⟨b, o, none⟩ = W.cell? ⟨b, o, none⟩) ∧ (∀ b o, b < W.heap.size → w1.frozen? ⟨b, o, none⟩ = W.frozen? ⟨b, o, none⟩) :=
  ⟨fun b o h => hb.cell (p := ⟨b, o, none⟩) h, fun b o h => hb.frozen (p := ⟨b, o, none⟩) h⟩

/-- Two calls, one behind the other. -/
theorem Below.next {W w w1 : World} (h : Below W.heap.size W w) (h1 : Below w.heap.size w w1) : Below W.heap.size W w1 := h.trans (h1.mono h.size)
/-- A store of the caller's own, in the world as it was known and in the world as it is. -/
theorem Below.set1 {W w : World} (h : Below W.heap.size W w) (a : Addr) (v : Value) : Below (W.setCell a v).heap.size (W.setCell a v) (w.setCell a v) := by
  refine ⟨h.os, h.tape, h.output, by simpa [World.setCell] using h.size, fun k hk => ?_⟩
  have hk' : k < W.heap.size := by simpa [World.setCell] using hk
  have e := h.block k hk'
  simp only [World.setCell, Array.getElem?_modify]
  by_cases hb : a.block = k
  · rw [if_pos hb, if_pos hb, e]
  · rw [if_neg hb, if_neg hb, e]
theorem Below.draw1 {W w : World} (h : Below W.heap.size W w) (n : Nat) : Below W.heap.size W (w.drewN n) := ⟨h.os, h.tape, h.output, h.size, h.block⟩
/-- From the world at the call's begin to its own first blocks, and on. -/
theorem Below.from0 {B : Nat} {w W w1 : World} (h : Below B w W) (hB : B ≤ W.heap.size) (h1 : Below W.heap.size W w1) : Below B w w1 := h.trans (h1.mono hB)

theorem worth_wrap (t : Int) (h : 0 ≤ t ∧ t ≤ 17) : wrap64 (2 ^ t.toNat) = worthI t := by
  unfold worthI
  obtain ⟨n, rfl⟩ := Int.eq_ofNat_of_zero_le h.1
  have hn : n ≤ 17 := by omega
  have hp : (2 : Int) ^ n ≤ 2 ^ 17 := by exact_mod_cast Nat.pow_le_pow_right (by omega) hn
  have h0 : (0 : Int) ≤ 2 ^ n := by exact_mod_cast Nat.zero_le _
  have h17 : (2 : Int) ^ 17 = 131072 := by decide
  simp only [Int.toNat_natCast]
  unfold wrap64
  omega
theorem worthI_bd (t : Int) (h : 0 ≤ t ∧ t ≤ 17) : 0 ≤ worthI t ∧ worthI t ≤ 131072 := by
  unfold worthI
  obtain ⟨n, rfl⟩ := Int.eq_ofNat_of_zero_le h.1
  have hn : n ≤ 17 := by omega
  have hp : (2 : Int) ^ n ≤ 2 ^ 17 := by exact_mod_cast Nat.pow_le_pow_right (by omega) hn
  have h0 : (0 : Int) ≤ 2 ^ n := by exact_mod_cast Nat.zero_le _
  have h17 : (2 : Int) ^ 17 = 131072 := by decide
  simp only [Int.toNat_natCast]
  omega

/-- One tile more: what is put so far, whether the last one has come out of a merger, the score. -/
def stepR (s : List Int × Bool × Int) (t : Int) : List Int × Bool × Int :=
  if t = 0 then s
  else if s.1 ≠ [] ∧ s.1.getLastD 0 = t ∧ t < 17 ∧ s.2.1 = false then (s.1.dropLast ++ [t + 1], true, s.2.2 + worthI (t + 1))
  else (s.1 ++ [t], false, s.2.2)
def foldR (l : List Int) : List Int × Bool × Int := l.foldl stepR ([], false, 0)
theorem foldR_snoc (l : List Int) (t : Int) : foldR (l ++ [t]) = stepR (foldR l) t := by simp [foldR]
theorem foldR_zero {l : List Int} {s : List Int × Bool × Int} (h : foldR l = s) : foldR (l ++ [0]) = s := by rw [foldR_snoc, h]; simp [stepR]
theorem foldR_new {l p : List Int} {m : Bool} {sc t : Int} (h : foldR l = (p, m, sc)) (ht : ¬ t = 0) (hn : p = [] ∨ ¬ p.getLastD 0 = t ∨ ¬ t < 17 ∨ m = true) :
    foldR (l ++ [t]) = (p ++ [t], false, sc) := by
  rw [foldR_snoc, h]; unfold stepR
  rw [if_neg ht, if_neg]
  rintro ⟨h1, h2, h3, h4⟩
  simp only [] at h1 h2 h4
  rcases hn with hn | hn | hn | hn
  · exact h1 hn
  · exact hn h2
  · exact hn h3
  · rw [hn] at h4; cases h4
theorem foldR_merge {l p : List Int} {sc t : Int} (h : foldR l = (p ++ [t], false, sc)) (ht : ¬ t = 0) (h17 : t < 17) :
    foldR (l ++ [t]) = (p ++ [t + 1], true, sc + worthI (t + 1)) := by
  rw [foldR_snoc, h]; unfold stepR
  rw [if_neg ht, if_pos ⟨by simp, by simp, h17, rfl⟩]
  simp

theorem fold_merge (ts : List Int) : ∀ (p : List Int) (u sc : Int) (m : Bool), (∀ t ∈ ts, ¬ t = 0) →
    ∃ m', ts.foldl stepR (p ++ [u], m, sc) = (p ++ (if m then u :: (mergeL ts).map (·.1) else (mergeL (u :: ts)).map (·.1)), m', sc + (if m then scoreL (mergeL ts) else scoreL (mergeL (u :: ts)))) := by
  induction ts with
  | nil => intro p u sc m _; refine ⟨m, ?_⟩; cases m <;> simp [mergeL, scoreL]
  | cons t ts ih =>
    intro p u sc m ht
    have h0 : ¬ t = 0 := ht t (by simp)
    have hts : ∀ t ∈ ts, ¬ t = 0 := fun x hx => ht x (by simp [hx])
    simp only [List.foldl_cons]
    cases m with
    | true =>
      have e : stepR (p ++ [u], true, sc) t = ((p ++ [u]) ++ [t], false, sc) := by
        unfold stepR; rw [if_neg h0, if_neg (by simp)]
      obtain ⟨m', h⟩ := ih (p ++ [u]) t sc false hts
      refine ⟨m', ?_⟩
      rw [e, h]
      simp
    | false =>
      by_cases hm : u = t ∧ t < 17
      · obtain ⟨rfl, h17⟩ := hm
        have e : stepR (p ++ [u], false, sc) u = (p ++ [u + 1], true, sc + worthI (u + 1)) := by
          unfold stepR; rw [if_neg h0, if_pos ⟨by simp, by simp, h17, rfl⟩]; simp
        obtain ⟨m', h⟩ := ih p (u + 1) (sc + worthI (u + 1)) true hts
        have hm1 : mergeL (u :: u :: ts) = (u + 1, true) :: mergeL ts := by rw [mergeL, if_pos ⟨rfl, h17⟩]
        refine ⟨m', ?_⟩
        rw [e, h, hm1]
        simp [scoreL]; omega
      · have e : stepR (p ++ [u], false, sc) t = ((p ++ [u]) ++ [t], false, sc) := by
          unfold stepR
          rw [if_neg h0, if_neg]
          rintro ⟨_, h2, h3, _⟩
          simp only [List.getLastD_concat] at h2
          exact hm ⟨h2, h3⟩
        obtain ⟨m', h⟩ := ih (p ++ [u]) t sc false hts
        have hne : ¬ (u = t ∧ u < 17) := fun ⟨h1, h2⟩ => hm ⟨h1, h1 ▸ h2⟩
        have hm1 : mergeL (u :: t :: ts) = (u, false) :: mergeL (t :: ts) := by rw [mergeL, if_neg hne]
        refine ⟨m', ?_⟩
        rw [e, h, hm1]
        simp [scoreL]

theorem foldR_tiles (l : List Int) : foldR l = foldR (tilesL l) := by
  unfold foldR
  generalize (([], false, 0) : List Int × Bool × Int) = s
  induction l generalizing s with
  | nil => rfl
  | cons t l ih =>
    by_cases h : t = 0
    · subst h
      have : tilesL (0 :: l) = tilesL l := by simp [tilesL]
      rw [this, List.foldl_cons, ← ih]; simp [stepR]
    · have : tilesL (t :: l) = t :: tilesL l := by simp [tilesL, h]
      rw [this, List.foldl_cons, List.foldl_cons, ih]

/-- What has been put when all tiles have been looked at is the row that comes out; the score is its own. -/
theorem foldR_row (r l : List Int) (m : Bool) (sc : Int) (h : foldR r = (l, m, sc)) : rowOut r = (List.range 4).map (fun i => l.getD i 0) ∧ rowScore r = sc ∧ l = (mergeL (tilesL r)).map (·.1) := by
  rw [foldR_tiles] at h
  have key : l = (mergeL (tilesL r)).map (·.1) ∧ sc = scoreL (mergeL (tilesL r)) := by
    cases ht : tilesL r with
    | nil => rw [ht] at h; simp [foldR] at h; obtain ⟨rfl, _, rfl⟩ := h; simp [mergeL, scoreL]
    | cons t ts =>
      have hall : ∀ x ∈ tilesL r, ¬ x = 0 := fun x hx => by have := (List.mem_filter.1 hx).2; simpa using this
      rw [ht] at h hall
      have h0 : ¬ t = 0 := hall t (by simp)
      have e : foldR (t :: ts) = ts.foldl stepR ([] ++ [t], false, 0) := by simp [foldR, stepR, h0]
      obtain ⟨m', hf⟩ := fold_merge ts [] t 0 false (fun x hx => hall x (by simp [hx]))
      rw [e, hf] at h
      simp only [List.nil_append, Bool.false_eq_true, if_false, Prod.mk.injEq] at h
      exact ⟨h.1.symm, by rw [← h.2.2]; omega⟩
  obtain ⟨rfl, rfl⟩ := key
  refine ⟨?_, rfl, rfl⟩
  unfold rowOut
  apply List.map_congr_left
  intro i _
  simp only [List.getD_eq_getElem?_getD, List.getElem?_map]
  cases (mergeL (tilesL r))[i]? <;> simp

/-- A number lies in a range; all numbers of a list lie in 0..17. -/
def inB (x a b : Int) : Bool := decide (a ≤ x) && decide (x ≤ b)
def okB (l : List Int) : Bool := l.all fun x => inB x 0 17
theorem okB_iff (l : List Int) : okB l = true ↔ okL l := by simp [okB, okL, inB]

end Go.Proofs.Ytgkfhppmopmgjaa
