/- Plain laws on texts (lists of bytes) and lists of texts: joining. No Go here. -/
import Derived.Lib.Join
namespace Go.Proofs.Ytojanfcmhalfkaa.Ps

/-- Whether a byte stands in a text. -/
def stands (s : ByteArray) (c : UInt8) : Bool := s.data.toList.contains c
/-- The first k texts joined. -/
def preJ (xs : List ByteArray) (sep : ByteArray) : Nat → ByteArray
  | 0 => ByteArray.empty
  | k + 1 => (if 0 < k then preJ xs sep k ++ sep else preJ xs sep k) ++ xs.getD k ByteArray.empty
def sumJ (xs : List ByteArray) : Nat → Nat
  | 0 => 0
  | k + 1 => sumJ xs k + (xs.getD k ByteArray.empty).size
def allS (xs : List ByteArray) (c : UInt8) : Bool := xs.all fun s => !stands s c
/-- What both JoinStrings answer at a separator of one byte. -/
def okJ (xs : List ByteArray) (c : UInt8) : Bool := allS xs c && decide ((preJ xs ⟨#[c]⟩ xs.length).size ≤ 4000)
theorem app_list (a b : ByteArray) : (a ++ b).data.toList = a.data.toList ++ b.data.toList := by
  rw [ByteArray.data_append, Array.toList_append]
theorem app_size (a b : ByteArray) : (a ++ b).size = a.size + b.size := ByteArray.size_append
theorem preJ_size (xs : List ByteArray) (c : UInt8) (k : Nat) : (preJ xs ⟨#[c]⟩ k).size = (k - 1) + sumJ xs k := by
  induction k with
  | zero => rfl
  | succ k ih =>
    have h1 : (⟨#[c]⟩ : ByteArray).size = 1 := rfl
    simp only [preJ, sumJ, app_size]
    split
    · rw [app_size, ih, h1]; omega
    · rw [ih]; omega
theorem sumJ_mono (xs : List ByteArray) {j k : Nat} (h : j ≤ k) : sumJ xs j ≤ sumJ xs k := by
  induction k with
  | zero => obtain rfl : j = 0 := by omega
            exact Nat.le_refl _
  | succ k ih =>
    rcases Nat.eq_or_lt_of_le h with rfl | h
    · exact Nat.le_refl _
    · exact Nat.le_trans (ih (by omega)) (Nat.le_add_right _ _)
theorem preJ_mono (xs : List ByteArray) (c : UInt8) {j k : Nat} (h : j ≤ k) : (preJ xs ⟨#[c]⟩ j).size ≤ (preJ xs ⟨#[c]⟩ k).size := by
  rw [preJ_size, preJ_size]
  have := sumJ_mono xs h
  omega
theorem allS_not {xs : List ByteArray} {c : UInt8} {k : Nat} (hk : k < xs.length) (h : stands (xs.getD k ByteArray.empty) c = true) : allS xs c = false := by
  unfold allS
  rw [List.all_eq_false]
  refine ⟨xs.getD k ByteArray.empty, ?_, by simpa using h⟩
  rw [List.getD_eq_getElem?_getD, List.getElem?_eq_getElem hk]
  exact List.getElem_mem hk
theorem allS_yes {xs : List ByteArray} {c : UInt8} (h : ∀ k, k < xs.length → stands (xs.getD k ByteArray.empty) c = false) : allS xs c = true := by
  unfold allS
  rw [List.all_eq_true]
  intro s hs
  obtain ⟨k, hk, rfl⟩ := List.mem_iff_getElem.1 hs
  have := h k hk
  rw [List.getD_eq_getElem?_getD, List.getElem?_eq_getElem hk] at this
  simpa using this
theorem okJ_stands {xs : List ByteArray} {c : UInt8} {k : Nat} (hk : k < xs.length) (h : stands (xs.getD k ByteArray.empty) c = true) : okJ xs c = false := by
  unfold okJ; rw [allS_not hk h]; rfl
theorem okJ_long {xs : List ByteArray} {c : UInt8} {k : Nat} (hk : k ≤ xs.length) (h : 4000 < (preJ xs ⟨#[c]⟩ k).size) : okJ xs c = false := by
  have := preJ_mono xs c hk
  unfold okJ
  rw [decide_eq_false (by omega), Bool.and_false]
theorem okJ_yes {xs : List ByteArray} {c : UInt8} (h : ∀ k, k < xs.length → stands (xs.getD k ByteArray.empty) c = false) (h2 : (preJ xs ⟨#[c]⟩ xs.length).size ≤ 4000) : okJ xs c = true := by
  unfold okJ; rw [allS_yes h, decide_eq_true h2]; rfl
theorem preJ_join (xs : List ByteArray) (c : UInt8) : (preJ xs ⟨#[c]⟩ xs.length).data.toList = Lib.join (xs.map (·.data.toList)) [c] := by
  have key : ∀ k, k ≤ xs.length → (preJ xs ⟨#[c]⟩ k).data.toList = Lib.join ((xs.take k).map (·.data.toList)) [c] := by
    intro k
    induction k with
    | zero => intro _; rfl
    | succ k ih =>
      intro hk
      have ih := ih (by omega)
      have ht : xs.take (k + 1) = xs.take k ++ [xs.getD k ByteArray.empty] := by
        rw [List.take_succ_eq_append_getElem (by omega), List.getD_eq_getElem?_getD, List.getElem?_eq_getElem (by omega)]; rfl
      rw [ht, List.map_append, preJ]
      split
      · rename_i h0
        rw [app_list, app_list, ih]
        cases hx : xs.take k with
        | nil =>
          have h1 : (xs.take k).length = 0 := by rw [hx]; rfl
          rw [List.length_take] at h1; omega
        | cons y r =>
          simp only [List.map_cons, List.cons_append, List.map_nil]
          rw [Lib.join_cons, Lib.join_cons]
          simp [Lib.joinTail]
      · rename_i h0
        obtain rfl : k = 0 := by omega
        rw [app_list]
        simp [preJ, Lib.join_one]
  have := key xs.length (Nat.le_refl _)
  rwa [List.take_length] at this
end Go.Proofs.Ytojanfcmhalfkaa.Ps
