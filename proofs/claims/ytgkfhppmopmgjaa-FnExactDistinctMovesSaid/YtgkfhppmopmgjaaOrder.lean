/- Plain laws: the order of boards (and rows), lists in strict order, insertion, and the forms' group. No Go here. -/
import Derived.Test.YtgkfhppmopmgjaaPure2
set_option linter.all false
namespace Go.Proofs.Ytgkfhppmopmgjaa.Pl

theorem ltL_trans : ∀ {a b c : List Int}, a.length = b.length → b.length = c.length → ltL a b = true → ltL b c = true → ltL a c = true
  | [], _, _, _, _, h, _ => by simp [ltL] at h
  | x :: a, [], _, h, _, _, _ => by simp at h
  | x :: a, y :: b, [], _, h, _, _ => by simp at h
  | x :: a, y :: b, z :: c, h1, h2, h3, h4 => by
    simp only [ltL] at *
    by_cases e1 : x = y
    · subst e1
      rw [if_pos rfl] at h3
      by_cases e2 : x = z
      · subst e2
        rw [if_pos rfl] at h4 ⊢
        exact ltL_trans (by simpa using h1) (by simpa using h2) h3 h4
      · rw [if_neg e2] at h4 ⊢; exact h4
    · rw [if_neg e1] at h3
      by_cases e2 : y = z
      · subst e2; rw [if_neg e1]; exact h3
      · rw [if_neg e2] at h4
        simp only [decide_eq_true_eq] at h3 h4
        rw [if_neg (by omega)]
        simp only [decide_eq_true_eq]; omega
theorem ltL_tri : ∀ {a b : List Int}, a.length = b.length → ltL a b = false → ltL b a = false → a = b
  | [], [], _, _, _ => rfl
  | [], _ :: _, h, _, _ => by simp at h
  | _ :: _, [], h, _, _ => by simp at h
  | x :: a, y :: b, h, h1, h2 => by
    simp only [ltL] at h1 h2
    by_cases e : x = y
    · subst e
      rw [if_pos rfl] at h1 h2
      rw [ltL_tri (by simpa using h) h1 h2]
    · rw [if_neg e] at h1
      rw [if_neg (Ne.symm e)] at h2
      simp only [decide_eq_false_iff_not] at h1 h2
      exact absurd (show x = y by omega) e
theorem ltL_asymm {a b : List Int} (hl : a.length = b.length) (h : ltL a b = true) : ltL b a = false := by
  cases h2 : ltL b a with
  | false => rfl
  | true => have := ltL_trans hl hl.symm h h2; rw [ltL_irrefl] at this; cases this

/-- In strict order. -/
def Asc (l : List (List Int)) : Prop := l.Pairwise fun a b => ltL a b = true
/-- All of one length. -/
def AllLen (n : Nat) (l : List (List Int)) : Prop := ∀ x ∈ l, x.length = n
theorem AllLen.tail {n : Nat} {x : List Int} {l : List (List Int)} (h : AllLen n (x :: l)) : AllLen n l := fun y hy => h y (by simp [hy])
theorem AllLen.head {n : Nat} {x : List Int} {l : List (List Int)} (h : AllLen n (x :: l)) : x.length = n := h x (by simp)

/-- How many stand before x, from the first one. -/
def placeL (x : List Int) : List (List Int) → Nat
  | [] => 0
  | y :: l => if ltL y x then placeL x l + 1 else 0
theorem placeL_le (x : List Int) (l : List (List Int)) : placeL x l ≤ l.length := by
  induction l with
  | nil => simp [placeL]
  | cons y l ih => simp only [placeL]; split <;> simp only [List.length_cons] <;> omega
/-- x put to its place, if it is not there. -/
def addL (l : List (List Int)) (x : List Int) : List (List Int) :=
  if placeL x l < l.length ∧ l.getD (placeL x l) [] = x then l else l.take (placeL x l) ++ [x] ++ l.drop (placeL x l)

theorem addL_cons (y x : List Int) (l : List (List Int)) : addL (y :: l) x = if ltL y x then y :: addL l x else if y = x then y :: l else x :: y :: l := by
  by_cases h : ltL y x = true
  · have hp : placeL x (y :: l) = placeL x l + 1 := by simp [placeL, h]
    rw [if_pos h]
    simp only [addL, hp, List.getD_cons_succ, List.length_cons, Nat.add_lt_add_iff_right, List.take_succ_cons, List.drop_succ_cons, List.cons_append]
    split <;> rfl
  · have hp : placeL x (y :: l) = 0 := by simp [placeL, h]
    rw [if_neg h]
    simp only [addL, hp, List.getD_cons_zero, List.length_cons, List.take_zero, List.drop_zero, List.nil_append]
    by_cases he : y = x
    · rw [if_pos ⟨by omega, he⟩, if_pos he]
    · rw [if_neg (fun hh => he hh.2), if_neg he]; rfl
theorem addL_nil (x : List Int) : addL [] x = [x] := rfl
theorem mem_addL {l : List (List Int)} {x z : List Int} : z ∈ addL l x ↔ z ∈ l ∨ z = x := by
  induction l with
  | nil => simp [addL_nil]
  | cons y l ih =>
    rw [addL_cons]
    split
    · simp only [List.mem_cons, ih]; constructor
      · rintro (h | h | h)
        · exact .inl (.inl h)
        · exact .inl (.inr h)
        · exact .inr h
      · rintro ((h | h) | h)
        · exact .inl h
        · exact .inr (.inl h)
        · exact .inr (.inr h)
    · split
      · rename_i he; subst he; simp only [List.mem_cons]; constructor
        · exact .inl
        · rintro (h | h)
          · exact h
          · exact .inl h
      · simp only [List.mem_cons]; constructor
        · rintro (h | h)
          · exact .inr h
          · exact .inl h
        · rintro (h | h)
          · exact .inr h
          · exact .inl h
theorem addL_len {n : Nat} {l : List (List Int)} {x : List Int} (h : AllLen n l) (hx : x.length = n) : AllLen n (addL l x) := fun z hz => by
  rcases mem_addL.1 hz with hz | rfl
  · exact h z hz
  · exact hx
theorem addL_asc {n : Nat} {l : List (List Int)} {x : List Int} (h : AllLen n l) (hx : x.length = n) (ha : Asc l) : Asc (addL l x) := by
  induction l with
  | nil => simp [addL_nil, Asc]
  | cons y l ih =>
    rw [addL_cons]
    have ha' := List.pairwise_cons.1 ha
    split
    · rename_i hy
      refine List.pairwise_cons.2 ⟨fun z hz => ?_, ih h.tail ha'.2⟩
      rcases mem_addL.1 hz with hz | rfl
      · exact ha'.1 z hz
      · exact hy
    · split
      · exact ha
      · rename_i h1 h2
        have hyl := h.head
        have hxy : ltL x y = true := by
          cases hh : ltL x y with
          | true => rfl
          | false => exact absurd (ltL_tri (by omega) hh (by simpa using h1)).symm h2
        refine List.pairwise_cons.2 ⟨fun z hz => ?_, ha⟩
        rcases List.mem_cons.1 hz with rfl | hz
        · exact hxy
        · exact ltL_trans (by omega) (by have := h.tail z hz; omega) hxy (ha'.1 z hz)
theorem addL_hit {n : Nat} {l : List (List Int)} {x : List Int} (h : AllLen n l) (ha : Asc l) (hm : x ∈ l) : addL l x = l := by
  induction l with
  | nil => simp at hm
  | cons y l ih =>
    rw [addL_cons]
    have ha' := List.pairwise_cons.1 ha
    rcases List.mem_cons.1 hm with rfl | hm
    · rw [ltL_irrefl]; simp
    · rw [if_pos (ha'.1 x hm), ih h.tail ha'.2 hm]
theorem addL_miss {l : List (List Int)} {x : List Int} (hm : x ∉ l) : (addL l x).length = l.length + 1 := by
  induction l with
  | nil => rfl
  | cons y l ih =>
    rw [addL_cons]
    simp only [List.mem_cons, not_or] at hm
    split
    · simp [ih hm.2]
    · rw [if_neg (Ne.symm hm.1)]; simp
/-- Lists in strict order with the same members are the same. -/
theorem asc_unique {n : Nat} : ∀ {a b : List (List Int)}, AllLen n a → AllLen n b → Asc a → Asc b → (∀ z, z ∈ a ↔ z ∈ b) → a = b
  | [], [], _, _, _, _, _ => rfl
  | [], y :: b, _, _, _, _, h => by have := (h y).2 (by simp); simp at this
  | x :: a, [], _, _, _, _, h => by have := (h x).1 (by simp); simp at this
  | x :: a, y :: b, la, lb, ha, hb, h => by
    have ha' := List.pairwise_cons.1 ha
    have hb' := List.pairwise_cons.1 hb
    have hx := la.head
    have hy := lb.head
    have hxy : x = y := by
      rcases List.mem_cons.1 ((h x).1 (by simp)) with e | e
      · exact e
      · rcases List.mem_cons.1 ((h y).2 (by simp)) with e2 | e2
        · exact e2.symm
        · have h1 := hb'.1 x e
          have h2 := ltL_asymm (by omega) (ha'.1 y e2)
          rw [h1] at h2; cases h2
    subst hxy
    congr 1
    refine asc_unique la.tail lb.tail ha'.2 hb'.2 fun z => ?_
    constructor
    · intro hz
      rcases List.mem_cons.1 ((h z).1 (by simp [hz])) with rfl | e
      · have := ha'.1 z hz; rw [ltL_irrefl] at this; cases this
      · exact e
    · intro hz
      rcases List.mem_cons.1 ((h z).2 (by simp [hz])) with rfl | e
      · have := hb'.1 z hz; rw [ltL_irrefl] at this; cases this
      · exact e

/-- In order, equal ones side by side. -/
def AscE (l : List (List Int)) : Prop := l.Pairwise fun a b => ltL b a = false
/-- Of equal ones side by side the first one. -/
def compL : List (List Int) → List (List Int)
  | [] => []
  | [x] => [x]
  | x :: y :: l => if x = y then compL (x :: l) else x :: compL (y :: l)
termination_by l => l.length
theorem mem_compL (l : List (List Int)) (z : List Int) : z ∈ compL l ↔ z ∈ l := by
  induction l using compL.induct with
  | case1 => simp [compL]
  | case2 x => simp [compL]
  | case3 x l ih => rw [compL, if_pos rfl, ih]; simp
  | case4 x y l hxy ih => rw [compL, if_neg hxy]; simp only [List.mem_cons, ih]
theorem compL_asc {n : Nat} (l : List (List Int)) (hl : AllLen n l) (h : AscE l) : Asc (compL l) := by
  induction l using compL.induct with
  | case1 => simp [compL, Asc]
  | case2 x => simp [compL, Asc]
  | case3 x l ih =>
    rw [compL, if_pos rfl]
    exact ih hl.tail (List.pairwise_cons.1 h).2
  | case4 x y l hxy ih =>
    rw [compL, if_neg hxy]
    have h' := List.pairwise_cons.1 h
    have h2 := List.pairwise_cons.1 h'.2
    have hx := hl.head
    have hy := hl.tail.head
    have hlt : ltL x y = true := by
      cases hh : ltL x y with
      | true => rfl
      | false => exact absurd (ltL_tri (by omega) hh (h'.1 y (by simp))) hxy
    refine List.pairwise_cons.2 ⟨fun z hz => ?_, ih hl.tail h'.2⟩
    rw [mem_compL] at hz
    rcases List.mem_cons.1 hz with rfl | hz
    · exact hlt
    · cases hh : ltL x z with
      | true => rfl
      | false =>
        have hzl := hl.tail.tail z hz
        have hxz : x = z := ltL_tri (by omega) hh (h'.1 z (by simp [hz]))
        subst hxz
        have := h2.1 x hz
        rw [hlt] at this; cases this

/-- Each member of the list d is told once: how many of l are in d. -/
theorem count_all {d l : List (List Int)} (hd : Asc d) (hm : ∀ z ∈ l, z ∈ d) : l.length = (d.map fun v => l.count v).sum := by
  induction l with
  | nil =>
    have : ∀ d : List (List Int), (d.map fun v => ([] : List (List Int)).count v).sum = 0 := by
      intro d
      induction d with
      | nil => rfl
      | cons v d ih => simp only [List.map_cons, List.sum_cons, ih]; simp
    rw [this]; rfl
  | cons x l ih =>
    have hx := hm x (by simp)
    have ih := ih (fun z hz => hm z (by simp [hz]))
    have : ∀ (d : List (List Int)), Asc d → x ∈ d → (d.map fun v => (x :: l).count v).sum = (d.map fun v => l.count v).sum + 1 := by
      intro d
      induction d with
      | nil => intro _ h; simp at h
      | cons v d ihd =>
        intro ha h
        have ha' := List.pairwise_cons.1 ha
        simp only [List.map_cons, List.sum_cons]
        by_cases hv : x = v
        · subst hv
          have hno : ∀ u ∈ d, (x :: l).count u = l.count u := by
            intro u hu
            rw [List.count_cons_of_ne]
            rintro rfl
            have := ha'.1 x hu
            rw [ltL_irrefl] at this; cases this
          rw [List.count_cons_self, List.map_congr_left hno]; omega
        · rcases List.mem_cons.1 h with h | h
          · exact absurd h hv
          · rw [ihd ha'.2 h, List.count_cons_of_ne hv]; omega
    rw [this d hd hx, List.length_cons, ih]
theorem sum_const {d : List (List Int)} {f : List Int → Nat} {s : Nat} (h : ∀ v ∈ d, f v = s) : (d.map f).sum = d.length * s := by
  induction d with
  | nil => simp
  | cons v d ih =>
    simp only [List.map_cons, List.sum_cons, List.length_cons, h v (by simp), ih fun u hu => h u (by simp [hu])]
    rw [Nat.add_mul]; omega

/-- The form of a form. -/
def mulF (k m : Nat) : Nat :=
  if k < 4 then (if m < 4 then (k + m) % 4 else 4 + (k + m) % 4)
  else if m < 4 then 4 + (k + 4 - m) % 4 else (k + 8 - m) % 4
def invF (k : Nat) : Nat := if k < 4 then (4 - k) % 4 else k
theorem quarter4 (b : List Int) (hb : b.length = 16) : quarterB (quarterB (quarterB (quarterB b))) = b := by
  obtain ⟨x0, x1, x2, x3, x4, x5, x6, x7, x8, x9, x10, x11, x12, x13, x14, x15, rfl⟩ := len16 b hb
  rfl
theorem mirror2 (b : List Int) (hb : b.length = 16) : mirrorB (mirrorB b) = b := by
  obtain ⟨x0, x1, x2, x3, x4, x5, x6, x7, x8, x9, x10, x11, x12, x13, x14, x15, rfl⟩ := len16 b hb
  rfl
theorem quarter_mirror (b : List Int) : quarterB (mirrorB b) = mirrorB (quarterB (quarterB (quarterB b))) := rfl
theorem mirror2Q (b : List Int) : mirrorB (mirrorB (quarterB b)) = quarterB b := rfl
theorem made_made {b : List Int} (hb : b.length = 16) (k m : Nat) (hk : k < 8) (hm : m < 8) : madeB (madeB b k) m = madeB b (mulF k m) := by
  match k, hk, m, hm with
  | 0, _, 0, _ => show madeB (madeB b 0) 0 = madeB b 0; simp only [madeB, quarter_mirror, quarter4, mirror2, mirror2Q, quarterB_length, mirrorB_length, hb]
  | 0, _, 1, _ => show madeB (madeB b 0) 1 = madeB b 1; simp only [madeB, quarter_mirror, quarter4, mirror2, mirror2Q, quarterB_length, mirrorB_length, hb]
  | 0, _, 2, _ => show madeB (madeB b 0) 2 = madeB b 2; simp only [madeB, quarter_mirror, quarter4, mirror2, mirror2Q, quarterB_length, mirrorB_length, hb]
  | 0, _, 3, _ => show madeB (madeB b 0) 3 = madeB b 3; simp only [madeB, quarter_mirror, quarter4, mirror2, mirror2Q, quarterB_length, mirrorB_length, hb]
  | 0, _, 4, _ => show madeB (madeB b 0) 4 = madeB b 4; simp only [madeB, quarter_mirror, quarter4, mirror2, mirror2Q, quarterB_length, mirrorB_length, hb]
  | 0, _, 5, _ => show madeB (madeB b 0) 5 = madeB b 5; simp only [madeB, quarter_mirror, quarter4, mirror2, mirror2Q, quarterB_length, mirrorB_length, hb]
  | 0, _, 6, _ => show madeB (madeB b 0) 6 = madeB b 6; simp only [madeB, quarter_mirror, quarter4, mirror2, mirror2Q, quarterB_length, mirrorB_length, hb]
  | 0, _, 7, _ => show madeB (madeB b 0) 7 = madeB b 7; simp only [madeB, quarter_mirror, quarter4, mirror2, mirror2Q, quarterB_length, mirrorB_length, hb]
  | 1, _, 0, _ => show madeB (madeB b 1) 0 = madeB b 1; simp only [madeB, quarter_mirror, quarter4, mirror2, mirror2Q, quarterB_length, mirrorB_length, hb]
  | 1, _, 1, _ => show madeB (madeB b 1) 1 = madeB b 2; simp only [madeB, quarter_mirror, quarter4, mirror2, mirror2Q, quarterB_length, mirrorB_length, hb]
  | 1, _, 2, _ => show madeB (madeB b 1) 2 = madeB b 3; simp only [madeB, quarter_mirror, quarter4, mirror2, mirror2Q, quarterB_length, mirrorB_length, hb]
  | 1, _, 3, _ => show madeB (madeB b 1) 3 = madeB b 0; simp only [madeB, quarter_mirror, quarter4, mirror2, mirror2Q, quarterB_length, mirrorB_length, hb]
  | 1, _, 4, _ => show madeB (madeB b 1) 4 = madeB b 5; simp only [madeB, quarter_mirror, quarter4, mirror2, mirror2Q, quarterB_length, mirrorB_length, hb]
  | 1, _, 5, _ => show madeB (madeB b 1) 5 = madeB b 6; simp only [madeB, quarter_mirror, quarter4, mirror2, mirror2Q, quarterB_length, mirrorB_length, hb]
  | 1, _, 6, _ => show madeB (madeB b 1) 6 = madeB b 7; simp only [madeB, quarter_mirror, quarter4, mirror2, mirror2Q, quarterB_length, mirrorB_length, hb]
  | 1, _, 7, _ => show madeB (madeB b 1) 7 = madeB b 4; simp only [madeB, quarter_mirror, quarter4, mirror2, mirror2Q, quarterB_length, mirrorB_length, hb]
  | 2, _, 0, _ => show madeB (madeB b 2) 0 = madeB b 2; simp only [madeB, quarter_mirror, quarter4, mirror2, mirror2Q, quarterB_length, mirrorB_length, hb]
  | 2, _, 1, _ => show madeB (madeB b 2) 1 = madeB b 3; simp only [madeB, quarter_mirror, quarter4, mirror2, mirror2Q, quarterB_length, mirrorB_length, hb]
  | 2, _, 2, _ => show madeB (madeB b 2) 2 = madeB b 0; simp only [madeB, quarter_mirror, quarter4, mirror2, mirror2Q, quarterB_length, mirrorB_length, hb]
  | 2, _, 3, _ => show madeB (madeB b 2) 3 = madeB b 1; simp only [madeB, quarter_mirror, quarter4, mirror2, mirror2Q, quarterB_length, mirrorB_length, hb]
  | 2, _, 4, _ => show madeB (madeB b 2) 4 = madeB b 6; simp only [madeB, quarter_mirror, quarter4, mirror2, mirror2Q, quarterB_length, mirrorB_length, hb]
  | 2, _, 5, _ => show madeB (madeB b 2) 5 = madeB b 7; simp only [madeB, quarter_mirror, quarter4, mirror2, mirror2Q, quarterB_length, mirrorB_length, hb]
  | 2, _, 6, _ => show madeB (madeB b 2) 6 = madeB b 4; simp only [madeB, quarter_mirror, quarter4, mirror2, mirror2Q, quarterB_length, mirrorB_length, hb]
  | 2, _, 7, _ => show madeB (madeB b 2) 7 = madeB b 5; simp only [madeB, quarter_mirror, quarter4, mirror2, mirror2Q, quarterB_length, mirrorB_length, hb]
  | 3, _, 0, _ => show madeB (madeB b 3) 0 = madeB b 3; simp only [madeB, quarter_mirror, quarter4, mirror2, mirror2Q, quarterB_length, mirrorB_length, hb]
  | 3, _, 1, _ => show madeB (madeB b 3) 1 = madeB b 0; simp only [madeB, quarter_mirror, quarter4, mirror2, mirror2Q, quarterB_length, mirrorB_length, hb]
  | 3, _, 2, _ => show madeB (madeB b 3) 2 = madeB b 1; simp only [madeB, quarter_mirror, quarter4, mirror2, mirror2Q, quarterB_length, mirrorB_length, hb]
  | 3, _, 3, _ => show madeB (madeB b 3) 3 = madeB b 2; simp only [madeB, quarter_mirror, quarter4, mirror2, mirror2Q, quarterB_length, mirrorB_length, hb]
  | 3, _, 4, _ => show madeB (madeB b 3) 4 = madeB b 7; simp only [madeB, quarter_mirror, quarter4, mirror2, mirror2Q, quarterB_length, mirrorB_length, hb]
  | 3, _, 5, _ => show madeB (madeB b 3) 5 = madeB b 4; simp only [madeB, quarter_mirror, quarter4, mirror2, mirror2Q, quarterB_length, mirrorB_length, hb]
  | 3, _, 6, _ => show madeB (madeB b 3) 6 = madeB b 5; simp only [madeB, quarter_mirror, quarter4, mirror2, mirror2Q, quarterB_length, mirrorB_length, hb]
  | 3, _, 7, _ => show madeB (madeB b 3) 7 = madeB b 6; simp only [madeB, quarter_mirror, quarter4, mirror2, mirror2Q, quarterB_length, mirrorB_length, hb]
  | 4, _, 0, _ => show madeB (madeB b 4) 0 = madeB b 4; simp only [madeB, quarter_mirror, quarter4, mirror2, mirror2Q, quarterB_length, mirrorB_length, hb]
  | 4, _, 1, _ => show madeB (madeB b 4) 1 = madeB b 7; simp only [madeB, quarter_mirror, quarter4, mirror2, mirror2Q, quarterB_length, mirrorB_length, hb]
  | 4, _, 2, _ => show madeB (madeB b 4) 2 = madeB b 6; simp only [madeB, quarter_mirror, quarter4, mirror2, mirror2Q, quarterB_length, mirrorB_length, hb]
  | 4, _, 3, _ => show madeB (madeB b 4) 3 = madeB b 5; simp only [madeB, quarter_mirror, quarter4, mirror2, mirror2Q, quarterB_length, mirrorB_length, hb]
  | 4, _, 4, _ => show madeB (madeB b 4) 4 = madeB b 0; simp only [madeB, quarter_mirror, quarter4, mirror2, mirror2Q, quarterB_length, mirrorB_length, hb]
  | 4, _, 5, _ => show madeB (madeB b 4) 5 = madeB b 3; simp only [madeB, quarter_mirror, quarter4, mirror2, mirror2Q, quarterB_length, mirrorB_length, hb]
  | 4, _, 6, _ => show madeB (madeB b 4) 6 = madeB b 2; simp only [madeB, quarter_mirror, quarter4, mirror2, mirror2Q, quarterB_length, mirrorB_length, hb]
  | 4, _, 7, _ => show madeB (madeB b 4) 7 = madeB b 1; simp only [madeB, quarter_mirror, quarter4, mirror2, mirror2Q, quarterB_length, mirrorB_length, hb]
  | 5, _, 0, _ => show madeB (madeB b 5) 0 = madeB b 5; simp only [madeB, quarter_mirror, quarter4, mirror2, mirror2Q, quarterB_length, mirrorB_length, hb]
  | 5, _, 1, _ => show madeB (madeB b 5) 1 = madeB b 4; simp only [madeB, quarter_mirror, quarter4, mirror2, mirror2Q, quarterB_length, mirrorB_length, hb]
  | 5, _, 2, _ => show madeB (madeB b 5) 2 = madeB b 7; simp only [madeB, quarter_mirror, quarter4, mirror2, mirror2Q, quarterB_length, mirrorB_length, hb]
  | 5, _, 3, _ => show madeB (madeB b 5) 3 = madeB b 6; simp only [madeB, quarter_mirror, quarter4, mirror2, mirror2Q, quarterB_length, mirrorB_length, hb]
  | 5, _, 4, _ => show madeB (madeB b 5) 4 = madeB b 1; simp only [madeB, quarter_mirror, quarter4, mirror2, mirror2Q, quarterB_length, mirrorB_length, hb]
  | 5, _, 5, _ => show madeB (madeB b 5) 5 = madeB b 0; simp only [madeB, quarter_mirror, quarter4, mirror2, mirror2Q, quarterB_length, mirrorB_length, hb]
  | 5, _, 6, _ => show madeB (madeB b 5) 6 = madeB b 3; simp only [madeB, quarter_mirror, quarter4, mirror2, mirror2Q, quarterB_length, mirrorB_length, hb]
  | 5, _, 7, _ => show madeB (madeB b 5) 7 = madeB b 2; simp only [madeB, quarter_mirror, quarter4, mirror2, mirror2Q, quarterB_length, mirrorB_length, hb]
  | 6, _, 0, _ => show madeB (madeB b 6) 0 = madeB b 6; simp only [madeB, quarter_mirror, quarter4, mirror2, mirror2Q, quarterB_length, mirrorB_length, hb]
  | 6, _, 1, _ => show madeB (madeB b 6) 1 = madeB b 5; simp only [madeB, quarter_mirror, quarter4, mirror2, mirror2Q, quarterB_length, mirrorB_length, hb]
  | 6, _, 2, _ => show madeB (madeB b 6) 2 = madeB b 4; simp only [madeB, quarter_mirror, quarter4, mirror2, mirror2Q, quarterB_length, mirrorB_length, hb]
  | 6, _, 3, _ => show madeB (madeB b 6) 3 = madeB b 7; simp only [madeB, quarter_mirror, quarter4, mirror2, mirror2Q, quarterB_length, mirrorB_length, hb]
  | 6, _, 4, _ => show madeB (madeB b 6) 4 = madeB b 2; simp only [madeB, quarter_mirror, quarter4, mirror2, mirror2Q, quarterB_length, mirrorB_length, hb]
  | 6, _, 5, _ => show madeB (madeB b 6) 5 = madeB b 1; simp only [madeB, quarter_mirror, quarter4, mirror2, mirror2Q, quarterB_length, mirrorB_length, hb]
  | 6, _, 6, _ => show madeB (madeB b 6) 6 = madeB b 0; simp only [madeB, quarter_mirror, quarter4, mirror2, mirror2Q, quarterB_length, mirrorB_length, hb]
  | 6, _, 7, _ => show madeB (madeB b 6) 7 = madeB b 3; simp only [madeB, quarter_mirror, quarter4, mirror2, mirror2Q, quarterB_length, mirrorB_length, hb]
  | 7, _, 0, _ => show madeB (madeB b 7) 0 = madeB b 7; simp only [madeB, quarter_mirror, quarter4, mirror2, mirror2Q, quarterB_length, mirrorB_length, hb]
  | 7, _, 1, _ => show madeB (madeB b 7) 1 = madeB b 6; simp only [madeB, quarter_mirror, quarter4, mirror2, mirror2Q, quarterB_length, mirrorB_length, hb]
  | 7, _, 2, _ => show madeB (madeB b 7) 2 = madeB b 5; simp only [madeB, quarter_mirror, quarter4, mirror2, mirror2Q, quarterB_length, mirrorB_length, hb]
  | 7, _, 3, _ => show madeB (madeB b 7) 3 = madeB b 4; simp only [madeB, quarter_mirror, quarter4, mirror2, mirror2Q, quarterB_length, mirrorB_length, hb]
  | 7, _, 4, _ => show madeB (madeB b 7) 4 = madeB b 3; simp only [madeB, quarter_mirror, quarter4, mirror2, mirror2Q, quarterB_length, mirrorB_length, hb]
  | 7, _, 5, _ => show madeB (madeB b 7) 5 = madeB b 2; simp only [madeB, quarter_mirror, quarter4, mirror2, mirror2Q, quarterB_length, mirrorB_length, hb]
  | 7, _, 6, _ => show madeB (madeB b 7) 6 = madeB b 1; simp only [madeB, quarter_mirror, quarter4, mirror2, mirror2Q, quarterB_length, mirrorB_length, hb]
  | 7, _, 7, _ => show madeB (madeB b 7) 7 = madeB b 0; simp only [madeB, quarter_mirror, quarter4, mirror2, mirror2Q, quarterB_length, mirrorB_length, hb]
theorem mulF_lt (k m : Nat) : mulF k m < 8 := by unfold mulF; split <;> split <;> omega
theorem mulF_inv (k : Nat) (hk : k < 8) : mulF k (invF k) = 0 ∧ mulF (invF k) k = 0 ∧ invF k < 8 := by
  have : ∀ k : Fin 8, mulF k.val (invF k.val) = 0 ∧ mulF (invF k.val) k.val = 0 ∧ invF k.val < 8 := by decide
  exact this ⟨k, hk⟩
theorem mulF_assoc (k m n : Nat) (hk : k < 8) (hm : m < 8) (hn : n < 8) : mulF (mulF k m) n = mulF k (mulF m n) := by
  have : ∀ k m n : Fin 8, mulF (mulF k.val m.val) n.val = mulF k.val (mulF m.val n.val) := by decide +kernel
  exact this ⟨k, hk⟩ ⟨m, hm⟩ ⟨n, hn⟩
theorem mulF_perm (c : Nat) (hc : c < 8) : ((List.range 8).map fun k => mulF k c).Perm (List.range 8) := by
  have : ∀ c : Fin 8, (((List.range 8).map fun k => mulF k c.val).isPerm (List.range 8)) = true := by decide
  exact List.isPerm_iff.1 (this ⟨c, hc⟩)
theorem made_zero (b : List Int) : madeB b 0 = b := rfl
/-- The forms that are the board itself. -/
def sameB (b : List Int) : List Nat := (List.range 8).filter fun k => madeB b k == b
def formsL (b : List Int) : List (List Int) := (List.range 8).map (madeB b)
theorem made_eq {b : List Int} (hb : b.length = 16) {k m : Nat} (hk : k < 8) (hm : m < 8) : madeB b k = madeB b m ↔ madeB b (mulF k (invF m)) = b := by
  have him := mulF_inv m hm
  constructor
  · intro h
    rw [← made_made hb k (invF m) hk him.2.2, h, made_made hb m (invF m) hm him.2.2, him.1]; rfl
  · intro h
    have h2 : madeB (madeB b (mulF k (invF m))) m = madeB b m := by rw [h]
    rw [made_made hb _ _ (mulF_lt _ _) hm, mulF_assoc k (invF m) m hk him.2.2 hm, him.2.1] at h2
    have h3 : mulF k 0 = k := by
      have : ∀ k : Fin 8, mulF k.val 0 = k.val := by decide
      exact this ⟨k, hk⟩
    rw [h3] at h2; exact h2
theorem forms_count {b : List Int} (hb : b.length = 16) {m : Nat} (hm : m < 8) : (formsL b).count (madeB b m) = (sameB b).length := by
  have him := mulF_inv m hm
  unfold formsL sameB
  rw [List.count_eq_length_filter, List.filter_map, List.length_map]
  have e1 : (List.range 8).filter ((fun x => x == madeB b m) ∘ madeB b) = (List.range 8).filter fun k => madeB b (mulF k (invF m)) == b := by
    apply List.filter_congr
    intro k hk
    have hk := List.mem_range.1 hk
    simp only [Function.comp]
    rw [Bool.eq_iff_iff, beq_iff_eq, beq_iff_eq]
    exact made_eq hb hk hm
  rw [e1]
  have e2 : ((List.range 8).filter fun k => madeB b (mulF k (invF m)) == b).length = (((List.range 8).map fun k => mulF k (invF m)).filter fun k => madeB b k == b).length := by
    rw [List.filter_map, List.length_map]; rfl
  rw [e2]
  exact ((mulF_perm (invF m) him.2.2).filter _).length_eq
/-- The number of different forms is 8 over the number of forms that are the board itself. -/
theorem forms_many {b : List Int} (hb : b.length = 16) {d : List (List Int)} (hd : Asc d) (hm : ∀ z, z ∈ d ↔ z ∈ formsL b) : d.length * (sameB b).length = 8 ∧ 1 ≤ (sameB b).length ∧ d.length = 8 / (sameB b).length := by
  have h1 := count_all hd (fun z hz => (hm z).2 hz)
  have h2 : ∀ v ∈ d, (formsL b).count v = (sameB b).length := by
    intro v hv
    obtain ⟨m, hm1, rfl⟩ := List.mem_map.1 ((hm v).1 hv)
    exact forms_count hb (List.mem_range.1 hm1)
  rw [sum_const h2] at h1
  have h8 : (formsL b).length = 8 := by simp [formsL]
  have hs : 1 ≤ (sameB b).length := by
    have : (0 : Nat) ∈ sameB b := by simp [sameB, made_zero]
    exact List.length_pos_of_mem this
  refine ⟨by omega, hs, ?_⟩
  rw [h8] at h1
  rw [h1, Nat.mul_div_cancel _ (by omega)]
end Go.Proofs.Ytgkfhppmopmgjaa.Pl
