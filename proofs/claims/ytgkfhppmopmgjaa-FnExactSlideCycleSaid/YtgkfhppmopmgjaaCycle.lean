/- Plain law: the boards behind ever more rounds of the same slides come back within a bound. No Go here. -/
import Derived.Test.YtgkfhppmopmgjaaPure2
set_option linter.all false
namespace Go.Proofs.Ytgkfhppmopmgjaa.Pl

def packR (r : List Int) : List Int := (List.range 4).map fun i => (tilesL r).getD i 0
def packB (b : List Int) (d : Nat) : List Int :=
  putL (putL (putL (putL b d 0 (packR (lineB b d 0))) d 1 (packR (lineB b d 1))) d 2 (packR (lineB b d 2))) d 3 (packR (lineB b d 3))
def packsB (b : List Int) : List Nat → List Int
  | [] => b
  | d :: ds => packsB (packB b d) ds
/-- n rounds of the slides ds. -/
def itB (b : List Int) (ds : List Nat) : Nat → List Int
  | 0 => b
  | n + 1 => slidesB (itB b ds n) ds
def pitB (b : List Int) (ds : List Nat) : Nat → List Int
  | 0 => b
  | n + 1 => packsB (pitB b ds n) ds

theorem itB_add (b : List Int) (ds : List Nat) (m n : Nat) : itB b ds (m + n) = itB (itB b ds m) ds n := by
  induction n with
  | zero => rfl
  | succ n ih => rw [← Nat.add_assoc, itB, ih, itB]
theorem pitB_add (b : List Int) (ds : List Nat) (m n : Nat) : pitB b ds (m + n) = pitB (pitB b ds m) ds n := by
  induction n with
  | zero => rfl
  | succ n ih => rw [← Nat.add_assoc, pitB, ih, pitB]

/-- How many are not zero. -/
def cntN (l : List Int) : Nat := (tilesL l).length
def nzN (x : Int) : Nat := if x = 0 then 0 else 1
theorem cntN_cons (x : Int) (l : List Int) : cntN (x :: l) = nzN x + cntN l := by
  by_cases h : x = 0
  · simp [cntN, tilesL, nzN, h]
  · simp [cntN, tilesL, nzN, h]; omega
theorem cntN_nil : cntN [] = 0 := rfl

theorem put4_cnt (b : List Int) (hb : b.length = 16) (d : Nat) (r0 r1 r2 r3 : List Int) (h0 : r0.length = 4) (h1 : r1.length = 4) (h2 : r2.length = 4) (h3 : r3.length = 4) :
    cntN (putL (putL (putL (putL b d 0 r0) d 1 r1) d 2 r2) d 3 r3) = cntN r0 + cntN r1 + cntN r2 + cntN r3 := by
  obtain ⟨x0, x1, x2, x3, x4, x5, x6, x7, x8, x9, x10, x11, x12, x13, x14, x15, rfl⟩ := len16 b hb
  obtain ⟨a0, a1, a2, a3, rfl⟩ := len4 r0 h0
  obtain ⟨b0, b1, b2, b3, rfl⟩ := len4 r1 h1
  obtain ⟨c0, c1, c2, c3, rfl⟩ := len4 r2 h2
  obtain ⟨d0, d1, d2, d3, rfl⟩ := len4 r3 h3
  match d with
  | 0 => simp only [putL, at4, List.getD_cons_zero, List.getD_cons_succ, List.set_cons_zero, List.set_cons_succ, Nat.reduceMul, Nat.reduceAdd, Nat.reduceSub, cntN_cons, cntN_nil]; clear h0 h1 h2 h3 hb; generalize nzN a0 = ma0; generalize nzN a1 = ma1; generalize nzN a2 = ma2; generalize nzN a3 = ma3; generalize nzN b0 = mb0; generalize nzN b1 = mb1; generalize nzN b2 = mb2; generalize nzN b3 = mb3; generalize nzN c0 = mc0; generalize nzN c1 = mc1; generalize nzN c2 = mc2; generalize nzN c3 = mc3; generalize nzN d0 = md0; generalize nzN d1 = md1; generalize nzN d2 = md2; generalize nzN d3 = md3; ac_rfl
  | 1 => simp only [putL, at4, List.getD_cons_zero, List.getD_cons_succ, List.set_cons_zero, List.set_cons_succ, Nat.reduceMul, Nat.reduceAdd, Nat.reduceSub, cntN_cons, cntN_nil]; clear h0 h1 h2 h3 hb; generalize nzN a0 = ma0; generalize nzN a1 = ma1; generalize nzN a2 = ma2; generalize nzN a3 = ma3; generalize nzN b0 = mb0; generalize nzN b1 = mb1; generalize nzN b2 = mb2; generalize nzN b3 = mb3; generalize nzN c0 = mc0; generalize nzN c1 = mc1; generalize nzN c2 = mc2; generalize nzN c3 = mc3; generalize nzN d0 = md0; generalize nzN d1 = md1; generalize nzN d2 = md2; generalize nzN d3 = md3; ac_rfl
  | 2 => simp only [putL, at4, List.getD_cons_zero, List.getD_cons_succ, List.set_cons_zero, List.set_cons_succ, Nat.reduceMul, Nat.reduceAdd, Nat.reduceSub, cntN_cons, cntN_nil]; clear h0 h1 h2 h3 hb; generalize nzN a0 = ma0; generalize nzN a1 = ma1; generalize nzN a2 = ma2; generalize nzN a3 = ma3; generalize nzN b0 = mb0; generalize nzN b1 = mb1; generalize nzN b2 = mb2; generalize nzN b3 = mb3; generalize nzN c0 = mc0; generalize nzN c1 = mc1; generalize nzN c2 = mc2; generalize nzN c3 = mc3; generalize nzN d0 = md0; generalize nzN d1 = md1; generalize nzN d2 = md2; generalize nzN d3 = md3; ac_rfl
  | d + 3 => simp only [putL, at4, List.getD_cons_zero, List.getD_cons_succ, List.set_cons_zero, List.set_cons_succ, Nat.reduceMul, Nat.reduceAdd, Nat.reduceSub, cntN_cons, cntN_nil]; clear h0 h1 h2 h3 hb; generalize nzN a0 = ma0; generalize nzN a1 = ma1; generalize nzN a2 = ma2; generalize nzN a3 = ma3; generalize nzN b0 = mb0; generalize nzN b1 = mb1; generalize nzN b2 = mb2; generalize nzN b3 = mb3; generalize nzN c0 = mc0; generalize nzN c1 = mc1; generalize nzN c2 = mc2; generalize nzN c3 = mc3; generalize nzN d0 = md0; generalize nzN d1 = md1; generalize nzN d2 = md2; generalize nzN d3 = md3; ac_rfl
theorem lines_cnt (b : List Int) (hb : b.length = 16) (d : Nat) : cntN b = cntN (lineB b d 0) + cntN (lineB b d 1) + cntN (lineB b d 2) + cntN (lineB b d 3) := by
  obtain ⟨x0, x1, x2, x3, x4, x5, x6, x7, x8, x9, x10, x11, x12, x13, x14, x15, rfl⟩ := len16 b hb
  match d with
  | 0 => simp only [lineB, at4, List.getD_cons_zero, List.getD_cons_succ, Nat.reduceMul, Nat.reduceAdd, Nat.reduceSub, cntN_cons, cntN_nil]; clear hb; generalize nzN x0 = m0; generalize nzN x1 = m1; generalize nzN x2 = m2; generalize nzN x3 = m3; generalize nzN x4 = m4; generalize nzN x5 = m5; generalize nzN x6 = m6; generalize nzN x7 = m7; generalize nzN x8 = m8; generalize nzN x9 = m9; generalize nzN x10 = m10; generalize nzN x11 = m11; generalize nzN x12 = m12; generalize nzN x13 = m13; generalize nzN x14 = m14; generalize nzN x15 = m15; ac_rfl
  | 1 => simp only [lineB, at4, List.getD_cons_zero, List.getD_cons_succ, Nat.reduceMul, Nat.reduceAdd, Nat.reduceSub, cntN_cons, cntN_nil]; clear hb; generalize nzN x0 = m0; generalize nzN x1 = m1; generalize nzN x2 = m2; generalize nzN x3 = m3; generalize nzN x4 = m4; generalize nzN x5 = m5; generalize nzN x6 = m6; generalize nzN x7 = m7; generalize nzN x8 = m8; generalize nzN x9 = m9; generalize nzN x10 = m10; generalize nzN x11 = m11; generalize nzN x12 = m12; generalize nzN x13 = m13; generalize nzN x14 = m14; generalize nzN x15 = m15; ac_rfl
  | 2 => simp only [lineB, at4, List.getD_cons_zero, List.getD_cons_succ, Nat.reduceMul, Nat.reduceAdd, Nat.reduceSub, cntN_cons, cntN_nil]; clear hb; generalize nzN x0 = m0; generalize nzN x1 = m1; generalize nzN x2 = m2; generalize nzN x3 = m3; generalize nzN x4 = m4; generalize nzN x5 = m5; generalize nzN x6 = m6; generalize nzN x7 = m7; generalize nzN x8 = m8; generalize nzN x9 = m9; generalize nzN x10 = m10; generalize nzN x11 = m11; generalize nzN x12 = m12; generalize nzN x13 = m13; generalize nzN x14 = m14; generalize nzN x15 = m15; ac_rfl
  | d + 3 => simp only [lineB, at4, List.getD_cons_zero, List.getD_cons_succ, Nat.reduceMul, Nat.reduceAdd, Nat.reduceSub, cntN_cons, cntN_nil]; clear hb; generalize nzN x0 = m0; generalize nzN x1 = m1; generalize nzN x2 = m2; generalize nzN x3 = m3; generalize nzN x4 = m4; generalize nzN x5 = m5; generalize nzN x6 = m6; generalize nzN x7 = m7; generalize nzN x8 = m8; generalize nzN x9 = m9; generalize nzN x10 = m10; generalize nzN x11 = m11; generalize nzN x12 = m12; generalize nzN x13 = m13; generalize nzN x14 = m14; generalize nzN x15 = m15; ac_rfl

/-- All above zero. -/
theorem mergeL_pos (l : List Int) (h : ∀ x ∈ l, 0 < x) : ∀ p ∈ mergeL l, 0 < p.1 := by
  induction l using mergeL.induct with
  | case1 => intro p hp; simp [mergeL] at hp
  | case2 x => intro p hp; simp [mergeL] at hp; subst hp; exact h x (by simp)
  | case3 x y r hc ih =>
    intro p hp
    rw [mergeL, if_pos hc] at hp
    rcases List.mem_cons.1 hp with rfl | hp
    · have := h x (by simp); simp only []; omega
    · exact ih (fun z hz => h z (by simp [hz])) p hp
  | case4 x y r hc ih =>
    intro p hp
    rw [mergeL, if_neg hc] at hp
    rcases List.mem_cons.1 hp with rfl | hp
    · exact h x (by simp)
    · exact ih (fun z hz => h z (List.mem_cons_of_mem _ hz)) p hp
theorem mergeL_le (l : List Int) : (mergeL l).length ≤ l.length := by
  induction l using mergeL.induct with
  | case1 => simp [mergeL]
  | case2 x => simp [mergeL]
  | case3 x y r hc ih => rw [mergeL, if_pos hc]; simp only [List.length_cons]; omega
  | case4 x y r hc ih => rw [mergeL, if_neg hc]; simp only [List.length_cons] at *; omega
theorem mergeL_eq (l : List Int) (h : (mergeL l).length = l.length) : mergeL l = l.map fun x => (x, false) := by
  induction l using mergeL.induct with
  | case1 => simp [mergeL]
  | case2 x => simp [mergeL]
  | case3 x y r hc ih =>
    rw [mergeL, if_pos hc] at h
    have := mergeL_le r
    simp only [List.length_cons] at h
    omega
  | case4 x y r hc ih =>
    rw [mergeL, if_neg hc] at h ⊢
    simp only [List.length_cons] at h ih
    rw [ih (by omega)]
    rfl
theorem tiles4_le (r : List Int) : (tilesL r).length ≤ r.length := List.length_filter_le _ _
theorem cnt_pad {l : List Int} (h : l.length ≤ 4) (hp : ∀ x ∈ l, x ≠ 0) : cntN ((List.range 4).map fun i => l.getD i 0) = l.length := by
  match l, h with
  | [], _ => rfl
  | [a], _ => have := hp a (by simp); simp [List.range, List.range.loop, cntN_cons, cntN_nil, nzN, this]
  | [a, b], _ => have := hp a (by simp); have := hp b (by simp); simp [List.range, List.range.loop, cntN_cons, cntN_nil, nzN, *]
  | [a, b, c], _ => have := hp a (by simp); have := hp b (by simp); have := hp c (by simp); simp [List.range, List.range.loop, cntN_cons, cntN_nil, nzN, *]
  | [a, b, c, d], _ => have := hp a (by simp); have := hp b (by simp); have := hp c (by simp); have := hp d (by simp); simp [List.range, List.range.loop, cntN_cons, cntN_nil, nzN, *]
theorem rowOut_pad (r : List Int) : rowOut r = (List.range 4).map fun i => ((mergeL (tilesL r)).map (·.1)).getD i 0 := by
  unfold rowOut
  apply List.map_congr_left
  intro i _
  simp only [List.getD_eq_getElem?_getD, List.getElem?_map]
  cases (mergeL (tilesL r))[i]? <;> rfl
theorem tiles_pos {r : List Int} (h : okL r) : ∀ x ∈ tilesL r, 0 < x := by
  intro x hx
  obtain ⟨h1, h2⟩ := List.mem_filter.1 hx
  have := h x h1
  simp at h2
  omega
theorem rowOut_cnt {r : List Int} (h : okL r) (hl : r.length = 4) : cntN (rowOut r) = (mergeL (tilesL r)).length := by
  have h1 := mergeL_le (tilesL r)
  have h2 := tiles4_le r
  rw [rowOut_pad, cnt_pad (by simp; omega) ?_]
  · simp
  · intro x hx
    obtain ⟨p, hp, rfl⟩ := List.mem_map.1 hx
    have := mergeL_pos _ (tiles_pos h) p hp
    omega
theorem rowOut_le {r : List Int} (h : okL r) (hl : r.length = 4) : cntN (rowOut r) ≤ cntN r := by
  rw [rowOut_cnt h hl]; exact mergeL_le _
theorem rowOut_pack {r : List Int} (h : okL r) (hl : r.length = 4) (he : cntN (rowOut r) = cntN r) : rowOut r = packR r := by
  rw [rowOut_cnt h hl] at he
  have := mergeL_eq (tilesL r) he
  rw [rowOut_pad, this]
  unfold packR
  rw [List.map_map]
  simp [Function.comp_def]
theorem slideB_cnt {b : List Int} (ok : okL b) (hb : b.length = 16) (d : Nat) : cntN (slideB b d) ≤ cntN b := by
  have h0 := rowOut_le (lineB_ok ok d 0) rfl
  have h1 := rowOut_le (lineB_ok ok d 1) rfl
  have h2 := rowOut_le (lineB_ok ok d 2) rfl
  have h3 := rowOut_le (lineB_ok ok d 3) rfl
  have e := lines_cnt b hb d
  unfold slideB
  rw [put4_cnt b hb d _ _ _ _ (rowOut_length _) (rowOut_length _) (rowOut_length _) (rowOut_length _)]
  omega
theorem slideB_pack {b : List Int} (ok : okL b) (hb : b.length = 16) (d : Nat) (he : cntN (slideB b d) = cntN b) : slideB b d = packB b d := by
  have h0 := rowOut_le (lineB_ok ok d 0) rfl
  have h1 := rowOut_le (lineB_ok ok d 1) rfl
  have h2 := rowOut_le (lineB_ok ok d 2) rfl
  have h3 := rowOut_le (lineB_ok ok d 3) rfl
  have e := lines_cnt b hb d
  unfold slideB at he ⊢
  rw [put4_cnt b hb d _ _ _ _ (rowOut_length _) (rowOut_length _) (rowOut_length _) (rowOut_length _)] at he
  rw [rowOut_pack (lineB_ok ok d 0) rfl (by omega), rowOut_pack (lineB_ok ok d 1) rfl (by omega), rowOut_pack (lineB_ok ok d 2) rfl (by omega), rowOut_pack (lineB_ok ok d 3) rfl (by omega)]
  rfl
theorem slidesB_cnt {b : List Int} (ok : okL b) (hb : b.length = 16) (ds : List Nat) : cntN (slidesB b ds) ≤ cntN b := by
  induction ds generalizing b with
  | nil => exact Nat.le_refl _
  | cons d ds ih =>
    have h1 := slideB_cnt ok hb d
    have h2 := ih (slideB_ok ok d) (by rw [slideB_length, hb])
    rw [slidesB]; omega
theorem slidesB_pack {b : List Int} (ok : okL b) (hb : b.length = 16) (ds : List Nat) (he : cntN (slidesB b ds) = cntN b) : slidesB b ds = packsB b ds := by
  induction ds generalizing b with
  | nil => rfl
  | cons d ds ih =>
    have h1 := slideB_cnt ok hb d
    have h2 := slidesB_cnt (slideB_ok ok d) (by rw [slideB_length, hb]) ds
    rw [slidesB] at he ⊢
    rw [ih (slideB_ok ok d) (by rw [slideB_length, hb]) (by omega), slideB_pack ok hb d (by omega), packsB]
theorem itB_ok {b : List Int} (ok : okL b) (ds : List Nat) (n : Nat) : okL (itB b ds n) := by
  induction n with
  | zero => exact ok
  | succ n ih => exact slidesB_ok ih ds
theorem itB_length {b : List Int} (hb : b.length = 16) (ds : List Nat) (n : Nat) : (itB b ds n).length = 16 := by
  induction n with
  | zero => exact hb
  | succ n ih => exact slidesB_length ih ds
theorem itB_cnt {b : List Int} (ok : okL b) (hb : b.length = 16) (ds : List Nat) {m n : Nat} (h : m ≤ n) : cntN (itB b ds n) ≤ cntN (itB b ds m) := by
  induction n with
  | zero => obtain rfl : m = 0 := by omega
            exact Nat.le_refl _
  | succ n ih =>
    rcases Nat.eq_or_lt_of_le h with rfl | h
    · exact Nat.le_refl _
    · exact Nat.le_trans (slidesB_cnt (itB_ok ok ds n) (itB_length hb ds n) ds) (ih (by omega))

/-- Zero goes to zero, and nothing else of the list does. -/
def natOn (f : Int → Int) (b : List Int) : Prop := f 0 = 0 ∧ ∀ x ∈ b, f x = 0 → x = 0
theorem getD_map0 {f : Int → Int} (h : f 0 = 0) (b : List Int) (i : Nat) : (b.map f).getD i 0 = f (b.getD i 0) := by
  simp only [List.getD_eq_getElem?_getD, List.getElem?_map]
  cases b[i]? <;> simp [h]
theorem lineB_map {f : Int → Int} (h : f 0 = 0) (b : List Int) (d i : Nat) : lineB (b.map f) d i = (lineB b d i).map f := by
  simp only [lineB, getD_map0 h, List.map_cons, List.map_nil]
theorem tilesL_map {f : Int → Int} {r : List Int} (h : natOn f r) : tilesL (r.map f) = (tilesL r).map f := by
  induction r with
  | nil => rfl
  | cons x r ih =>
    have ih := ih ⟨h.1, fun y hy => h.2 y (by simp [hy])⟩
    unfold tilesL at *
    by_cases hx : x = 0
    · subst hx; simp [h.1, ih]
    · have : ¬ f x = 0 := fun hf => hx (h.2 x (by simp) hf)
      simp [hx, this, ih]
theorem packR_map {f : Int → Int} {r : List Int} (h : natOn f r) : packR (r.map f) = (packR r).map f := by
  unfold packR
  rw [tilesL_map h, List.map_map]
  apply List.map_congr_left
  intro i _
  rw [getD_map0 h.1]; rfl
theorem putL_map {f : Int → Int} (h : f 0 = 0) (b : List Int) (d i : Nat) (r : List Int) : putL (b.map f) d i (r.map f) = (putL b d i r).map f := by
  simp only [putL, getD_map0 h, List.map_set]
theorem mem_lineB {b : List Int} {d i : Nat} {x : Int} (h : x ∈ lineB b d i) : x ∈ b ∨ x = 0 := by
  simp only [lineB, List.mem_cons, List.not_mem_nil, or_false] at h
  rcases h with rfl | rfl | rfl | rfl <;> exact getD_mem_or _ _ _
theorem mem_packR {r : List Int} {x : Int} (h : x ∈ packR r) : x ∈ r ∨ x = 0 := by
  simp only [packR, List.mem_map] at h
  obtain ⟨i, _, rfl⟩ := h
  rcases getD_mem_or (tilesL r) i 0 with h1 | h1
  · exact .inl (List.mem_filter.1 h1).1
  · exact .inr h1
theorem mem_putL {b r : List Int} {d i : Nat} {x : Int} (h : x ∈ putL b d i r) : x ∈ b ∨ x ∈ r ∨ x = 0 := by
  unfold putL at h
  have g : ∀ k, r.getD k 0 ∈ r ∨ r.getD k 0 = 0 := fun k => getD_mem_or _ _ _
  rcases List.mem_or_eq_of_mem_set h with h | rfl
  · rcases List.mem_or_eq_of_mem_set h with h | rfl
    · rcases List.mem_or_eq_of_mem_set h with h | rfl
      · rcases List.mem_or_eq_of_mem_set h with h | rfl
        · exact .inl h
        · exact .inr (g _)
      · exact .inr (g _)
    · exact .inr (g _)
  · exact .inr (g _)
theorem mem_packB {b : List Int} {d : Nat} {x : Int} (h : x ∈ packB b d) : x ∈ b ∨ x = 0 := by
  have k : ∀ i, x ∈ packR (lineB b d i) → x ∈ b ∨ x = 0 := fun i hx => by
    rcases mem_packR hx with hx | hx
    · exact mem_lineB hx
    · exact .inr hx
  unfold packB at h
  rcases mem_putL h with h | h | h
  · rcases mem_putL h with h | h | h
    · rcases mem_putL h with h | h | h
      · rcases mem_putL h with h | h | h
        · exact .inl h
        · exact k _ h
        · exact .inr h
      · exact k _ h
      · exact .inr h
    · exact k _ h
    · exact .inr h
  · exact k _ h
  · exact .inr h
theorem natOn_line {f : Int → Int} {b : List Int} (h : natOn f b) (d i : Nat) : natOn f (lineB b d i) := ⟨h.1, fun x hx hf => by
  rcases mem_lineB hx with hx | hx
  · exact h.2 x hx hf
  · exact hx⟩
theorem packB_map {f : Int → Int} {b : List Int} (h : natOn f b) (d : Nat) : packB (b.map f) d = (packB b d).map f := by
  unfold packB
  simp only [lineB_map h.1, packR_map (natOn_line h _ _), putL_map h.1]
theorem natOn_pack {f : Int → Int} {b : List Int} (h : natOn f b) (d : Nat) : natOn f (packB b d) := ⟨h.1, fun x hx hf => by
  rcases mem_packB hx with hx | hx
  · exact h.2 x hx hf
  · exact hx⟩
theorem packsB_map {f : Int → Int} {b : List Int} (h : natOn f b) (ds : List Nat) : packsB (b.map f) ds = (packsB b ds).map f ∧ natOn f (packsB b ds) := by
  induction ds generalizing b with
  | nil => exact ⟨rfl, h⟩
  | cons d ds ih => rw [packsB, packsB, packB_map h]; exact ih (natOn_pack h d)
theorem pitB_map {f : Int → Int} {b : List Int} (h : natOn f b) (ds : List Nat) (n : Nat) : pitB (b.map f) ds n = (pitB b ds n).map f ∧ natOn f (pitB b ds n) := by
  induction n with
  | zero => exact ⟨rfl, h⟩
  | succ n ih =>
    have := packsB_map ih.2 ds
    rw [pitB, ih.1, pitB]
    exact this

/-- The occupied places, named by themselves. -/
def labB (b : List Int) : List Int := (List.range 16).map fun p => if b.getD p 0 = 0 then 0 else ((p : Int) + 1)
def fvB (b : List Int) (x : Int) : Int := if 1 ≤ x ∧ x ≤ 16 then b.getD (x - 1).toNat 0 else 0
def occB (b : List Int) : List Bool := (List.range 16).map fun p => decide (b.getD p 0 = 0)
theorem list16_ext {a b : List Int} (ha : a.length = 16) (hb : b.length = 16) (h : ∀ p, p < 16 → a.getD p 0 = b.getD p 0) : a = b := by
  apply List.ext_getElem?
  intro i
  rcases Nat.lt_or_ge i 16 with hi | hi
  · have := h i hi
    simp only [List.getD_eq_getElem?_getD] at this
    rw [List.getElem?_eq_getElem (by omega), List.getElem?_eq_getElem (by omega)] at this ⊢
    simpa using this
  · rw [List.getElem?_eq_none (by omega), List.getElem?_eq_none (by omega)]
theorem labB_getD (b : List Int) (p : Nat) (hp : p < 16) : (labB b).getD p 0 = if b.getD p 0 = 0 then 0 else ((p : Int) + 1) := by
  simp only [labB, List.getD_eq_getElem?_getD, List.getElem?_map, List.getElem?_range hp]
  rfl
theorem labB_length (b : List Int) : (labB b).length = 16 := by simp [labB]
theorem fvB_zero (b : List Int) : fvB b 0 = 0 := by unfold fvB; rw [if_neg (by omega)]
theorem lab_fv {a b : List Int} (hb : b.length = 16) (h : occB a = occB b) : b = (labB a).map (fvB b) := by
  apply list16_ext hb (by simp [labB])
  intro p hp
  have ho : decide (a.getD p 0 = 0) = decide (b.getD p 0 = 0) := by
    have h1 : (occB a)[p]? = (occB b)[p]? := by rw [h]
    simp only [occB, List.getElem?_map, List.getElem?_range hp, Option.map_some, Option.some.injEq] at h1
    exact h1
  rw [getD_map0 (fvB_zero b), labB_getD a p hp]
  by_cases h0 : b.getD p 0 = 0
  · have ha : a.getD p 0 = 0 := by rw [h0] at ho; simpa using ho
    rw [if_pos ha, fvB_zero, h0]
  · have ha : ¬ a.getD p 0 = 0 := by intro hh; rw [hh] at ho; simp only [decide_true] at ho; exact h0 (of_decide_eq_true ho.symm)
    rw [if_neg ha, fvB, if_pos (by omega)]
    congr 1
    omega
theorem natOn_lab {a b : List Int} (h : occB a = occB b) : natOn (fvB b) (labB a) := by
  refine ⟨fvB_zero b, fun x hx hf => ?_⟩
  simp only [labB, List.mem_map, List.mem_range] at hx
  obtain ⟨p, hp, rfl⟩ := hx
  have ho : decide (a.getD p 0 = 0) = decide (b.getD p 0 = 0) := by
    have h1 : (occB a)[p]? = (occB b)[p]? := by rw [h]
    simp only [occB, List.getElem?_map, List.getElem?_range hp, Option.map_some, Option.some.injEq] at h1
    exact h1
  by_cases h0 : a.getD p 0 = 0
  · rw [if_pos h0]
  · rw [if_neg h0] at hf ⊢
    rw [fvB, if_pos (by omega)] at hf
    exfalso
    apply h0
    have e : ((p : Int) + 1 - 1).toNat = p := by omega
    rw [e] at hf
    rw [hf] at ho
    simpa using ho

/-- Pigeons. -/
theorem pigeon : ∀ (n : Nat) (f : Nat → Nat), (∀ i, i ≤ n → f i < n) → ∃ i j, i < j ∧ j ≤ n ∧ f i = f j
  | 0, f, h => absurd (h 0 (by omega)) (by omega)
  | n + 1, f, h => by
    by_cases hl : ∃ i, i ≤ n ∧ f i = f (n + 1)
    · obtain ⟨i, hi, he⟩ := hl
      exact ⟨i, n + 1, by omega, by omega, he⟩
    · have hne : ∀ i, i ≤ n → f i ≠ f (n + 1) := fun i hi he => hl ⟨i, hi, he⟩
      -- values other than the last one's, pulled together
      have hg : ∀ i, i ≤ n → (if f i < f (n + 1) then f i else f i - 1) < n := by
        intro i hi
        have h1 := h i (by omega)
        have h2 := hne i hi
        have h3 := h (n + 1) (by omega)
        split <;> omega
      obtain ⟨i, j, hij, hj, he⟩ := pigeon n (fun i => if f i < f (n + 1) then f i else f i - 1) hg
      refine ⟨i, j, hij, by omega, ?_⟩
      have h2 := hne i (by omega)
      have h3 := hne j hj
      try simp only at he
      split at he <;> split at he <;> omega

def codeB (l : List Bool) : Nat := l.foldr (fun x n => (if x then 1 else 0) + 2 * n) 0
theorem codeB_lt (l : List Bool) : codeB l < 2 ^ l.length := by
  induction l with
  | nil => simp [codeB]
  | cons x l ih =>
    have : codeB (x :: l) = (if x then 1 else 0) + 2 * codeB l := rfl
    rw [this, List.length_cons, Nat.pow_succ]
    split <;> omega
theorem codeB_inj {a b : List Bool} (hl : a.length = b.length) (h : codeB a = codeB b) : a = b := by
  induction a generalizing b with
  | nil => cases b with
    | nil => rfl
    | cons => simp at hl
  | cons x a ih => cases b with
    | nil => simp at hl
    | cons y b =>
      have e1 : codeB (x :: a) = (if x then 1 else 0) + 2 * codeB a := rfl
      have e2 : codeB (y :: b) = (if y then 1 else 0) + 2 * codeB b := rfl
      rw [e1, e2] at h
      have hxy : x = y := by cases x <;> cases y <;> simp at h ⊢ <;> omega
      subst hxy
      rw [ih (by simpa using hl) (by split at h <;> omega)]

def iterI (g : Int → Int) : Nat → Int → Int
  | 0, x => x
  | n + 1, x => g (iterI g n x)
theorem iterI_add (g : Int → Int) (m n : Nat) (x : Int) : iterI g (m + n) x = iterI g n (iterI g m x) := by
  induction n with
  | zero => rfl
  | succ n ih => rw [← Nat.add_assoc, iterI, ih, iterI]
theorem iterI_mul {g : Int → Int} {c : Nat} {x : Int} (h : iterI g c x = x) (m : Nat) : iterI g (c * m) x = x := by
  induction m with
  | zero => rfl
  | succ m ih => rw [Nat.mul_succ, iterI_add, ih, h]
theorem dvd_big {c : Nat} (h0 : 1 ≤ c) (h : c ≤ 16) : ∃ m, c * m = 720720 := by
  have : ∀ c : Fin 17, 1 ≤ c.val → c.val * (720720 / c.val) = 720720 := by decide
  exact ⟨_, this ⟨c, by omega⟩ h0⟩
/-- A map of 0..16 into itself: behind 16 steps it comes back within 720720. -/
theorem iterI_back {g : Int → Int} (h : ∀ x, 0 ≤ g x ∧ g x ≤ 16) (h0 : g 0 = 0) (x : Int) (hx : 0 ≤ x ∧ x ≤ 16) : iterI g (16 + 720720) x = iterI g 16 x := by
  have hin : ∀ n, 0 ≤ iterI g n x ∧ iterI g n x ≤ 16 := by
    intro n
    cases n with
    | zero => exact hx
    | succ n => exact h _
  have hz : ∀ n, iterI g n 0 = 0 := by
    intro n
    induction n with
    | zero => rfl
    | succ n ih => rw [iterI, ih, h0]
  by_cases hh : ∃ n, n ≤ 16 ∧ iterI g n x = 0
  · obtain ⟨n, hn, he⟩ := hh
    have e1 : iterI g 16 x = 0 := by rw [show 16 = n + (16 - n) by omega, iterI_add, he, hz]
    rw [iterI_add, e1, hz]
  · obtain ⟨i, j, hij, hj, he⟩ := pigeon 16 (fun n => (iterI g n x).toNat - 1) (fun i hi => by
      have h1 := hin i
      have h2 : iterI g i x ≠ 0 := fun h => hh ⟨i, hi, h⟩
      try simp only
      omega)
    have h1 := hin i
    have h2 : iterI g i x ≠ 0 := fun h => hh ⟨i, by omega, h⟩
    have h3 := hin j
    have h4 : iterI g j x ≠ 0 := fun h => hh ⟨j, by omega, h⟩
    have he' : iterI g i x = iterI g j x := by omega
    have hc : iterI g (j - i) (iterI g i x) = iterI g i x := by rw [← iterI_add, show i + (j - i) = j by omega, he']
    obtain ⟨m, hm⟩ := dvd_big (c := j - i) (by omega) (by omega)
    have hb := iterI_mul hc m
    rw [hm] at hb
    -- the same at 16
    have e16 : iterI g 16 x = iterI g (16 - i) (iterI g i x) := by rw [← iterI_add]; congr 1; omega
    rw [iterI_add, e16, ← iterI_add, Nat.add_comm, iterI_add, hb]

theorem pit_iter {k : List Int} {ds : List Nat} {c : Nat} {g : Int → Int} (hn : ∀ n, natOn (iterI g n) k) (h : pitB k ds c = k.map g) (m : Nat) : pitB k ds (c * m) = k.map (iterI g m) := by
  induction m with
  | zero => simp [pitB, iterI]
  | succ m ih =>
    rw [Nat.mul_succ, Nat.add_comm, pitB_add, h]
    have hg : natOn g k := by have := hn 1; exact this
    have e : pitB (k.map g) ds (c * m) = (pitB k ds (c * m)).map g := (pitB_map hg ds _).1
    rw [e, ih, List.map_map]
    rfl

/-- Within these rounds there is a round that merges, or a board comes back. -/
def longM : Nat := 65536 + 65536 * 720736
theorem phase {b : List Int} (ok : okL b) (hb : b.length = 16) (ds : List Nat) (hc : cntN (itB b ds longM) = cntN b) : ∃ i j, i < j ∧ j ≤ longM ∧ itB b ds i = itB b ds j := by
  have hcn : ∀ n, n ≤ longM → cntN (itB b ds n) = cntN b := fun n hn => by
    have h1 := itB_cnt ok hb ds hn
    have h2 := itB_cnt ok hb ds (Nat.zero_le n)
    have h2 : cntN (itB b ds n) ≤ cntN b := h2
    omega
  -- no round merges
  have hpk : ∀ n, n ≤ longM → itB b ds n = pitB b ds n := by
    intro n
    induction n with
    | zero => intro _; rfl
    | succ n ih =>
      intro hn
      have h1 := hcn n (by omega)
      have h2 := hcn (n + 1) hn
      rw [itB] at h2 ⊢
      rw [slidesB_pack (itB_ok ok ds n) (itB_length hb ds n) ds (by omega), ih (by omega), pitB]
  have hpl : ∀ n, n ≤ longM → (pitB b ds n).length = 16 := fun n hn => by rw [← hpk n hn]; exact itB_length hb ds n
  obtain ⟨i, j, hij, hj, he⟩ := pigeon 65536 (fun n => codeB (occB (pitB b ds n))) (fun n _ => by
    have := codeB_lt (occB (pitB b ds n))
    have hl : (occB (pitB b ds n)).length = 16 := by simp [occB]
    rw [hl] at this
    exact this)
  have ho : occB (pitB b ds i) = occB (pitB b ds j) := codeB_inj (by simp [occB]) he
  have hM : longM = 65536 + 65536 * 720736 := rfl
  -- the places' names
  obtain ⟨c, hcj⟩ : ∃ c, j = i + c := ⟨j - i, by omega⟩
  have hxl := hpl i (by omega)
  have hjl := hpl j (by omega)
  rw [hcj, pitB_add] at ho hjl
  have key : ∀ m, pitB b ds (i + m) = pitB (pitB b ds i) ds m := fun m => pitB_add b ds i m
  revert ho hjl hxl key
  generalize pitB b ds i = x
  intro ho hxl hjl key
  obtain ⟨k, hkd⟩ : ∃ k, k = labB x := ⟨_, rfl⟩
  have hx : x = k.map (fvB x) := by rw [hkd]; exact lab_fv hxl rfl
  have hnx : natOn (fvB x) k := by rw [hkd]; exact natOn_lab rfl
  have hk' : pitB x ds c = (pitB k ds c).map (fvB x) := by
    have := (pitB_map hnx ds c).1
    rw [← hx] at this; exact this
  have hnk := (pitB_map hnx ds c).2
  have hkl : (pitB k ds c).length = 16 := by
    rw [hk', List.length_map] at hjl; exact hjl
  -- the names' places are those of the board's tiles
  have hko : occB k = occB (pitB k ds c) := by
    have h1 : occB k = occB x := by
      simp only [occB]
      apply List.map_congr_left
      intro p hp
      have hp := List.mem_range.1 hp
      rw [hkd, labB_getD x p hp, decide_eq_decide]
      by_cases h0 : x.getD p 0 = 0
      · rw [if_pos h0]; exact ⟨fun _ => h0, fun _ => rfl⟩
      · rw [if_neg h0]; exact ⟨fun h => by omega, fun h => absurd h h0⟩
    have h2 : occB (pitB x ds c) = occB (pitB k ds c) := by
      rw [hk']
      simp only [occB]
      apply List.map_congr_left
      intro p _
      rw [getD_map0 hnk.1, decide_eq_decide]
      constructor
      · intro h
        rcases getD_mem_or (pitB k ds c) p 0 with hm | hm
        · exact hnk.2 _ hm h
        · exact hm
      · intro h; rw [h]; exact hnk.1
    rw [h1, ← h2]; exact ho
  have hkk : labB k = k := by
    rw [hkd]
    apply list16_ext (labB_length _) (labB_length _)
    intro p hp
    rw [labB_getD _ p hp, labB_getD _ p hp]
    by_cases h0 : x.getD p 0 = 0
    · rw [if_pos h0, if_pos rfl]
    · rw [if_neg h0, if_neg (by omega)]
  obtain ⟨g, hgd⟩ : ∃ g, g = fvB (pitB k ds c) := ⟨_, rfl⟩
  have hmk : ∀ y ∈ pitB k ds c, 0 ≤ y ∧ y ≤ 16 := by
    have : ∀ n, ∀ y ∈ pitB k ds n, y ∈ k ∨ y = 0 := by
      intro n
      induction n with
      | zero => intro y hy; exact .inl hy
      | succ n ih =>
        intro y hy
        rw [pitB] at hy
        have : ∀ (ds : List Nat) (l : List Int) (y : Int), y ∈ packsB l ds → y ∈ l ∨ y = 0 := by
          intro ds
          induction ds with
          | nil => intro l y hy; exact .inl hy
          | cons d ds ihd =>
            intro l y hy
            rw [packsB] at hy
            rcases ihd _ y hy with h | h
            · exact mem_packB h
            · exact .inr h
        rcases this ds _ y hy with h | h
        · exact ih y h
        · exact .inr h
    intro y hy
    rcases this c y hy with h | h
    · simp only [hkd, labB, List.mem_map, List.mem_range] at h
      obtain ⟨p, hp, rfl⟩ := h
      split <;> omega
    · omega
  have hg16 : ∀ y, 0 ≤ g y ∧ g y ≤ 16 := by
    intro y
    simp only [hgd, fvB]
    split
    · rcases getD_mem_or (pitB k ds c) (y - 1).toNat 0 with h | h
      · exact hmk _ h
      · rw [h]; omega
    · omega
  have hg0 : g 0 = 0 := by rw [hgd]; exact fvB_zero _
  have hkg : pitB k ds c = k.map g := by
    have := lab_fv (a := k) hkl hko
    rw [hkk] at this; rw [hgd]; exact this
  have hng : natOn g k := by
    have := natOn_lab (a := k) hko
    rw [hkk] at this; rw [hgd]; exact this
  -- g goes from names in k to names in k
  have hgk : ∀ y ∈ k, g y ∈ k ∨ g y = 0 := by
    intro y hy
    have h1 : g y ∈ pitB k ds c := by rw [hkg]; exact List.mem_map_of_mem hy
    have : ∀ n, ∀ y ∈ pitB k ds n, y ∈ k ∨ y = 0 := by
      intro n
      induction n with
      | zero => intro y hy; exact .inl hy
      | succ n ih =>
        intro y hy
        rw [pitB] at hy
        have : ∀ (ds : List Nat) (l : List Int) (y : Int), y ∈ packsB l ds → y ∈ l ∨ y = 0 := by
          intro ds
          induction ds with
          | nil => intro l y hy; exact .inl hy
          | cons d ds ihd =>
            intro l y hy
            rw [packsB] at hy
            rcases ihd _ y hy with h | h
            · exact mem_packB h
            · exact .inr h
        rcases this ds _ y hy with h | h
        · exact ih y h
        · exact .inr h
    exact this c _ h1
  have hn : ∀ n, natOn (iterI g n) k := by
    intro n
    induction n with
    | zero => exact ⟨rfl, fun _ _ h => h⟩
    | succ n ih =>
      refine ⟨by rw [iterI, ih.1, hg0], fun y hy hf => ?_⟩
      have hin : ∀ m, iterI g m y ∈ k ∨ iterI g m y = 0 := by
        intro m
        induction m with
        | zero => exact .inl hy
        | succ m ihm =>
          rw [iterI]
          rcases ihm with h | h
          · exact hgk _ h
          · rw [h, hg0]; exact .inr rfl
      rw [iterI] at hf
      rcases hin n with h | h
      · exact ih.2 y hy (hng.2 _ h hf)
      · exact ih.2 y hy h
  have hk1 := pit_iter hn hkg 16
  have hk2 := pit_iter hn hkg (16 + 720720)
  have hke : pitB k ds (c * 16) = pitB k ds (c * (16 + 720720)) := by
    rw [hk1, hk2]
    apply List.map_congr_left
    intro y hy
    have hy' : 0 ≤ y ∧ y ≤ 16 := by
      simp only [hkd, labB, List.mem_map, List.mem_range] at hy
      obtain ⟨p, hp, rfl⟩ := hy
      split <;> omega
    exact (iterI_back hg16 hg0 y hy').symm
  have hxe : pitB x ds (c * 16) = pitB x ds (c * (16 + 720720)) := by
    have h1 := (pitB_map hnx ds (c * 16)).1
    have h2 := (pitB_map hnx ds (c * (16 + 720720))).1
    rw [← hx] at h1 h2
    rw [h1, h2, hke]
  have hcb : c * (16 + 720720) ≤ 65536 * 720736 := Nat.mul_le_mul (by omega) (Nat.le_refl _)
  have hcl : c * 16 < c * (16 + 720720) := Nat.mul_lt_mul_of_pos_left (by omega) (by omega)
  refine ⟨i + c * 16, i + c * (16 + 720720), by omega, by omega, ?_⟩
  rw [hpk _ (by omega), hpk _ (by omega), key, key]
  exact hxe

def longN : Nat := 17 * longM
theorem cycle_any (n : Nat) : ∀ {b : List Int}, okL b → b.length = 16 → ∀ (ds : List Nat), cntN b ≤ n → ∃ i j, i < j ∧ j ≤ (n + 1) * longM ∧ itB b ds i = itB b ds j := by
  induction n with
  | zero =>
    intro b ok hb ds hn
    have := itB_cnt ok hb ds (Nat.zero_le longM)
    have h0 : cntN (itB b ds 0) = cntN b := rfl
    obtain ⟨i, j, h1, h2, h3⟩ := phase ok hb ds (by omega)
    exact ⟨i, j, h1, by omega, h3⟩
  | succ n ih =>
    intro b ok hb ds hn
    have h1 := itB_cnt ok hb ds (Nat.zero_le longM)
    have h0 : cntN (itB b ds 0) = cntN b := rfl
    by_cases he : cntN (itB b ds longM) = cntN b
    · obtain ⟨i, j, h1, h2, h3⟩ := phase ok hb ds he
      exact ⟨i, j, h1, by rw [Nat.add_mul]; omega, h3⟩
    · obtain ⟨i, j, h1, h2, h3⟩ := ih (itB_ok ok ds longM) (itB_length hb ds longM) ds (by omega)
      refine ⟨longM + i, longM + j, by omega, by rw [Nat.add_mul (n + 1) 1]; omega, ?_⟩
      rw [itB_add, itB_add]; exact h3
theorem cntN_16 {b : List Int} (hb : b.length = 16) : cntN b ≤ 16 := by
  have := tiles4_le b
  unfold cntN; omega
theorem cycle {b : List Int} (ok : okL b) (hb : b.length = 16) (ds : List Nat) : ∃ i j, i < j ∧ j ≤ longN ∧ itB b ds i = itB b ds j :=
  cycle_any 16 ok hb ds (cntN_16 hb)
theorem longN_val : longN * 128 + 128 ≤ 140737488355328 := by decide
end Go.Proofs.Ytgkfhppmopmgjaa.Pl
