/- Walks of single functions of the given Go program, printed by a program of mine; each theorem says what the function returns. -/
import Derived.Test.YtgkfhppmopmgjaaRows
import Derived.WalkKit
import Derived.WalkSpells
import Derived.WalkLawsBesides
import Derived.Handy
import Derived.Deep.QuietTactic
import Derived.BigQuiet
import Derived.Lib.Hide
import Derived.Test.YtgkfhppmopmgjaaIdx
import Derived.Test.YtgkfhppmopmgjaaOrder
import Derived.Test.YtgkfhppmopmgjaaBefore
import Derived.Test.YtgkfhppmopmgjaaSteps2
import Derived.Deep.Cut
set_option linter.all false
namespace Go.Proofs.Ytgkfhppmopmgjaa
open Go.RowKit Pl Go.Lib Go.Shelf

theorem placeL_stop {x : List Int} : ∀ {l : List (List Int)} {k : Nat}, (∀ j, j < k → ltL (l.getD j []) x = true) → k ≤ l.length → (k = l.length ∨ ltL (l.getD k []) x = false) → placeL x l = k
  | [], k, _, h, _ => by have : k = 0 := by simpa using h
                         rw [this]; rfl
  | y :: l, 0, _, _, h => by
    rcases h with h | h
    · simp at h
    · simp only [List.getD_cons_zero] at h
      simp [placeL, h]
  | y :: l, k + 1, hj, hk, h => by
    have h0 := hj 0 (by omega)
    simp only [List.getD_cons_zero] at h0
    have := placeL_stop (x := x) (l := l) (k := k) (fun j hjk => by simpa using hj (j + 1) (by omega)) (by simpa using hk) (by simpa using h)
    simp [placeL, h0, this]
theorem addL_same {l : List (List Int)} {x : List Int} {k : Nat} (hp : placeL x l = k) (hk : k < l.length) (he : l.getD k [] = x) : addL l x = l := by
  unfold addL; rw [hp, if_pos ⟨hk, he⟩]
theorem addL_new {l : List (List Int)} {x : List Int} {k : Nat} (hp : placeL x l = k) (h : ¬ (k < l.length ∧ l.getD k [] = x)) : addL l x = l.take k ++ [x] ++ l.drop k := by
  unfold addL; rw [hp, if_neg h]
theorem own_pres {W W' : World} {B : Nat} {e : TypeId} {s : Nat} {v : Value} {n : Nat} {xs : List Value} (h : W.ownsRow B e s v n xs) (hp : ∀ (k : Nat) (r : Obj), W.heap[k]? = some r → W'.heap[k]? = some r) : W'.ownsRow B e s v n xs := by
  obtain ⟨hl, ⟨hv, hn⟩ | ⟨g, cap, cur, hv, hb, hblk, h4, h5, h6, h7⟩⟩ := h
  · exact ⟨hl, .inl ⟨hv, hn⟩⟩
  · exact ⟨hl, .inr ⟨g, cap, cur, hv, hb, hp _ _ hblk, h4, h5, h6, h7⟩⟩
theorem OwnBd.pres {W W' : World} {B : Nat} {v : Value} {l : List (List Int)} (h : OwnBd W B v l) (hp : ∀ (k : Nat) (r : Obj), W.heap[k]? = some r → W'.heap[k]? = some r) : OwnBd W' B v l := ⟨h.1, own_pres h.2 hp⟩
theorem own_block_lt {W : World} {B : Nat} {v : Value} {l : List (List Int)} (h : OwnBd W B v l) {q : Nat} (hq : v.ownBlock = some q) : B ≤ q ∧ q < W.heap.size := h.own.lt q hq
theorem pres_below {w w' : World} (hb : Below w.heap.size w w') : ∀ (k : Nat) (r : Obj), w.heap[k]? = some r → w'.heap[k]? = some r := fun k r h => (hb.block k (Array.getElem?_eq_some_iff.1 h).1).trans h
theorem us_set_other {us : List Value} {i j : Nat} {v : Value} (h : j ≠ i) : (us.set i v).getD j undef = us.getD j undef := by
  simp [List.getElem?_set_ne (Ne.symm h)]
theorem getD_mono {L : Array Bool} {i k : Nat} (h : L.getD k false = true) : (L.setIfInBounds i true).getD k false = true := getD_set_true h
theorem getD_here {L : Array Bool} {i : Nat} (h : i < L.size) : (L.setIfInBounds i true).getD i false = true := by
  simp [Array.getD_eq_getD_getElem?, h]
/-- What the operations of the region that makes a longer list have told; L: which are done. -/
def VAdd (bs : List (List Int)) (b : List Int) (k n c g : Nat) (B0 : Nat) : Nat → Array Bool → List Value → World → Prop
  | 0, L, us, w => L.getD 4 false = true ∨ L.getD 7 false = true ∨ ∃ h, us.getD 0 undef = .slice (some ⟨h, 0, none⟩) 0 0 ∧ B0 ≤ h ∧ w.heap[h]? = some (.cells #[] 28 (0, 0))
  | 1, _, us, _ => us.getD 1 undef = .slice (some ⟨g, 0, none⟩) n c
  | 2, _, us, _ => us.getD 2 undef = .int .i64 k
  | 3, _, us, _ => us.getD 3 undef = .slice (some ⟨g, 0, none⟩) k c
  | 4, L, us, w => L.getD 7 false = true ∨ (OwnBd w B0 (us.getD 4 undef) (bs.take k) ∧ (L.getD 6 false = true → ∀ q, (us.getD 4 undef).ownBlock = some q → (us.getD 6 undef).ownBlock ≠ some q))
  | 5, _, us, _ => us.getD 5 undef = aggB b
  | 6, L, us, w => L.getD 7 false = true ∨ ∃ h, us.getD 6 undef = .slice (some ⟨h, 0, none⟩) 1 1 ∧ B0 ≤ h ∧ w.heap[h]? = some (.cells (cellsB b) 28 (0, 0))
  | 7, L, us, w => L.getD 11 false = true ∨ OwnBd w B0 (us.getD 7 undef) (bs.take k ++ [b])
  | 8, _, us, _ => us.getD 8 undef = .slice (some ⟨g, 0, none⟩) n c
  | 9, _, us, _ => us.getD 9 undef = .int .i64 k
  | 10, _, us, _ => ∃ o, us.getD 10 undef = .slice (some ⟨g, o, none⟩) (n - k) (c - k) ∧ (n - k = 0 ∨ o = k * 16)
  | 11, _, us, w => OwnBd w B0 (us.getD 11 undef) (bs.take k ++ [b] ++ bs.drop k)
  | 12, _, us, w => OwnBd w B0 (us.getD 12 undef) (bs.take k ++ [b] ++ bs.drop k)
  | _, _, _, _ => True
section
variable {bs : List (List Int)} {b : List Int} {k n c g : Nat} {B0 : Nat} {w w' : World} {L : Array Bool} {us : List Value} {v : Value}
theorem VAdd_keep {i : Nat} (j : Nat) (hji : j ≠ i) (h6 : i ≠ 6) (hp : ∀ (k : Nat) (r : Obj), w.heap[k]? = some r → w'.heap[k]? = some r) (h : VAdd bs b k n c g B0 j L us w) : VAdd bs b k n c g B0 j (L.setIfInBounds i true) (us.set i v) w' := by
  unfold VAdd at *
  split at h
  all_goals (try rw [us_set_other hji])
  case h_1 => rcases h with h | h | ⟨q, h1, h2, h3⟩
              · exact .inl (getD_mono h)
              · exact .inr (.inl (getD_mono h))
              · exact .inr (.inr ⟨q, h1, h2, hp _ _ h3⟩)
  case h_5 => rcases h with h | ⟨h1, h2⟩
              · exact .inl (getD_mono h)
              · refine .inr ⟨h1.pres hp, fun h6' q hq => ?_⟩
                rw [getD_set_ne false h6] at h6'
                rw [us_set_other (Ne.symm h6)]
                exact h2 h6' q hq
  case h_7 => rcases h with h | ⟨q, h1, h2, h3⟩
              · exact .inl (getD_mono h)
              · exact .inr ⟨q, h1, h2, hp _ _ h3⟩
  case h_8 => rcases h with h | h
              · exact .inl (getD_mono h)
              · exact .inr (h.pres hp)
  case h_12 => exact h.pres hp
  case h_13 => exact h.pres hp
  all_goals first | trivial | exact h
theorem VAdd_keep6 (hL : L.size = 13) (hus : us.length = 13) {h6 : Nat} (hv : v = .slice (some ⟨h6, 0, none⟩) 1 1) (hh : w.heap.size ≤ h6) (j : Nat) (hji : j ≠ 6) (hp : ∀ (k : Nat) (r : Obj), w.heap[k]? = some r → w'.heap[k]? = some r) (h : VAdd bs b k n c g B0 j L us w) : VAdd bs b k n c g B0 j (L.setIfInBounds 6 true) (us.set 6 v) w' := by
  unfold VAdd at *
  split at h
  all_goals (try rw [us_set_other hji])
  case h_1 => rcases h with h | h | ⟨q, h1, h2, h3⟩
              · exact .inl (getD_mono h)
              · exact .inr (.inl (getD_mono h))
              · exact .inr (.inr ⟨q, h1, h2, hp _ _ h3⟩)
  case h_5 => rcases h with h | ⟨h1, h2⟩
              · exact .inl (getD_mono h)
              · refine .inr ⟨h1.pres hp, fun _ q hq => ?_⟩
                have hq2 := (own_block_lt h1 hq).2
                have : (us.set 6 v).getD 6 undef = v := by simp [List.getD_eq_getElem?_getD, hus]
                rw [this, hv]
                simp [Value.ownBlock]; omega
  case h_7 => exact absurd rfl hji
  case h_8 => rcases h with h | h
              · exact .inl (getD_mono h)
              · exact .inr (h.pres hp)
  case h_12 => exact h.pres hp
  case h_13 => exact h.pres hp
  all_goals first | trivial | exact h
theorem VAdd_keep4 (hL : L.size = 13) {v0 : Value} {h0 : Nat} (hv0 : v0 = .slice (some ⟨h0, 0, none⟩) 0 0) (hb0 : w.heap[h0]? = some (.cells #[] 28 (0, 0))) (hb : b.length = 16) (hd : Apd w w' v0 v) (h7 : L.getD 7 false = false) (h11 : L.getD 11 false = false) (h12 : L.getD 12 false = false) (j : Nat) (hji : j ≠ 4) (hj : L.getD j false = true)
    (h : VAdd bs b k n c g B0 j L us w) : VAdd bs b k n c g B0 j (L.setIfInBounds 4 true) (us.set 4 v) w' := by
  unfold VAdd at *
  split at h
  all_goals (try rw [us_set_other hji])
  case h_1 => exact .inl (getD_here (by omega))
  case h_5 => exact absurd rfl hji
  case h_7 => rcases h with h | ⟨q, h1, h2, h3⟩
              · exact .inl (getD_mono h)
              · refine .inr ⟨q, h1, h2, (hd.block q _ h3 ?_).1⟩
                rw [hv0]
                intro hq
                simp only [Value.ownBlock, Option.some.injEq] at hq
                subst hq
                rw [hb0] at h3
                have := congrArg (fun o => match o with | some (Obj.cells cs _ _) => cs.size | _ => 0) h3
                simp [size_cellsB, hb] at this
  case h_8 => rw [h7] at hj; cases hj
  case h_12 => rw [h11] at hj; cases hj
  case h_13 => rw [h12] at hj; cases hj
  all_goals first | trivial | exact h
theorem VAdd_keep7 (hL : L.size = 13) (h11 : L.getD 11 false = false) (h12 : L.getD 12 false = false) (j : Nat) (hji : j ≠ 7) (hj : L.getD j false = true) (h : VAdd bs b k n c g B0 j L us w) : VAdd bs b k n c g B0 j (L.setIfInBounds 7 true) (us.set 7 v) w' := by
  unfold VAdd at *
  split at h
  all_goals (try rw [us_set_other hji])
  case h_1 => exact .inr (.inl (getD_here (by omega)))
  case h_5 => exact .inl (getD_here (by omega))
  case h_7 => exact .inl (getD_here (by omega))
  case h_8 => exact absurd rfl hji
  case h_12 => rw [h11] at hj; cases hj
  case h_13 => rw [h12] at hj; cases hj
  all_goals first | trivial | exact h
theorem VAdd_keep11 (hL : L.size = 13) (h7 : L.getD 7 false = true) (h12 : L.getD 12 false = false) (j : Nat) (hji : j ≠ 11) (hj : L.getD j false = true) (h : VAdd bs b k n c g B0 j L us w) : VAdd bs b k n c g B0 j (L.setIfInBounds 11 true) (us.set 11 v) w' := by
  unfold VAdd at *
  split at h
  all_goals (try rw [us_set_other hji])
  case h_1 => exact .inr (.inl (getD_mono h7))
  case h_5 => exact .inl (getD_mono h7)
  case h_7 => exact .inl (getD_mono h7)
  case h_8 => exact .inl (getD_here (by omega))
  case h_12 => exact absurd rfl hji
  case h_13 => rw [h12] at hj; cases hj
  all_goals first | trivial | exact h
end
theorem appendBs2 {ops : Array Oper} {rest : List Oper} {a : Act} {w : World} {Q : Exit → Act → World → Prop} {dst : Option Tmp} {type : TypeId} {pos : String} {after : Array Edge} {x y : Operand}
    {B : Nat} {v : Value} {l zs : List (List Int)} {g o m c : Nat} (hown : OwnBd w B v l) (hx : a.eval x = v) (hy : a.eval y = .slice (some ⟨g, o, none⟩) m c)
    (hz : zs.length = m) (hz16 : All16 zs) (hg : ∀ k j, k < m → j < 16 → w.cell? ⟨g, o + (k * 16 + j), none⟩ = some (.int .i64 ((zs.getD k []).getD j 0))) (hn : l.length + m ≤ 1099511627776) (hB : B ≤ w.heap.size)
    (h : ∀ v' w', OwnBd w' B v' (l ++ zs) → Apd w w' v v' → wpList Try.prog ops Q rest (a.put dst v') w') :
    wpList Try.prog ops Q (⟨dst, .call { callee := .builtin .append, args := #[x, y], argTypes := #[64, 64] }, type, pos, after, none⟩ :: rest) a w := by
  obtain ⟨i0, hi, hz0, hz1, hz2⟩ := info_parts info27
  refine wpList_append_two w x y (64) B (28) i0 _ 16 128 Try.underlying64 hi hz0 hz1 hz2 rfl (by decide) v l.length _ hx hown.2 ⟨g, o, none⟩ m c (zs.flatten.map (Value.int .i64)) hy (by rw [List.length_map, flat16_length hz16, hz]) ?_ ?_ ?_ ?_ hB ?_
  · intro j u hj
    have hjm : j < m * 16 := by have := (List.getElem?_eq_some_iff.1 hj).1; rw [List.length_map, flat16_length hz16, hz] at this; exact this
    have hd := hg (j / 16) (j % 16) (by omega) (by omega)
    have hdm : j / 16 * 16 + j % 16 = j := by omega
    rw [hdm] at hd
    rw [Addr.add_mid, hd, ← hj, List.getElem?_map]
    have := flat16_get hz16 (j / 16) (j % 16) (by omega) (by omega)
    rw [hdm] at this
    rw [this]; rfl
  · intro u hu
    obtain ⟨z, _, rfl⟩ := List.mem_map.1 hu
    rfl
  · unfold maxLen; omega
  · omega
  · intro v' w' h1 h2
    exact h v' w' ⟨hown.1.app hz16, by simpa [hz] using h1⟩ h2
theorem getD_take {bs : List (List Int)} {k q : Nat} (h : q < k) : (bs.take k).getD q [] = bs.getD q [] := by
  simp only [List.getD_eq_getElem?_getD, List.getElem?_take, h, if_true]
theorem getD_drop {bs : List (List Int)} {k q : Nat} : (bs.drop k).getD q [] = bs.getD (k + q) [] := by
  simp only [List.getD_eq_getElem?_getD, List.getElem?_drop]
theorem All16.take {bs : List (List Int)} (h : All16 bs) (k : Nat) : All16 (bs.take k) := fun x hx => h x (List.mem_of_mem_take hx)
theorem All16.drop {bs : List (List Int)} (h : All16 bs) (k : Nat) : All16 (bs.drop k) := fun x hx => h x (List.mem_of_mem_drop hx)
theorem apd_below {B : Nat} {w0 w w' : World} {v v' : Value} (hd : Apd w w' v v') (hb : Below B w0 w) (hB : B ≤ w.heap.size) (hv : ∀ q, v.ownBlock = some q → B ≤ q) : Below B w0 w' := Below.grown hb hd.grown hB hv
theorem heap_drawn {W : World} {n d : Nat} {r : Option Obj} (h : W.heap[n]? = r) : ({ W with drawn := d } : World).heap[n]? = r := h
theorem below_drawn {B : Nat} {w W : World} {d : Nat} (h : Below B w W) : Below B w { W with drawn := d } := ⟨h.os, h.tape, h.output, h.size, h.block⟩
theorem size_drawn {W : World} {n d : Nat} (h : n ≤ W.heap.size) : n ≤ ({ W with drawn := d } : World).heap.size := h
theorem list13 {α : Type} (l : List α) (h : l.length = 13) : ∃ a b c d e f g i j k m n p, l = [a, b, c, d, e, f, g, i, j, k, m, n, p] := by
  match l, h with
  | [a, b, c, d, e, f, g, i, j, k, m, n, p], _ => exact ⟨a, b, c, d, e, f, g, i, j, k, m, n, p, rfl⟩
/-- What l3Add returns. -/
def RetAdd (bs : List (List Int)) (b : List Int) (B g0 : Nat) (w : World) (e : Ending) (w' : World) : Prop :=
  ∃ g c, e = .returned (.slice (some ⟨g, 0, none⟩) (addL bs b).length c) ∧ OwnBd w' B (.slice (some ⟨g, 0, none⟩) (addL bs b).length c) (addL bs b) ∧ Below w.heap.size w w' ∧ (g = g0 ∨ w.heap.size ≤ g)
set_option maxRecDepth 100000 in
set_option maxHeartbeats 8000000 in
theorem l3Add_any (bs : List (List Int)) (b : List Int) (hb : b.length = 16) (wb : wfL b) (wbs : ∀ x ∈ bs, wfL x) (B g c : Nat) (w : World) (hown : OwnBd w B (.slice (some ⟨g, 0, none⟩) bs.length c) bs) (hn : bs.length ≤ 1000000) (hB : B ≤ w.heap.size) (hg : g < w.heap.size) :
    Calls Try.prog 53 #[.slice (some ⟨g, 0, none⟩) bs.length c, aggB b] w (RetAdd bs b B g w) := by
  have h16 := hown.len
  have hc : ∀ k j, k < bs.length → j < 16 → w.cell? ⟨g, k * 16 + j, none⟩ = some (.int .i64 ((bs.getD k []).getD j 0)) := fun k j hk hj => by
    obtain ⟨g2, c2, hv, _, _, _, _, hcell⟩ := hown.at (by omega)
    simp only [Value.slice.injEq, Option.some.injEq, Addr.mk.injEq, and_true, true_and] at hv
    obtain ⟨rfl, rfl⟩ := hv
    exact hcell k j hk hj
  obtain ⟨hnc, hcm⟩ : bs.length ≤ c ∧ c ≤ 9223372036854775807 := by
    rcases hown.own.2 with ⟨h, _⟩ | ⟨g2, cap, cur, hv, _, _, h1, h2, _⟩
    · cases h
    · simp only [Value.slice.injEq, true_and] at hv
      obtain ⟨_, rfl⟩ := hv
      have hmx : maxLen = 9223372036854775807 := by decide
      exact ⟨h1, by omega⟩
  obtain ⟨n, hN⟩ : ∃ n, n = bs.length := ⟨_, rfl⟩
  have HW := Lib.hid wbs; clear wbs
  have H16 := Lib.hid h16; clear h16
  have HPL : Hid (∀ k, (∀ j, j < k → ltL (bs.getD j []) b = true) → k ≤ bs.length → (k = bs.length ∨ ltL (bs.getD k []) b = false) → placeL b bs = k) := Lib.hid (fun k => placeL_stop)
  have HO := Lib.hid hown; clear hown
  rw [← hN] at hn hc HO hnc ⊢
  have HC := Lib.hid hc; clear hc
  have HN := Lib.hid hN; clear hN
  go_enter Try.func53, Try.ntmps53
  go_wp2_with fail
  go_loopw [5] (fun v5 wr => ∃ k : Nat, k ≤ n ∧ v5 = .int .i64 k ∧ wr.heap[w.heap.size]? = some (.cells (cellsB b) 28 (0, 0)) ∧ Below w.heap.size w wr ∧ w.heap.size + 1 ≤ wr.heap.size ∧ ∀ j, j < k → ltL (bs.getD j []) b = true)
    (fun v5 _ => n - (intOf v5).toNat)
  case atStart => exact ⟨0, by omega, rfl, by (repeat' (first | (with_reducible assumption) | ((with_reducible refine heap_new ?_); (focus ((try simp only [World.size_alloc, size_junk, size_setRow, Array.size_append]) <;> omega))) | ((with_reducible refine heap_old ?_ ?_); (focus ((try simp only [World.size_alloc, size_junk, size_setRow, Array.size_append]) <;> omega))) | ((with_reducible refine heap_junk ?_ ?_); (focus ((try simp only [World.size_alloc, size_junk, size_setRow, Array.size_append]) <;> omega))) | ((with_reducible apply heap_setRow_same)) | ((with_reducible refine heap_setRow_other ?_ ?_); (focus ((try simp only [World.size_alloc, size_junk, size_setRow, Array.size_append]) <;> omega))))), by (repeat' (first | (with_reducible exact RowKit.Below.refl _ _) | (with_reducible assumption) | (with_reducible refine Below.drewN ?_ _) | (with_reducible refine below_junk0 ?_ ?_ _ _) | (with_reducible refine RowKit.Below.alloc ?_ ?_ _) | (with_reducible refine below_setRow0 ?_ ?_) | (with_reducible refine RowKit.Below.setCell ?_ ?_ _) | (with_reducible refine RowKit.Below.drew ?_) | go_size | (simp only [size_junk]; go_size) | (simp only [World.size_alloc, size_junk, size_setRow]; omega) | omega)), by ((try simp only [World.size_alloc, size_junk, size_setRow, Array.size_append]) <;> omega), by omega⟩
  case round =>
    obtain ⟨k, hk, rfl, hbox, hbel, hlt, hno⟩ := hrel
    have HNO := Lib.hid hno; clear hno
    rcases Nat.lt_or_ge k n with hkn | hkn
    · have hkn' : k < bs.length := by have := HN.out; omega
      have hgr : g < wr.heap.size := Nat.lt_of_lt_of_le hg hbel.size
      have hkl := getD_16 H16.out k hkn'
      have hwk : wfL (bs.getD k []) := HW.out _ (by rw [List.getD_eq_getElem?_getD, List.getElem?_eq_getElem hkn']; exact List.getElem_mem hkn')
      have hcx := fun j (hj : j < 16) => HC.out k j hkn hj
      have hpl := HPL.out k
      obtain ⟨x, hx⟩ : ∃ x, x = bs.getD k [] := ⟨_, rfl⟩
      rw [← hx] at hkl hwk hcx hpl
      have HX := Lib.hid hx; clear hx
      have HXL := Lib.hid hkl
      have HCX := Lib.hid hcx; clear hcx
      have hlt0 := fun w => l2Before_any x b hkl hb w
      cases hl : ltL x b with
      | true =>
        rw [hl] at hlt0
        have HLT := Lib.hid hlt0
        have HM := Hb.mk hl
        clear hl hlt0 hkl hwk hpl
        go_upto_region 2 with fail
        (refine wp_region_quiet_junk (by kernel_rfl) (by kernel_rfl) ?_; (repeat (first | ((with_reducible apply loadQG (ty := 28) (n := 16) (l := x) Try.underlying28); (focus with_unfolding_all exact rfl); (focus exact HXL.out); (focus (rintro _ ⟨p, rfl⟩ j hj; (try simp only [junk_junk]); exact (cell?_junk wr _ _ g _ hgr).trans ((hbel.cell (p := ⟨g, k * 16 + j, none⟩) hg).trans (HCX.out j hj)))); (focus rfl); (focus kernel_rfl); (focus with_unfolding_all exact rfl)) | ((with_reducible apply loadQG (ty := 28) (n := 16) (l := b) (o := 0) Try.underlying28); (focus with_unfolding_all exact rfl); (focus exact hb); (focus (rintro _ ⟨p, rfl⟩ j hj; rw [Nat.zero_add]; exact cell_at (by (repeat' (first | (with_reducible assumption) | ((with_reducible refine heap_new ?_); (focus ((try simp only [World.size_alloc, size_junk, size_setRow, Array.size_append]) <;> omega))) | ((with_reducible refine heap_old ?_ ?_); (focus ((try simp only [World.size_alloc, size_junk, size_setRow, Array.size_append]) <;> omega))) | ((with_reducible refine heap_junk ?_ ?_); (focus ((try simp only [World.size_alloc, size_junk, size_setRow, Array.size_append]) <;> omega))) | ((with_reducible apply heap_setRow_same)) | ((with_reducible refine heap_setRow_other ?_ ?_); (focus ((try simp only [World.size_alloc, size_junk, size_setRow, Array.size_append]) <;> omega)))))) (by omega))); (focus rfl); (focus kernel_rfl); (focus with_unfolding_all exact rfl)) | quiet_step ((go_at_call 60; with_reducible refine Calls.junk_to (HLT.out _) (fun d os => ?_); (try simp only [junk_junk, Array.append_assoc]); with_reducible exact ⟨⟨d, _⟩, rfl⟩)))); refine wpQuiet_nil ?_; intro _ hw'; obtain ⟨⟨dq, osq⟩, hw''⟩ := hw'; subst hw'')
        go_wp2
        go_roundw
        case rel => exact ⟨k + 1, by omega, by go_num, by (repeat' (first | (with_reducible assumption) | ((with_reducible refine heap_new ?_); (focus ((try simp only [World.size_alloc, size_junk, size_setRow, Array.size_append]) <;> omega))) | ((with_reducible refine heap_old ?_ ?_); (focus ((try simp only [World.size_alloc, size_junk, size_setRow, Array.size_append]) <;> omega))) | ((with_reducible refine heap_junk ?_ ?_); (focus ((try simp only [World.size_alloc, size_junk, size_setRow, Array.size_append]) <;> omega))) | ((with_reducible apply heap_setRow_same)) | ((with_reducible refine heap_setRow_other ?_ ?_); (focus ((try simp only [World.size_alloc, size_junk, size_setRow, Array.size_append]) <;> omega))))), by (repeat' (first | (with_reducible exact RowKit.Below.refl _ _) | (with_reducible assumption) | (with_reducible refine Below.drewN ?_ _) | (with_reducible refine below_junk0 ?_ ?_ _ _) | (with_reducible refine RowKit.Below.alloc ?_ ?_ _) | (with_reducible refine below_setRow0 ?_ ?_) | (with_reducible refine RowKit.Below.setCell ?_ ?_ _) | (with_reducible refine RowKit.Below.drew ?_) | go_size | (simp only [size_junk]; go_size) | (simp only [World.size_alloc, size_junk, size_setRow]; omega) | omega)), by ((try simp only [World.size_alloc, size_junk, size_setRow, Array.size_append]) <;> omega), fun j hj => by (by_cases hjk : j < k; exact HNO.out j hjk; (obtain rfl : j = k := by omega); rw [← HX.out]; exact HM.out)⟩
        case measure => simp [intOf]; omega
      | false =>
        rw [hl] at hlt0
        have HLT := Lib.hid hlt0
        have hplace := hpl HNO.out (by have := HN.out; omega) (.inr hl)
        have HP := Lib.hid hplace
        have HM := Hb.mk hl
        have heq : ∀ w, (binOp .eql 28 (aggB x) (aggB b)).run Try.prog w = .ok (.bool (x == b)) w := fun w => eql_board x b hkl hb hwk wb w
        clear hl hlt0 hkl hwk hpl hplace
        by_cases hxb : x = b
        · rw [show (x == b) = true from beq_iff_eq.2 hxb] at heq
          have HE : Hid (addL bs b = bs) := Lib.hid (addL_same HP.out hkn' (by rw [← HX.out]; exact hxb))
          have HXB := Lib.hid hxb; clear hxb
          go_upto_region 2 with fail
          (refine wp_region_quiet_junk (by kernel_rfl) (by kernel_rfl) ?_; (repeat (first | ((with_reducible apply loadQG (ty := 28) (n := 16) (l := x) Try.underlying28); (focus with_unfolding_all exact rfl); (focus exact HXL.out); (focus (rintro _ ⟨p, rfl⟩ j hj; (try simp only [junk_junk]); exact (cell?_junk wr _ _ g _ hgr).trans ((hbel.cell (p := ⟨g, k * 16 + j, none⟩) hg).trans (HCX.out j hj)))); (focus rfl); (focus kernel_rfl); (focus with_unfolding_all exact rfl)) | ((with_reducible apply loadQG (ty := 28) (n := 16) (l := b) (o := 0) Try.underlying28); (focus with_unfolding_all exact rfl); (focus exact hb); (focus (rintro _ ⟨p, rfl⟩ j hj; rw [Nat.zero_add]; exact cell_at (by (repeat' (first | (with_reducible assumption) | ((with_reducible refine heap_new ?_); (focus ((try simp only [World.size_alloc, size_junk, size_setRow, Array.size_append]) <;> omega))) | ((with_reducible refine heap_old ?_ ?_); (focus ((try simp only [World.size_alloc, size_junk, size_setRow, Array.size_append]) <;> omega))) | ((with_reducible refine heap_junk ?_ ?_); (focus ((try simp only [World.size_alloc, size_junk, size_setRow, Array.size_append]) <;> omega))) | ((with_reducible apply heap_setRow_same)) | ((with_reducible refine heap_setRow_other ?_ ?_); (focus ((try simp only [World.size_alloc, size_junk, size_setRow, Array.size_append]) <;> omega)))))) (by omega))); (focus rfl); (focus kernel_rfl); (focus with_unfolding_all exact rfl)) | quiet_step ((go_at_call 60; with_reducible refine Calls.junk_to (HLT.out _) (fun d os => ?_); (try simp only [junk_junk, Array.append_assoc]); with_reducible exact ⟨⟨d, _⟩, rfl⟩)))); refine wpQuiet_nil ?_; intro _ hw'; obtain ⟨⟨dq, osq⟩, hw''⟩ := hw'; subst hw'')
          go_upto_region 4 with fail
          (refine wp_region_quiet_junk (by kernel_rfl) (by kernel_rfl) ?_; (repeat (first | ((with_reducible apply loadQG (ty := 28) (n := 16) (l := x) Try.underlying28); (focus with_unfolding_all exact rfl); (focus exact HXL.out); (focus (rintro _ ⟨p, rfl⟩ j hj; (try simp only [junk_junk]); exact (cell?_junk wr _ _ g _ hgr).trans ((hbel.cell (p := ⟨g, k * 16 + j, none⟩) hg).trans (HCX.out j hj)))); (focus rfl); (focus kernel_rfl); (focus with_unfolding_all exact rfl)) | ((with_reducible apply loadQG (ty := 28) (n := 16) (l := b) (o := 0) Try.underlying28); (focus with_unfolding_all exact rfl); (focus exact hb); (focus (rintro _ ⟨p, rfl⟩ j hj; rw [Nat.zero_add]; exact cell_at (by (repeat' (first | (with_reducible assumption) | ((with_reducible refine heap_new ?_); (focus ((try simp only [World.size_alloc, size_junk, size_setRow, Array.size_append]) <;> omega))) | ((with_reducible refine heap_old ?_ ?_); (focus ((try simp only [World.size_alloc, size_junk, size_setRow, Array.size_append]) <;> omega))) | ((with_reducible refine heap_junk ?_ ?_); (focus ((try simp only [World.size_alloc, size_junk, size_setRow, Array.size_append]) <;> omega))) | ((with_reducible apply heap_setRow_same)) | ((with_reducible refine heap_setRow_other ?_ ?_); (focus ((try simp only [World.size_alloc, size_junk, size_setRow, Array.size_append]) <;> omega)))))) (by omega))); (focus rfl); (focus kernel_rfl); (focus with_unfolding_all exact rfl)) | quiet_step ((go_at_call 60; with_reducible refine Calls.junk_to (HLT.out _) (fun d os => ?_); (try simp only [junk_junk, Array.append_assoc]); with_reducible exact ⟨⟨d, _⟩, rfl⟩)))); refine wpQuiet_nil ?_; intro _ hw'; obtain ⟨⟨dq, osq⟩, hw''⟩ := hw'; subst hw'')
          go_wp2
          go_ret
          refine ⟨g, c, by rw [HE.out, ← HN.out]; rfl, ?_, by (repeat' (first | (with_reducible exact RowKit.Below.refl _ _) | (with_reducible assumption) | (with_reducible refine Below.drewN ?_ _) | (with_reducible refine below_junk0 ?_ ?_ _ _) | (with_reducible refine RowKit.Below.alloc ?_ ?_ _) | (with_reducible refine below_setRow0 ?_ ?_) | (with_reducible refine RowKit.Below.setCell ?_ ?_ _) | (with_reducible refine RowKit.Below.drew ?_) | go_size | (simp only [size_junk]; go_size) | (simp only [World.size_alloc, size_junk, size_setRow]; omega) | omega)), .inl rfl⟩
          rw [HE.out, ← HN.out]
          have hO2 := (HO.out).below hbel (Nat.le_refl _)
          (repeat' (first | (with_reducible assumption) | (with_reducible apply OwnBd.junk) | (with_reducible apply OwnBd.alloc)))
        · rw [show (x == b) = false from beq_eq_false_iff_ne.2 hxb] at heq
          have HNC : Hid (¬ (k < bs.length ∧ bs.getD k [] = b)) := Lib.hid (fun h => hxb (by rw [HX.out]; exact h.2))
          have HXB := Lib.hid hxb; clear hxb
          go_upto_region 2 with fail
          (refine wp_region_quiet_junk (by kernel_rfl) (by kernel_rfl) ?_; (repeat (first | ((with_reducible apply loadQG (ty := 28) (n := 16) (l := x) Try.underlying28); (focus with_unfolding_all exact rfl); (focus exact HXL.out); (focus (rintro _ ⟨p, rfl⟩ j hj; (try simp only [junk_junk]); exact (cell?_junk wr _ _ g _ hgr).trans ((hbel.cell (p := ⟨g, k * 16 + j, none⟩) hg).trans (HCX.out j hj)))); (focus rfl); (focus kernel_rfl); (focus with_unfolding_all exact rfl)) | ((with_reducible apply loadQG (ty := 28) (n := 16) (l := b) (o := 0) Try.underlying28); (focus with_unfolding_all exact rfl); (focus exact hb); (focus (rintro _ ⟨p, rfl⟩ j hj; rw [Nat.zero_add]; exact cell_at (by (repeat' (first | (with_reducible assumption) | ((with_reducible refine heap_new ?_); (focus ((try simp only [World.size_alloc, size_junk, size_setRow, Array.size_append]) <;> omega))) | ((with_reducible refine heap_old ?_ ?_); (focus ((try simp only [World.size_alloc, size_junk, size_setRow, Array.size_append]) <;> omega))) | ((with_reducible refine heap_junk ?_ ?_); (focus ((try simp only [World.size_alloc, size_junk, size_setRow, Array.size_append]) <;> omega))) | ((with_reducible apply heap_setRow_same)) | ((with_reducible refine heap_setRow_other ?_ ?_); (focus ((try simp only [World.size_alloc, size_junk, size_setRow, Array.size_append]) <;> omega)))))) (by omega))); (focus rfl); (focus kernel_rfl); (focus with_unfolding_all exact rfl)) | quiet_step ((go_at_call 60; with_reducible refine Calls.junk_to (HLT.out _) (fun d os => ?_); (try simp only [junk_junk, Array.append_assoc]); with_reducible exact ⟨⟨d, _⟩, rfl⟩)))); refine wpQuiet_nil ?_; intro _ hw'; obtain ⟨⟨dq, osq⟩, hw''⟩ := hw'; subst hw'')
          go_upto_region 4 with fail
          (refine wp_region_quiet_junk (by kernel_rfl) (by kernel_rfl) ?_; (repeat (first | ((with_reducible apply loadQG (ty := 28) (n := 16) (l := x) Try.underlying28); (focus with_unfolding_all exact rfl); (focus exact HXL.out); (focus (rintro _ ⟨p, rfl⟩ j hj; (try simp only [junk_junk]); exact (cell?_junk wr _ _ g _ hgr).trans ((hbel.cell (p := ⟨g, k * 16 + j, none⟩) hg).trans (HCX.out j hj)))); (focus rfl); (focus kernel_rfl); (focus with_unfolding_all exact rfl)) | ((with_reducible apply loadQG (ty := 28) (n := 16) (l := b) (o := 0) Try.underlying28); (focus with_unfolding_all exact rfl); (focus exact hb); (focus (rintro _ ⟨p, rfl⟩ j hj; rw [Nat.zero_add]; exact cell_at (by (repeat' (first | (with_reducible assumption) | ((with_reducible refine heap_new ?_); (focus ((try simp only [World.size_alloc, size_junk, size_setRow, Array.size_append]) <;> omega))) | ((with_reducible refine heap_old ?_ ?_); (focus ((try simp only [World.size_alloc, size_junk, size_setRow, Array.size_append]) <;> omega))) | ((with_reducible refine heap_junk ?_ ?_); (focus ((try simp only [World.size_alloc, size_junk, size_setRow, Array.size_append]) <;> omega))) | ((with_reducible apply heap_setRow_same)) | ((with_reducible refine heap_setRow_other ?_ ?_); (focus ((try simp only [World.size_alloc, size_junk, size_setRow, Array.size_append]) <;> omega)))))) (by omega))); (focus rfl); (focus kernel_rfl); (focus with_unfolding_all exact rfl)) | quiet_step ((go_at_call 60; with_reducible refine Calls.junk_to (HLT.out _) (fun d os => ?_); (try simp only [junk_junk, Array.append_assoc]); with_reducible exact ⟨⟨d, _⟩, rfl⟩)))); refine wpQuiet_nil ?_; intro _ hw'; obtain ⟨⟨dq, osq⟩, hw''⟩ := hw'; subst hw'')
          go_upto_region 6 with fail
          refine wp_region_steps2 [some 33, some 34, some 35, some 36, some 37, some 38, some 39, some 40, some 41, some 42, some 43, some 44, some 4] (VAdd bs b k n c g (w.heap.size + 1)) (fun w' => Below w.heap.size w w' ∧ w'.heap[w.heap.size]? = some (.cells (cellsB b) 28 (0, 0)) ∧ w.heap.size + 1 ≤ w'.heap.size) (by kernel_rfl) (by kernel_rfl) (by kernel_rfl) ⟨below_drawn (by (repeat' (first | (with_reducible exact RowKit.Below.refl _ _) | (with_reducible assumption) | (with_reducible refine Below.drewN ?_ _) | (with_reducible refine below_junk0 ?_ ?_ _ _) | (with_reducible refine RowKit.Below.alloc ?_ ?_ _) | (with_reducible refine below_setRow0 ?_ ?_) | (with_reducible refine RowKit.Below.setCell ?_ ?_ _) | (with_reducible refine RowKit.Below.drew ?_) | go_size | (simp only [size_junk]; go_size) | (simp only [World.size_alloc, size_junk, size_setRow]; omega) | omega))), heap_drawn (by (repeat' (first | (with_reducible assumption) | ((with_reducible refine heap_new ?_); (focus ((try simp only [World.size_alloc, size_junk, size_setRow, Array.size_append]) <;> omega))) | ((with_reducible refine heap_old ?_ ?_); (focus ((try simp only [World.size_alloc, size_junk, size_setRow, Array.size_append]) <;> omega))) | ((with_reducible refine heap_junk ?_ ?_); (focus ((try simp only [World.size_alloc, size_junk, size_setRow, Array.size_append]) <;> omega))) | ((with_reducible apply heap_setRow_same)) | ((with_reducible refine heap_setRow_other ?_ ?_); (focus ((try simp only [World.size_alloc, size_junk, size_setRow, Array.size_append]) <;> omega)))))), size_drawn (by ((try simp only [World.size_alloc, size_junk, size_setRow, Array.size_append]) <;> omega))⟩ ?_ ?_
          · intro i o ho L us w' K hul hLs hLi hcl hall hwc hdep hK
            obtain ⟨u0, u1, u2, u3, u4, u5, u6, u7, u8, u9, u10, u11, u12, rfl⟩ := list13 us hul
            obtain ⟨hw, hbox, hsz⟩ := hwc
            clear hbel hlt
            have hLs : L.size = 13 := hLs
            match i with
            | 0 =>
              cases ho
              clear hdep
              simp only [putAll, Act.put, List.setIfInBounds_toArray, List.set_cons_zero, List.set_cons_succ] at hK ⊢
              go_wp2
              exact hK _ _ (.inr (.inr ⟨_, rfl, by omega, heap_new rfl⟩)) (fun j oj hji _ _ _ h => VAdd_keep j hji (by omega) (fun _ _ h => heap_old (Array.getElem?_eq_some_iff.1 h).1 h) h) ⟨hw.alloc (by omega) _, heap_old (by omega) hbox, by simp; omega⟩
            | 1 =>
              cases ho
              clear hdep
              simp only [putAll, Act.put, List.setIfInBounds_toArray, List.set_cons_zero, List.set_cons_succ] at hK ⊢
              go_wp2
              exact hK _ _ rfl (fun j oj hji _ _ _ h => VAdd_keep j hji (by omega) (fun _ _ h => h) h) ⟨hw, hbox, hsz⟩
            | 2 =>
              cases ho
              clear hdep
              simp only [putAll, Act.put, List.setIfInBounds_toArray, List.set_cons_zero, List.set_cons_succ] at hK ⊢
              go_wp2
              exact hK _ _ rfl (fun j oj hji _ _ _ h => VAdd_keep j hji (by omega) (fun _ _ h => h) h) ⟨hw, hbox, hsz⟩
            | 3 =>
              cases ho
              have d1 := (hdep { on := 1, ground := Ground.data } (by simp) rfl).2
              have d2 := (hdep { on := 2, ground := Ground.data } (by simp) rfl).2
              have d1 : u1 = _ := d1
              have d2 : u2 = _ := d2
              subst d1 d2
              clear hdep
              simp only [putAll, Act.put, List.setIfInBounds_toArray, List.set_cons_zero, List.set_cons_succ] at hK ⊢
              go_wp2
              exact hK _ _ rfl (fun j oj hji _ _ _ h => VAdd_keep j hji (by omega) (fun _ _ h => h) h) ⟨hw, hbox, hsz⟩
            | 4 =>
              cases ho
              have d0 := (hdep { on := 0, ground := Ground.data } (by simp) rfl).2
              have d3 := (hdep { on := 3, ground := Ground.data } (by simp) rfl).2
              have d3 : u3 = _ := d3
              subst d3
              have h7 : L.getD 7 false = false := by
                cases h : L.getD 7 false with
                | false => rfl
                | true => have := hcl 7 _ rfl h { on := 4, ground := Ground.data } (by simp) rfl; rw [hLi] at this; cases this
              have h11 : L.getD 11 false = false := by
                cases h : L.getD 11 false with
                | false => rfl
                | true => have := hcl 11 _ rfl h { on := 7, ground := Ground.data } (by simp) rfl; rw [h7] at this; cases this
              have h12 : L.getD 12 false = false := by
                cases h : L.getD 12 false with
                | false => rfl
                | true => have := hcl 12 _ rfl h { on := 11, ground := Ground.data } (by simp) rfl; rw [h11] at this; cases this
              rcases d0 with d0 | d0 | ⟨h0, d0, hh0, hb0⟩
              · rw [hLi] at d0; cases d0
              · rw [h7] at d0; cases d0
              have d0 : u0 = _ := d0
              subst d0
              have hv6 := fun hl => hall 6 (by decide) hl
              clear hdep hall
              simp only [putAll, Act.put, List.setIfInBounds_toArray, List.set_cons_zero, List.set_cons_succ] at hK ⊢
              (with_reducible apply appendBs2 (B := w.heap.size + 1) (l := []) (zs := bs.take k)); (focus exact OwnBd.empty hh0 hb0); (focus with_unfolding_all exact rfl); (focus with_unfolding_all exact rfl); (focus (rw [List.length_take]; have := HN.out; omega)); (focus exact H16.out.take k)
              · intro q j hq hj
                rw [hw.cell (p := ⟨g, _, none⟩) hg, Nat.zero_add, HC.out q j (by omega) hj, getD_take hq]
              · simp; omega
              · exact hsz
              · intro v' w2 hown hd
                rw [List.nil_append] at hown
                refine hK _ _ (.inr ⟨hown, fun h6 q hq => ?_⟩) (fun j oj hji _ hj _ h => VAdd_keep4 hLs rfl hb0 hb hd h7 h11 h12 j hji hj h) ⟨apd_below hd hw (by omega) (fun q hq => by simp [Value.ownBlock] at hq; omega), (hd.block _ _ hbox (by simp [Value.ownBlock]; omega)).1, Nat.le_trans hsz hd.grown.size⟩
                have h6' : L.getD 6 false = true := by rw [getD_set_ne false (by omega)] at h6; exact h6
                rcases hv6 h6' with h | ⟨p6, hp, _, hb6⟩
                · rw [h7] at h; cases h
                have hp : u6 = _ := hp
                subst hp
                have := (hd.block p6 _ hb6 (by
                  intro he
                  simp only [Value.ownBlock, Option.some.injEq] at he
                  subst he
                  rw [hb0] at hb6
                  have h9 := congrArg (fun o => match o with | some (Obj.cells cs _ _) => cs.size | _ => 0) hb6
                  simp [size_cellsB, hb] at h9)).2
                intro he
                have he : some p6 = some q := he
                rw [he] at this
                exact this hq
            | 5 =>
              cases ho
              clear hdep
              simp only [putAll, Act.put, List.setIfInBounds_toArray, List.set_cons_zero, List.set_cons_succ] at hK ⊢
              go_wp2_with ((with_reducible apply loadB (n := 16) (ty := 28) Try.underlying28); (focus with_unfolding_all exact rfl); (focus (exact hbox; done)); (focus rfl); (focus kernel_rfl); (focus exact hb))
              exact hK _ _ rfl (fun j oj hji _ _ _ h => VAdd_keep j hji (by omega) (fun _ _ h => h) h) ⟨hw, hbox, hsz⟩
            | 6 =>
              cases ho
              have d5 := (hdep { on := 5, ground := Ground.data } (by simp) rfl).2
              have d5 : u5 = _ := d5
              subst d5
              clear hdep
              simp only [putAll, Act.put, List.setIfInBounds_toArray, List.set_cons_zero, List.set_cons_succ] at hK ⊢
              go_wp2_with ((with_reducible apply buildB); (focus with_unfolding_all exact rfl); (focus exact hb))
              exact hK _ _ (.inr ⟨_, rfl, by omega, heap_new rfl⟩) (fun j oj hji _ _ _ h => VAdd_keep6 hLs rfl rfl (Nat.le_refl _) j hji (fun _ _ h => heap_old (Array.getElem?_eq_some_iff.1 h).1 h) h) ⟨hw.alloc (by omega) _, heap_old (by omega) hbox, by simp; omega⟩
            | 7 =>
              cases ho
              have d4 := (hdep { on := 4, ground := Ground.data } (by simp) rfl).2
              have d6 := (hdep { on := 6, ground := Ground.data } (by simp) rfl)
              have l6 := d6.1
              have d6 := d6.2
              have h11 : L.getD 11 false = false := by
                cases h : L.getD 11 false with
                | false => rfl
                | true => have := hcl 11 _ rfl h { on := 7, ground := Ground.data } (by simp) rfl; rw [hLi] at this; cases this
              have h12 : L.getD 12 false = false := by
                cases h : L.getD 12 false with
                | false => rfl
                | true => have := hcl 12 _ rfl h { on := 11, ground := Ground.data } (by simp) rfl; rw [h11] at this; cases this
              rcases d4 with d4 | ⟨own4, dis⟩
              · rw [hLi] at d4; cases d4
              rcases d6 with d6 | ⟨p6, d6, hh6, hb6⟩
              · rw [hLi] at d6; cases d6
              have d6 : u6 = _ := d6
              subst d6
              clear hdep hall
              simp only [putAll, Act.put, List.setIfInBounds_toArray, List.set_cons_zero, List.set_cons_succ] at hK ⊢
              (with_reducible apply appendBs2 (B := w.heap.size + 1) (l := bs.take k) (zs := [b])); (focus exact own4); (focus with_unfolding_all exact rfl); (focus with_unfolding_all exact rfl); (focus rfl); (focus exact All16.one hb)
              · intro q j hq hj
                obtain rfl : q = 0 := by omega
                rw [Nat.zero_mul, Nat.zero_add, Nat.zero_add]
                show _ = some (Value.int .i64 (b.getD j 0))
                exact cell_at hb6 (by omega)
              · simp; omega
              · exact hsz
              · intro v' w2 hown hd
                exact hK _ _ (.inr hown) (fun j oj hji _ hj _ h => VAdd_keep7 hLs h11 h12 j hji hj h) ⟨apd_below hd hw (by omega) (fun q hq => by have := (own_block_lt own4 hq).1; omega), (hd.block _ _ hbox (fun hq => by have := (own_block_lt own4 hq).1; omega)).1, Nat.le_trans hsz hd.grown.size⟩
            | 8 =>
              cases ho
              clear hdep
              simp only [putAll, Act.put, List.setIfInBounds_toArray, List.set_cons_zero, List.set_cons_succ] at hK ⊢
              go_wp2
              exact hK _ _ rfl (fun j oj hji _ _ _ h => VAdd_keep j hji (by omega) (fun _ _ h => h) h) ⟨hw, hbox, hsz⟩
            | 9 =>
              cases ho
              clear hdep
              simp only [putAll, Act.put, List.setIfInBounds_toArray, List.set_cons_zero, List.set_cons_succ] at hK ⊢
              go_wp2
              exact hK _ _ rfl (fun j oj hji _ _ _ h => VAdd_keep j hji (by omega) (fun _ _ h => h) h) ⟨hw, hbox, hsz⟩
            | 10 =>
              cases ho
              have d8 := (hdep { on := 8, ground := Ground.data } (by simp) rfl).2
              have d9 := (hdep { on := 9, ground := Ground.data } (by simp) rfl).2
              have d8 : u8 = _ := d8
              have d9 : u9 = _ := d9
              subst d8 d9
              clear hdep
              simp only [putAll, Act.put, List.setIfInBounds_toArray, List.set_cons_zero, List.set_cons_succ] at hK ⊢
              by_cases hck : c = k
              · (first | (exfalso; omega) | (subst hck; go_wp2; exact hK _ _ ⟨0, by first | rfl | simp, .inl (by omega)⟩ (fun j oj hji _ _ _ h => VAdd_keep j hji (by omega) (fun _ _ h => h) h) ⟨hw, hbox, hsz⟩))
              · go_wp2
                exact hK _ _ ⟨k * 16, by first | rfl | simp, .inr rfl⟩ (fun j oj hji _ _ _ h => VAdd_keep j hji (by omega) (fun _ _ h => h) h) ⟨hw, hbox, hsz⟩
            | 11 =>
              cases ho
              have d7 := (hdep { on := 7, ground := Ground.data } (by simp) rfl)
              have l7 := d7.1
              have d7 := d7.2
              have d10 := (hdep { on := 10, ground := Ground.data } (by simp) rfl).2
              have h12 : L.getD 12 false = false := by
                cases h : L.getD 12 false with
                | false => rfl
                | true => have := hcl 12 _ rfl h { on := 11, ground := Ground.data } (by simp) rfl; rw [hLi] at this; cases this
              rcases d7 with d7 | own7
              · rw [hLi] at d7; cases d7
              obtain ⟨o10, d10, ho10⟩ := d10
              have d10 : u10 = _ := d10
              subst d10
              clear hdep hall
              simp only [putAll, Act.put, List.setIfInBounds_toArray, List.set_cons_zero, List.set_cons_succ] at hK ⊢
              (with_reducible apply appendBs2 (B := w.heap.size + 1) (l := bs.take k ++ [b]) (zs := bs.drop k)); (focus exact own7); (focus with_unfolding_all exact rfl); (focus with_unfolding_all exact rfl); (focus (rw [List.length_drop]; have := HN.out; omega)); (focus exact H16.out.drop k)
              · intro q j hq hj
                rcases ho10 with h | rfl
                · omega
                rw [hw.cell (p := ⟨g, _, none⟩) hg, show k * 16 + (q * 16 + j) = (k + q) * 16 + j by omega, HC.out (k + q) j (by omega) hj, getD_drop]
              · simp; omega
              · exact hsz
              · intro v' w2 hown hd
                exact hK _ _ hown (fun j oj hji _ hj _ h => VAdd_keep11 hLs l7 h12 j hji hj h) ⟨apd_below hd hw (by omega) (fun q hq => by have := (own_block_lt own7 hq).1; omega), (hd.block _ _ hbox (fun hq => by have := (own_block_lt own7 hq).1; omega)).1, Nat.le_trans hsz hd.grown.size⟩
            | 12 =>
              cases ho
              have d11 := (hdep { on := 11, ground := Ground.data } (by simp) rfl).2
              have HD := Lib.hid d11; clear d11 hdep
              simp only [putAll, Act.put, List.setIfInBounds_toArray, List.set_cons_zero, List.set_cons_succ] at hK ⊢
              go_wp2
              exact hK _ _ HD.out (fun j oj hji _ _ _ h => VAdd_keep j hji (by omega) (fun _ _ h => h) h) ⟨hw, hbox, hsz⟩
            | i + 13 => simp at ho
          · intro L us w' hul hwc hL hv
            obtain ⟨u0, u1, u2, u3, u4, u5, u6, u7, u8, u9, u10, u11, u12, rfl⟩ := list13 us hul
            obtain ⟨hw, hbox, hsz⟩ := hwc
            have d12 : OwnBd w' (w.heap.size + 1) u12 (bs.take k ++ [b] ++ bs.drop k) := hv 12 (by decide)
            rw [← addL_new HP.out HNC.out] at d12
            obtain ⟨g', c', hu, _, _, hgw, _, _⟩ := d12.at (by rw [addL_new HP.out HNC.out]; simp; omega)
            subst hu
            have HD := Lib.hid (d12.base (show B ≤ w.heap.size + 1 by omega))
            clear hv d12 hL
            simp only [putAll, Act.put, List.setIfInBounds_toArray, List.set_cons_zero, List.set_cons_succ]
            go_wp2
            go_ret
            exact ⟨g', c', rfl, HD.out, hw, .inr (by omega)⟩
    · obtain rfl : k = n := by omega
      have hplace := HPL.out k HNO.out (by have := HN.out; omega) (.inl HN.out)
      have HP := Lib.hid hplace; clear hplace
      have HNC : Hid (¬ (k < bs.length ∧ bs.getD k [] = b)) := Lib.hid (fun h => by have := HN.out; omega)
      go_upto_region 2 with fail
      (refine wp_region_quiet_junk (by kernel_rfl) (by kernel_rfl) ?_; (repeat (first | ((with_reducible apply loadQG (ty := 28) (n := 16) (l := x) Try.underlying28); (focus with_unfolding_all exact rfl); (focus exact HXL.out); (focus (rintro _ ⟨p, rfl⟩ j hj; (try simp only [junk_junk]); exact (cell?_junk wr _ _ g _ hgr).trans ((hbel.cell (p := ⟨g, k * 16 + j, none⟩) hg).trans (HCX.out j hj)))); (focus rfl); (focus kernel_rfl); (focus with_unfolding_all exact rfl)) | ((with_reducible apply loadQG (ty := 28) (n := 16) (l := b) (o := 0) Try.underlying28); (focus with_unfolding_all exact rfl); (focus exact hb); (focus (rintro _ ⟨p, rfl⟩ j hj; rw [Nat.zero_add]; exact cell_at (by (repeat' (first | (with_reducible assumption) | ((with_reducible refine heap_new ?_); (focus ((try simp only [World.size_alloc, size_junk, size_setRow, Array.size_append]) <;> omega))) | ((with_reducible refine heap_old ?_ ?_); (focus ((try simp only [World.size_alloc, size_junk, size_setRow, Array.size_append]) <;> omega))) | ((with_reducible refine heap_junk ?_ ?_); (focus ((try simp only [World.size_alloc, size_junk, size_setRow, Array.size_append]) <;> omega))) | ((with_reducible apply heap_setRow_same)) | ((with_reducible refine heap_setRow_other ?_ ?_); (focus ((try simp only [World.size_alloc, size_junk, size_setRow, Array.size_append]) <;> omega)))))) (by omega))); (focus rfl); (focus kernel_rfl); (focus with_unfolding_all exact rfl)) | quiet_step ((go_at_call 60; with_reducible refine Calls.junk_to (HLT.out _) (fun d os => ?_); (try simp only [junk_junk, Array.append_assoc]); with_reducible exact ⟨⟨d, _⟩, rfl⟩)))); refine wpQuiet_nil ?_; intro _ hw'; obtain ⟨⟨dq, osq⟩, hw''⟩ := hw'; subst hw'')
      go_upto_region 4 with fail
      (refine wp_region_quiet_junk (by kernel_rfl) (by kernel_rfl) ?_; (repeat (first | ((with_reducible apply loadQG (ty := 28) (n := 16) (l := x) Try.underlying28); (focus with_unfolding_all exact rfl); (focus exact HXL.out); (focus (rintro _ ⟨p, rfl⟩ j hj; (try simp only [junk_junk]); exact (cell?_junk wr _ _ g _ hgr).trans ((hbel.cell (p := ⟨g, k * 16 + j, none⟩) hg).trans (HCX.out j hj)))); (focus rfl); (focus kernel_rfl); (focus with_unfolding_all exact rfl)) | ((with_reducible apply loadQG (ty := 28) (n := 16) (l := b) (o := 0) Try.underlying28); (focus with_unfolding_all exact rfl); (focus exact hb); (focus (rintro _ ⟨p, rfl⟩ j hj; rw [Nat.zero_add]; exact cell_at (by (repeat' (first | (with_reducible assumption) | ((with_reducible refine heap_new ?_); (focus ((try simp only [World.size_alloc, size_junk, size_setRow, Array.size_append]) <;> omega))) | ((with_reducible refine heap_old ?_ ?_); (focus ((try simp only [World.size_alloc, size_junk, size_setRow, Array.size_append]) <;> omega))) | ((with_reducible refine heap_junk ?_ ?_); (focus ((try simp only [World.size_alloc, size_junk, size_setRow, Array.size_append]) <;> omega))) | ((with_reducible apply heap_setRow_same)) | ((with_reducible refine heap_setRow_other ?_ ?_); (focus ((try simp only [World.size_alloc, size_junk, size_setRow, Array.size_append]) <;> omega)))))) (by omega))); (focus rfl); (focus kernel_rfl); (focus with_unfolding_all exact rfl)) | quiet_step ((go_at_call 60; with_reducible refine Calls.junk_to (HLT.out _) (fun d os => ?_); (try simp only [junk_junk, Array.append_assoc]); with_reducible exact ⟨⟨d, _⟩, rfl⟩)))); refine wpQuiet_nil ?_; intro _ hw'; obtain ⟨⟨dq, osq⟩, hw''⟩ := hw'; subst hw'')
      go_upto_region 6 with fail
      refine wp_region_steps2 [some 33, some 34, some 35, some 36, some 37, some 38, some 39, some 40, some 41, some 42, some 43, some 44, some 4] (VAdd bs b k k c g (w.heap.size + 1)) (fun w' => Below w.heap.size w w' ∧ w'.heap[w.heap.size]? = some (.cells (cellsB b) 28 (0, 0)) ∧ w.heap.size + 1 ≤ w'.heap.size) (by kernel_rfl) (by kernel_rfl) (by kernel_rfl) ⟨below_drawn (by (repeat' (first | (with_reducible exact RowKit.Below.refl _ _) | (with_reducible assumption) | (with_reducible refine Below.drewN ?_ _) | (with_reducible refine below_junk0 ?_ ?_ _ _) | (with_reducible refine RowKit.Below.alloc ?_ ?_ _) | (with_reducible refine below_setRow0 ?_ ?_) | (with_reducible refine RowKit.Below.setCell ?_ ?_ _) | (with_reducible refine RowKit.Below.drew ?_) | go_size | (simp only [size_junk]; go_size) | (simp only [World.size_alloc, size_junk, size_setRow]; omega) | omega))), heap_drawn (by (repeat' (first | (with_reducible assumption) | ((with_reducible refine heap_new ?_); (focus ((try simp only [World.size_alloc, size_junk, size_setRow, Array.size_append]) <;> omega))) | ((with_reducible refine heap_old ?_ ?_); (focus ((try simp only [World.size_alloc, size_junk, size_setRow, Array.size_append]) <;> omega))) | ((with_reducible refine heap_junk ?_ ?_); (focus ((try simp only [World.size_alloc, size_junk, size_setRow, Array.size_append]) <;> omega))) | ((with_reducible apply heap_setRow_same)) | ((with_reducible refine heap_setRow_other ?_ ?_); (focus ((try simp only [World.size_alloc, size_junk, size_setRow, Array.size_append]) <;> omega)))))), size_drawn (by ((try simp only [World.size_alloc, size_junk, size_setRow, Array.size_append]) <;> omega))⟩ ?_ ?_
      · intro i o ho L us w' K hul hLs hLi hcl hall hwc hdep hK
        obtain ⟨u0, u1, u2, u3, u4, u5, u6, u7, u8, u9, u10, u11, u12, rfl⟩ := list13 us hul
        obtain ⟨hw, hbox, hsz⟩ := hwc
        clear hbel hlt
        have hLs : L.size = 13 := hLs
        match i with
        | 0 =>
          cases ho
          clear hdep
          simp only [putAll, Act.put, List.setIfInBounds_toArray, List.set_cons_zero, List.set_cons_succ] at hK ⊢
          go_wp2
          exact hK _ _ (.inr (.inr ⟨_, rfl, by omega, heap_new rfl⟩)) (fun j oj hji _ _ _ h => VAdd_keep j hji (by omega) (fun _ _ h => heap_old (Array.getElem?_eq_some_iff.1 h).1 h) h) ⟨hw.alloc (by omega) _, heap_old (by omega) hbox, by simp; omega⟩
        | 1 =>
          cases ho
          clear hdep
          simp only [putAll, Act.put, List.setIfInBounds_toArray, List.set_cons_zero, List.set_cons_succ] at hK ⊢
          go_wp2
          exact hK _ _ rfl (fun j oj hji _ _ _ h => VAdd_keep j hji (by omega) (fun _ _ h => h) h) ⟨hw, hbox, hsz⟩
        | 2 =>
          cases ho
          clear hdep
          simp only [putAll, Act.put, List.setIfInBounds_toArray, List.set_cons_zero, List.set_cons_succ] at hK ⊢
          go_wp2
          exact hK _ _ rfl (fun j oj hji _ _ _ h => VAdd_keep j hji (by omega) (fun _ _ h => h) h) ⟨hw, hbox, hsz⟩
        | 3 =>
          cases ho
          have d1 := (hdep { on := 1, ground := Ground.data } (by simp) rfl).2
          have d2 := (hdep { on := 2, ground := Ground.data } (by simp) rfl).2
          have d1 : u1 = _ := d1
          have d2 : u2 = _ := d2
          subst d1 d2
          clear hdep
          simp only [putAll, Act.put, List.setIfInBounds_toArray, List.set_cons_zero, List.set_cons_succ] at hK ⊢
          go_wp2
          exact hK _ _ rfl (fun j oj hji _ _ _ h => VAdd_keep j hji (by omega) (fun _ _ h => h) h) ⟨hw, hbox, hsz⟩
        | 4 =>
          cases ho
          have d0 := (hdep { on := 0, ground := Ground.data } (by simp) rfl).2
          have d3 := (hdep { on := 3, ground := Ground.data } (by simp) rfl).2
          have d3 : u3 = _ := d3
          subst d3
          have h7 : L.getD 7 false = false := by
            cases h : L.getD 7 false with
            | false => rfl
            | true => have := hcl 7 _ rfl h { on := 4, ground := Ground.data } (by simp) rfl; rw [hLi] at this; cases this
          have h11 : L.getD 11 false = false := by
            cases h : L.getD 11 false with
            | false => rfl
            | true => have := hcl 11 _ rfl h { on := 7, ground := Ground.data } (by simp) rfl; rw [h7] at this; cases this
          have h12 : L.getD 12 false = false := by
            cases h : L.getD 12 false with
            | false => rfl
            | true => have := hcl 12 _ rfl h { on := 11, ground := Ground.data } (by simp) rfl; rw [h11] at this; cases this
          rcases d0 with d0 | d0 | ⟨h0, d0, hh0, hb0⟩
          · rw [hLi] at d0; cases d0
          · rw [h7] at d0; cases d0
          have d0 : u0 = _ := d0
          subst d0
          have hv6 := fun hl => hall 6 (by decide) hl
          clear hdep hall
          simp only [putAll, Act.put, List.setIfInBounds_toArray, List.set_cons_zero, List.set_cons_succ] at hK ⊢
          (with_reducible apply appendBs2 (B := w.heap.size + 1) (l := []) (zs := bs.take k)); (focus exact OwnBd.empty hh0 hb0); (focus with_unfolding_all exact rfl); (focus with_unfolding_all exact rfl); (focus (rw [List.length_take]; have := HN.out; omega)); (focus exact H16.out.take k)
          · intro q j hq hj
            rw [hw.cell (p := ⟨g, _, none⟩) hg, Nat.zero_add, HC.out q j (by omega) hj, getD_take hq]
          · simp; omega
          · exact hsz
          · intro v' w2 hown hd
            rw [List.nil_append] at hown
            refine hK _ _ (.inr ⟨hown, fun h6 q hq => ?_⟩) (fun j oj hji _ hj _ h => VAdd_keep4 hLs rfl hb0 hb hd h7 h11 h12 j hji hj h) ⟨apd_below hd hw (by omega) (fun q hq => by simp [Value.ownBlock] at hq; omega), (hd.block _ _ hbox (by simp [Value.ownBlock]; omega)).1, Nat.le_trans hsz hd.grown.size⟩
            have h6' : L.getD 6 false = true := by rw [getD_set_ne false (by omega)] at h6; exact h6
            rcases hv6 h6' with h | ⟨p6, hp, _, hb6⟩
            · rw [h7] at h; cases h
            have hp : u6 = _ := hp
            subst hp
            have := (hd.block p6 _ hb6 (by
              intro he
              simp only [Value.ownBlock, Option.some.injEq] at he
              subst he
              rw [hb0] at hb6
              have h9 := congrArg (fun o => match o with | some (Obj.cells cs _ _) => cs.size | _ => 0) hb6
              simp [size_cellsB, hb] at h9)).2
            intro he
            have he : some p6 = some q := he
            rw [he] at this
            exact this hq
        | 5 =>
          cases ho
          clear hdep
          simp only [putAll, Act.put, List.setIfInBounds_toArray, List.set_cons_zero, List.set_cons_succ] at hK ⊢
          go_wp2_with ((with_reducible apply loadB (n := 16) (ty := 28) Try.underlying28); (focus with_unfolding_all exact rfl); (focus (exact hbox; done)); (focus rfl); (focus kernel_rfl); (focus exact hb))
          exact hK _ _ rfl (fun j oj hji _ _ _ h => VAdd_keep j hji (by omega) (fun _ _ h => h) h) ⟨hw, hbox, hsz⟩
        | 6 =>
          cases ho
          have d5 := (hdep { on := 5, ground := Ground.data } (by simp) rfl).2
          have d5 : u5 = _ := d5
          subst d5
          clear hdep
          simp only [putAll, Act.put, List.setIfInBounds_toArray, List.set_cons_zero, List.set_cons_succ] at hK ⊢
          go_wp2_with ((with_reducible apply buildB); (focus with_unfolding_all exact rfl); (focus exact hb))
          exact hK _ _ (.inr ⟨_, rfl, by omega, heap_new rfl⟩) (fun j oj hji _ _ _ h => VAdd_keep6 hLs rfl rfl (Nat.le_refl _) j hji (fun _ _ h => heap_old (Array.getElem?_eq_some_iff.1 h).1 h) h) ⟨hw.alloc (by omega) _, heap_old (by omega) hbox, by simp; omega⟩
        | 7 =>
          cases ho
          have d4 := (hdep { on := 4, ground := Ground.data } (by simp) rfl).2
          have d6 := (hdep { on := 6, ground := Ground.data } (by simp) rfl)
          have l6 := d6.1
          have d6 := d6.2
          have h11 : L.getD 11 false = false := by
            cases h : L.getD 11 false with
            | false => rfl
            | true => have := hcl 11 _ rfl h { on := 7, ground := Ground.data } (by simp) rfl; rw [hLi] at this; cases this
          have h12 : L.getD 12 false = false := by
            cases h : L.getD 12 false with
            | false => rfl
            | true => have := hcl 12 _ rfl h { on := 11, ground := Ground.data } (by simp) rfl; rw [h11] at this; cases this
          rcases d4 with d4 | ⟨own4, dis⟩
          · rw [hLi] at d4; cases d4
          rcases d6 with d6 | ⟨p6, d6, hh6, hb6⟩
          · rw [hLi] at d6; cases d6
          have d6 : u6 = _ := d6
          subst d6
          clear hdep hall
          simp only [putAll, Act.put, List.setIfInBounds_toArray, List.set_cons_zero, List.set_cons_succ] at hK ⊢
          (with_reducible apply appendBs2 (B := w.heap.size + 1) (l := bs.take k) (zs := [b])); (focus exact own4); (focus with_unfolding_all exact rfl); (focus with_unfolding_all exact rfl); (focus rfl); (focus exact All16.one hb)
          · intro q j hq hj
            obtain rfl : q = 0 := by omega
            rw [Nat.zero_mul, Nat.zero_add, Nat.zero_add]
            show _ = some (Value.int .i64 (b.getD j 0))
            exact cell_at hb6 (by omega)
          · simp; omega
          · exact hsz
          · intro v' w2 hown hd
            exact hK _ _ (.inr hown) (fun j oj hji _ hj _ h => VAdd_keep7 hLs h11 h12 j hji hj h) ⟨apd_below hd hw (by omega) (fun q hq => by have := (own_block_lt own4 hq).1; omega), (hd.block _ _ hbox (fun hq => by have := (own_block_lt own4 hq).1; omega)).1, Nat.le_trans hsz hd.grown.size⟩
        | 8 =>
          cases ho
          clear hdep
          simp only [putAll, Act.put, List.setIfInBounds_toArray, List.set_cons_zero, List.set_cons_succ] at hK ⊢
          go_wp2
          exact hK _ _ rfl (fun j oj hji _ _ _ h => VAdd_keep j hji (by omega) (fun _ _ h => h) h) ⟨hw, hbox, hsz⟩
        | 9 =>
          cases ho
          clear hdep
          simp only [putAll, Act.put, List.setIfInBounds_toArray, List.set_cons_zero, List.set_cons_succ] at hK ⊢
          go_wp2
          exact hK _ _ rfl (fun j oj hji _ _ _ h => VAdd_keep j hji (by omega) (fun _ _ h => h) h) ⟨hw, hbox, hsz⟩
        | 10 =>
          cases ho
          have d8 := (hdep { on := 8, ground := Ground.data } (by simp) rfl).2
          have d9 := (hdep { on := 9, ground := Ground.data } (by simp) rfl).2
          have d8 : u8 = _ := d8
          have d9 : u9 = _ := d9
          subst d8 d9
          clear hdep
          simp only [putAll, Act.put, List.setIfInBounds_toArray, List.set_cons_zero, List.set_cons_succ] at hK ⊢
          by_cases hck : c = k
          · (first | (exfalso; omega) | (subst hck; go_wp2; exact hK _ _ ⟨0, by first | rfl | simp, .inl (by omega)⟩ (fun j oj hji _ _ _ h => VAdd_keep j hji (by omega) (fun _ _ h => h) h) ⟨hw, hbox, hsz⟩))
          · go_wp2
            exact hK _ _ ⟨k * 16, by first | rfl | simp, .inr rfl⟩ (fun j oj hji _ _ _ h => VAdd_keep j hji (by omega) (fun _ _ h => h) h) ⟨hw, hbox, hsz⟩
        | 11 =>
          cases ho
          have d7 := (hdep { on := 7, ground := Ground.data } (by simp) rfl)
          have l7 := d7.1
          have d7 := d7.2
          have d10 := (hdep { on := 10, ground := Ground.data } (by simp) rfl).2
          have h12 : L.getD 12 false = false := by
            cases h : L.getD 12 false with
            | false => rfl
            | true => have := hcl 12 _ rfl h { on := 11, ground := Ground.data } (by simp) rfl; rw [hLi] at this; cases this
          rcases d7 with d7 | own7
          · rw [hLi] at d7; cases d7
          obtain ⟨o10, d10, ho10⟩ := d10
          have d10 : u10 = _ := d10
          subst d10
          clear hdep hall
          simp only [putAll, Act.put, List.setIfInBounds_toArray, List.set_cons_zero, List.set_cons_succ] at hK ⊢
          (with_reducible apply appendBs2 (B := w.heap.size + 1) (l := bs.take k ++ [b]) (zs := bs.drop k)); (focus exact own7); (focus with_unfolding_all exact rfl); (focus with_unfolding_all exact rfl); (focus (rw [List.length_drop]; have := HN.out; omega)); (focus exact H16.out.drop k)
          · intro q j hq hj
            rcases ho10 with h | rfl
            · omega
            rw [hw.cell (p := ⟨g, _, none⟩) hg, show k * 16 + (q * 16 + j) = (k + q) * 16 + j by omega, HC.out (k + q) j (by omega) hj, getD_drop]
          · simp; omega
          · exact hsz
          · intro v' w2 hown hd
            exact hK _ _ hown (fun j oj hji _ hj _ h => VAdd_keep11 hLs l7 h12 j hji hj h) ⟨apd_below hd hw (by omega) (fun q hq => by have := (own_block_lt own7 hq).1; omega), (hd.block _ _ hbox (fun hq => by have := (own_block_lt own7 hq).1; omega)).1, Nat.le_trans hsz hd.grown.size⟩
        | 12 =>
          cases ho
          have d11 := (hdep { on := 11, ground := Ground.data } (by simp) rfl).2
          have HD := Lib.hid d11; clear d11 hdep
          simp only [putAll, Act.put, List.setIfInBounds_toArray, List.set_cons_zero, List.set_cons_succ] at hK ⊢
          go_wp2
          exact hK _ _ HD.out (fun j oj hji _ _ _ h => VAdd_keep j hji (by omega) (fun _ _ h => h) h) ⟨hw, hbox, hsz⟩
        | i + 13 => simp at ho
      · intro L us w' hul hwc hL hv
        obtain ⟨u0, u1, u2, u3, u4, u5, u6, u7, u8, u9, u10, u11, u12, rfl⟩ := list13 us hul
        obtain ⟨hw, hbox, hsz⟩ := hwc
        have d12 : OwnBd w' (w.heap.size + 1) u12 (bs.take k ++ [b] ++ bs.drop k) := hv 12 (by decide)
        rw [← addL_new HP.out HNC.out] at d12
        obtain ⟨g', c', hu, _, _, hgw, _, _⟩ := d12.at (by rw [addL_new HP.out HNC.out]; simp; omega)
        subst hu
        have HD := Lib.hid (d12.base (show B ≤ w.heap.size + 1 by omega))
        clear hv d12 hL
        simp only [putAll, Act.put, List.setIfInBounds_toArray, List.set_cons_zero, List.set_cons_succ]
        go_wp2
        go_ret
        exact ⟨g', c', rfl, HD.out, hw, .inr (by omega)⟩
end Go.Proofs.Ytgkfhppmopmgjaa
