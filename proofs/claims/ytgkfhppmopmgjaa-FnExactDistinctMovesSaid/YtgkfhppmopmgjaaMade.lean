/- Walks of single functions of the given Go program, printed by a program of mine; each theorem says what the function returns. -/
import Derived.Test.YtgkfhppmopmgjaaRows
import Derived.WalkKit
import Derived.WalkSpells
import Derived.WalkLawsBesides
import Derived.Handy
import Derived.Deep.QuietTactic
import Derived.BigQuiet
import Derived.Lib.Hide
import Derived.Test.YtgkfhppmopmgjaaSlidesL
import Derived.Deep.Cut
set_option linter.all false
namespace Go.Proofs.Ytgkfhppmopmgjaa
open Go.RowKit Pl Go.Lib Go.Shelf

/-- What the operations of the region that slides once more have told. -/
def VMade (b l : List Int) (k dk g n c : Nat) (wr : World) : Nat → List Value → World → Prop
  | 0, us, _ => us.getD 0 undef = aggB (preB b l k)
  | 1, us, _ => us.getD 1 undef = .slice (some ⟨g, 0, none⟩) n c
  | 2, us, _ => us.getD 2 undef = .int .i64 k
  | 3, us, _ => us.getD 3 undef = .pointer (some ⟨g, k, none⟩)
  | 4, us, _ => us.getD 4 undef = .int .i64 dk
  | 5, us, _ => us.getD 5 undef = .tuple #[aggB (slideB (preB b l k) dk), .int .i64 (scoreB (preB b l k) dk)]
  | 6, us, _ => us.getD 6 undef = .tuple #[aggB (slideB (preB b l k) dk), .int .i64 (scoreB (preB b l k) dk)]
  | 7, us, _ => us.getD 7 undef = aggB (slideB (preB b l k) dk)
  | 8, us, _ => us.getD 8 undef = .int .i64 (scoreB (preB b l k) dk)
  | 9, us, w => ∃ h, us.getD 9 undef = .pointer (some ⟨h, 0, none⟩) ∧ wr.heap.size ≤ h ∧ ∃ cur, w.heap[h]? = some (Obj.cells (cur) 28 (0, 0)) ∧ cur.size = 16
  | 10, us, w => ∃ h, us.getD 9 undef = .pointer (some ⟨h, 0, none⟩) ∧ w.heap[h]? = some (.cells (cellsB (slideB (preB b l k) dk)) 28 (0, 0))
  | 11, us, _ => us.getD 11 undef = .int .i64 (scoreB (preB b l k) dk)
  | _, _, _ => True
theorem getD_set_other {us : List Value} {i j : Nat} {v : Value} (h : j ≠ i) : (us.set i v).getD j undef = us.getD j undef := by
  simp [List.getElem?_set_ne (Ne.symm h)]
theorem VMade_keeps {b l : List Int} {k dk g n c : Nat} {wr : World} {i : Nat} {v : Value} {us : List Value} {w w' : World} (j : Nat) (hji : j ≠ i) (h9 : j = 10 → i ≠ 9)
    (hb : ∀ (h : Nat) (cur : Array Value), w.heap[h]? = some (Obj.cells (cur) 28 (0, 0)) → w'.heap[h]? = some (Obj.cells (cur) 28 (0, 0))) (h : VMade b l k dk g n c wr j us w) : VMade b l k dk g n c wr j (us.set i v) w' := by
  unfold VMade at *
  split at h
  case h_10 =>
    obtain ⟨q, h1, h2, cur, h3, h4⟩ := h
    exact ⟨q, by rw [getD_set_other hji]; exact h1, h2, cur, hb _ _ h3, h4⟩
  case h_11 =>
    obtain ⟨q, h1, h2⟩ := h
    exact ⟨q, by rw [getD_set_other (Ne.symm (h9 rfl))]; exact h1, hb _ _ h2⟩
  all_goals first | trivial | (show List.getD (us.set i v) _ undef = _; rw [getD_set_other hji]; exact h)
theorem VMade_store {b l : List Int} {k dk g n c : Nat} {wr : World} {v : Value} {us : List Value} {w : World} {h : Nat} {cur cs : Array Value} (j : Nat) (hji : j ≠ 10) (hh : w.heap[h]? = some (Obj.cells (cur) 28 (0, 0))) (hcs : cs.size = 16)
    (hv : VMade b l k dk g n c wr j us w) : VMade b l k dk g n c wr j (us.set 10 v) (w.setRow h cs) := by
  unfold VMade at *
  split at hv
  case h_10 =>
    obtain ⟨q, h1, h2, cur', h3, h4⟩ := hv
    refine ⟨q, by rw [getD_set_other hji]; exact h1, h2, ?_⟩
    by_cases hq : q = h
    · subst hq; exact ⟨cs, heap_setRow_same hh, hcs⟩
    · exact ⟨cur', heap_setRow_other hq h3, h4⟩
  case h_11 => exact absurd rfl hji
  all_goals first | trivial | (show List.getD (us.set 10 v) _ undef = _; rw [getD_set_other hji]; exact hv)
theorem below_keeps {w w' : World} (hb : Below w.heap.size w w') (h : Nat) (cur : Array Value) (hh : w.heap[h]? = some (Obj.cells (cur) 28 (0, 0))) : w'.heap[h]? = some (Obj.cells (cur) 28 (0, 0)) := by
  rw [hb.block h (Array.getElem?_eq_some_iff.1 hh).1]; exact hh
theorem list12 {α : Type} (l : List α) (h : l.length = 12) : ∃ a b c d e f g i j k m n, l = [a, b, c, d, e, f, g, i, j, k, m, n] := by
  match l, h with
  | [a, b, c, d, e, f, g, i, j, k, m, n], _ => exact ⟨a, b, c, d, e, f, g, i, j, k, m, n, rfl⟩
set_option maxRecDepth 100000 in
set_option maxHeartbeats 4000000 in
theorem l5Made_any (b : List Int) (hb : b.length = 16) (ok : okL b) (l : List Int) (hd : okD l) (g c : Nat) (w : World) (hg : g < w.heap.size) (hn : l.length < 1000000000)
    (hc : ∀ k, k < l.length → w.cell? ⟨g, k, none⟩ = some (.int .i64 (l.getD k 0))) :
    Calls Try.prog 47 #[aggB b, .slice (some ⟨g, 0, none⟩) l.length c] w fun e w' => e = .returned (.tuple #[aggB (preB b l l.length), .int .i64 (preS b l l.length)]) ∧ RowKit.Below w.heap.size w w' := by
  obtain ⟨n, hN⟩ : ∃ n, n = l.length := ⟨_, rfl⟩
  rw [← hN] at hc hn ⊢
  have HN := Lib.hid hN; clear hN
  have HC := Lib.hid hc; clear hc
  go_enter Try.func47, Try.ntmps47
  go_wp2_with fail
  go_loopw [6, 7] (fun v6 v7 wr => ∃ k : Nat, k ≤ n ∧ v7 = .int .i64 k ∧ v6 = .int .i64 (preS b l k) ∧ wr.heap[w.heap.size]? = some (.cells (cellsB (preB b l k)) 28 (0, 0)) ∧ wr.heap[w.heap.size + 1]? = some (.cells (cellsB [0, 0, 0, 0, 0, 0, 0, 0, 0, 0, 0, 0, 0, 0, 0, 0]) 28 (0, 0)) ∧ Below w.heap.size w wr ∧ w.heap.size + 2 ≤ wr.heap.size)
    (fun _ v7 _ => n - (intOf v7).toNat)
  case atStart => exact ⟨0, by omega, rfl, rfl, by show _ = some (Obj.cells (cellsB b) 28 (0, 0)); (repeat' (first | (with_reducible assumption) | ((with_reducible refine heap_new ?_); (focus ((try simp only [World.size_alloc, size_junk, size_setRow, Array.size_append]) <;> omega))) | ((with_reducible refine heap_old ?_ ?_); (focus ((try simp only [World.size_alloc, size_junk, size_setRow, Array.size_append]) <;> omega))) | ((with_reducible refine heap_junk ?_ ?_); (focus ((try simp only [World.size_alloc, size_junk, size_setRow, Array.size_append]) <;> omega))) | ((with_reducible apply heap_setRow_same)) | ((with_reducible refine heap_setRow_other ?_ ?_); (focus ((try simp only [World.size_alloc, size_junk, size_setRow, Array.size_append]) <;> omega))))), by rw [show cellsB [0, 0, 0, 0, 0, 0, 0, 0, 0, 0, 0, 0, 0, 0, 0, 0] = #[.int .i64 0, .int .i64 0, .int .i64 0, .int .i64 0, .int .i64 0, .int .i64 0, .int .i64 0, .int .i64 0, .int .i64 0, .int .i64 0, .int .i64 0, .int .i64 0, .int .i64 0, .int .i64 0, .int .i64 0, .int .i64 0] from rfl]; (repeat' (first | (with_reducible assumption) | ((with_reducible refine heap_new ?_); (focus ((try simp only [World.size_alloc, size_junk, size_setRow, Array.size_append]) <;> omega))) | ((with_reducible refine heap_old ?_ ?_); (focus ((try simp only [World.size_alloc, size_junk, size_setRow, Array.size_append]) <;> omega))) | ((with_reducible refine heap_junk ?_ ?_); (focus ((try simp only [World.size_alloc, size_junk, size_setRow, Array.size_append]) <;> omega))) | ((with_reducible apply heap_setRow_same)) | ((with_reducible refine heap_setRow_other ?_ ?_); (focus ((try simp only [World.size_alloc, size_junk, size_setRow, Array.size_append]) <;> omega))))), by (repeat' (first | (with_reducible exact RowKit.Below.refl _ _) | (with_reducible assumption) | (with_reducible refine Below.drewN ?_ _) | (with_reducible refine below_junk0 ?_ ?_ _ _) | (with_reducible refine RowKit.Below.alloc ?_ ?_ _) | (with_reducible refine below_setRow0 ?_ ?_) | (with_reducible refine RowKit.Below.setCell ?_ ?_ _) | (with_reducible refine RowKit.Below.drew ?_) | go_size | (simp only [size_junk]; go_size) | (simp only [World.size_alloc, size_junk, size_setRow]; omega) | omega)), by ((try simp only [World.size_alloc, size_junk, size_setRow, Array.size_append]) <;> omega)⟩
  case round =>
    obtain ⟨k, hk, rfl, rfl, hb0, hbz, hbel, hlt⟩ := hrel
    have hpl : (preB b l k).length = 16 := preB_length hb l k
    have hpo := preB_ok ok l k
    have hps := preS_bd ok l k
    rcases Nat.lt_or_ge k n with hkn | hkn
    · obtain ⟨dk, hdk⟩ := Int.eq_ofNat_of_zero_le (hd k (by have := HN.out; omega)).1
      have hdk4 : dk < 4 := by have := (hd k (by have := HN.out; omega)).2; omega
      have hcell : wr.cell? ⟨g, k, none⟩ = some (.int .i64 (dk : Int)) := by rw [hbel.cell (p := ⟨g, k, none⟩) hg, HC.out k hkn, hdk]
      have hsb := scoreB_bd hpo dk
      have hgr : g < wr.heap.size := Nat.lt_of_lt_of_le hg hbel.size
      have HD := Lib.hid hdk; clear hdk
      go_upto_region 5 with fail
      refine wp_region_steps [some 17, some 18, some 19, some 20, some 21, some 22, some 16, some 23, some 24, some 8, none, some 9] (VMade b l k dk g n c wr) (fun w' => Below wr.heap.size wr w') (by kernel_rfl) (by kernel_rfl) (by kernel_rfl) (Below.drewN (Below.refl _ _) 1) ?_ ?_
      · intro i o ho us w' K hul hw hdep hK
        obtain ⟨u0, u1, u2, u3, u4, u5, u6, u7, u8, u9, u10, u11, rfl⟩ := list12 us hul
        have hcw : w'.cell? ⟨g, k, none⟩ = some (.int .i64 (dk : Int)) := by rw [hw.cell (p := ⟨g, k, none⟩) hgr, hcell]
        have hbw : w'.heap[w.heap.size]? = some (.cells (cellsB (preB b l k)) 28 (0, 0)) := by rw [hw.block _ (by omega)]; exact hb0
        match i with
        | 0 =>
          cases ho
          clear hdep
          simp only [putAll, Act.put, List.setIfInBounds_toArray, List.set_cons_zero, List.set_cons_succ] at hK ⊢
          go_wp2_with ((with_reducible apply loadB (n := 16) (ty := 28) Try.underlying28); (focus with_unfolding_all exact rfl); (focus ((repeat' (first | (with_reducible assumption) | ((with_reducible refine heap_new ?_); (focus ((try simp only [World.size_alloc, size_junk, size_setRow, Array.size_append]) <;> omega))) | ((with_reducible refine heap_old ?_ ?_); (focus ((try simp only [World.size_alloc, size_junk, size_setRow, Array.size_append]) <;> omega))) | ((with_reducible refine heap_junk ?_ ?_); (focus ((try simp only [World.size_alloc, size_junk, size_setRow, Array.size_append]) <;> omega))) | ((with_reducible apply heap_setRow_same)) | ((with_reducible refine heap_setRow_other ?_ ?_); (focus ((try simp only [World.size_alloc, size_junk, size_setRow, Array.size_append]) <;> omega))))); done)); (focus rfl); (focus kernel_rfl); (focus exact hpl))
          exact hK _ _ rfl (fun j oj hji _ _ h => VMade_keeps j hji (by omega) (fun _ _ h => h) h) hw
        | 1 =>
          cases ho
          clear hdep
          simp only [putAll, Act.put, List.setIfInBounds_toArray, List.set_cons_zero, List.set_cons_succ] at hK ⊢
          go_wp2
          exact hK _ _ rfl (fun j oj hji _ _ h => VMade_keeps j hji (by omega) (fun _ _ h => h) h) hw
        | 2 =>
          cases ho
          clear hdep
          simp only [putAll, Act.put, List.setIfInBounds_toArray, List.set_cons_zero, List.set_cons_succ] at hK ⊢
          go_wp2
          exact hK _ _ rfl (fun j oj hji _ _ h => VMade_keeps j hji (by omega) (fun _ _ h => h) h) hw
        | 3 =>
          cases ho
          have d1 : VMade b l k dk g n c wr 1 _ w' := hdep { on := 1, ground := Ground.data } (by simp) rfl
          have d1 : u1 = _ := d1
          subst d1
          have d2 : VMade b l k dk g n c wr 2 _ w' := hdep { on := 2, ground := Ground.data } (by simp) rfl
          have d2 : u2 = _ := d2
          subst d2
          clear hdep
          simp only [putAll, Act.put, List.setIfInBounds_toArray, List.set_cons_zero, List.set_cons_succ] at hK ⊢
          go_wp2
          exact hK _ _ rfl (fun j oj hji _ _ h => VMade_keeps j hji (by omega) (fun _ _ h => h) h) hw
        | 4 =>
          cases ho
          have d3 : VMade b l k dk g n c wr 3 _ w' := hdep { on := 3, ground := Ground.data } (by simp) rfl
          have d3 : u3 = _ := d3
          subst d3
          clear hdep
          simp only [putAll, Act.put, List.setIfInBounds_toArray, List.set_cons_zero, List.set_cons_succ] at hK ⊢
          go_wp2
          exact hK _ _ rfl (fun j oj hji _ _ h => VMade_keeps j hji (by omega) (fun _ _ h => h) h) hw
        | 5 =>
          cases ho
          have d0 : VMade b l k dk g n c wr 0 _ w' := hdep { on := 0, ground := Ground.data } (by simp) rfl
          have d0 : u0 = _ := d0
          subst d0
          have d4 : VMade b l k dk g n c wr 4 _ w' := hdep { on := 4, ground := Ground.data } (by simp) rfl
          have d4 : u4 = _ := d4
          subst d4
          clear hdep
          simp only [putAll, Act.put, List.setIfInBounds_toArray, List.set_cons_zero, List.set_cons_succ] at hK ⊢
          go_wp2_with (go_at_call 52; refine (l2Slide_any (preB b l k) hpl hpo dk hdk4 _).mono ?_; rintro e w1 ⟨rfl, hb1⟩)
          refine hK _ _ rfl (fun j oj hji _ _ h => VMade_keeps j hji (by omega) (below_keeps hb1) h) (hw.trans (hb1.mono hw.size))
        | 6 =>
          cases ho
          have d5 : VMade b l k dk g n c wr 5 _ w' := hdep { on := 5, ground := Ground.data } (by simp) rfl
          have d5 : u5 = _ := d5
          subst d5
          clear hdep
          simp only [putAll, Act.put, List.setIfInBounds_toArray, List.set_cons_zero, List.set_cons_succ] at hK ⊢
          go_wp2
          exact hK _ _ rfl (fun j oj hji _ _ h => VMade_keeps j hji (by omega) (fun _ _ h => h) h) hw
        | 7 =>
          cases ho
          have d6 : VMade b l k dk g n c wr 6 _ w' := hdep { on := 6, ground := Ground.data } (by simp) rfl
          have d6 : u6 = _ := d6
          subst d6
          clear hdep
          simp only [putAll, Act.put, List.setIfInBounds_toArray, List.set_cons_zero, List.set_cons_succ] at hK ⊢
          go_wp2
          exact hK _ _ rfl (fun j oj hji _ _ h => VMade_keeps j hji (by omega) (fun _ _ h => h) h) hw
        | 8 =>
          cases ho
          have d6 : VMade b l k dk g n c wr 6 _ w' := hdep { on := 6, ground := Ground.data } (by simp) rfl
          have d6 : u6 = _ := d6
          subst d6
          clear hdep
          simp only [putAll, Act.put, List.setIfInBounds_toArray, List.set_cons_zero, List.set_cons_succ] at hK ⊢
          go_wp2
          exact hK _ _ rfl (fun j oj hji _ _ h => VMade_keeps j hji (by omega) (fun _ _ h => h) h) hw
        | 9 =>
          cases ho
          clear hdep
          simp only [putAll, Act.put, List.setIfInBounds_toArray, List.set_cons_zero, List.set_cons_succ] at hK ⊢
          go_wp2
          refine hK _ _ ⟨_, rfl, hw.size, _, heap_new rfl, rfl⟩ (fun j oj hji hoj hd h => VMade_keeps j hji (fun hj => by subst hj; cases hoj; exact absurd rfl (hd { on := 9, ground := Ground.data } (by simp) rfl)) (below_keeps ((Below.refl _ _).alloc (Nat.le_refl _) _)) h) (hw.alloc hw.size _)
        | 10 =>
          cases ho
          have d9 : VMade b l k dk g n c wr 9 _ w' := hdep { on := 9, ground := Ground.data } (by simp) rfl
          obtain ⟨h, d9, hwh, cur, hcur, hcs⟩ := d9
          have d9 : u9 = _ := d9
          subst d9
          have d7 : VMade b l k dk g n c wr 7 _ w' := hdep { on := 7, ground := Ground.data } (by simp) rfl
          have d7 : u7 = _ := d7
          subst d7
          clear hdep
          simp only [putAll, Act.put, List.setIfInBounds_toArray, List.set_cons_zero, List.set_cons_succ] at hK ⊢
          (with_reducible apply storeB (n := 16) (ty := 28)); (focus with_unfolding_all exact rfl); (focus with_unfolding_all exact rfl); (focus exact hcur); (focus kernel_rfl); (focus exact hcs); (focus simp [hpl, slideB_length]); (focus exact rfl)
          refine hK undef _ ⟨h, rfl, heap_setRow_same hcur⟩ (fun j oj hji _ _ hh => VMade_store j hji hcur (by simp [size_cellsB, hpl, slideB_length]) hh) (below_setRow0 hwh hw)
        | 11 =>
          cases ho
          have d8 : VMade b l k dk g n c wr 8 _ w' := hdep { on := 8, ground := Ground.data } (by simp) rfl
          have d8 : u8 = _ := d8
          subst d8
          clear hdep
          simp only [putAll, Act.put, List.setIfInBounds_toArray, List.set_cons_zero, List.set_cons_succ] at hK ⊢
          go_wp2
          exact hK _ _ rfl (fun j oj hji _ _ h => VMade_keeps j hji (by omega) (fun _ _ h => h) h) hw
        | i + 12 => simp at ho
      · intro us w' hul hw hv
        obtain ⟨u0, u1, u2, u3, u4, u5, u6, u7, u8, u9, u10, u11, rfl⟩ := list12 us hul
        have d9 := hv 9 (by decide)
        have d10 := hv 10 (by decide)
        have d11 : u11 = _ := hv 11 (by decide)
        obtain ⟨h, d9, hwh, _⟩ := d9
        have d9 : u9 = _ := d9
        subst d9 d11
        obtain ⟨h', d9', hcur⟩ := d10
        have d9' : Value.pointer (some ⟨h, 0, none⟩) = Value.pointer (some ⟨h', 0, none⟩) := d9'
        obtain rfl : h = h' := by simpa using d9'
        clear hv d9'
        have hbw : w'.heap[w.heap.size]? = some (.cells (cellsB (preB b l k)) 28 (0, 0)) := by rw [hw.block _ (by omega)]; exact hb0
        have hbz' : w'.heap[w.heap.size + 1]? = some (.cells (cellsB [0, 0, 0, 0, 0, 0, 0, 0, 0, 0, 0, 0, 0, 0, 0, 0]) 28 (0, 0)) := by rw [hw.block _ (by omega)]; exact hbz
        have hbel' : Below w.heap.size w w' := Below.from0 hbel (by omega) hw
        have hlt' := Nat.le_trans hlt hw.size
        clear hb0 hbz hbel hw
        simp only [putAll, Act.put, List.setIfInBounds_toArray, List.set_cons_zero, List.set_cons_succ]
        go_wp2_with (first | ((with_reducible apply loadB (n := 16) (ty := 28) Try.underlying28); (focus with_unfolding_all exact rfl); (focus ((repeat' (first | (with_reducible assumption) | ((with_reducible refine heap_new ?_); (focus ((try simp only [World.size_alloc, size_junk, size_setRow, Array.size_append]) <;> omega))) | ((with_reducible refine heap_old ?_ ?_); (focus ((try simp only [World.size_alloc, size_junk, size_setRow, Array.size_append]) <;> omega))) | ((with_reducible refine heap_junk ?_ ?_); (focus ((try simp only [World.size_alloc, size_junk, size_setRow, Array.size_append]) <;> omega))) | ((with_reducible apply heap_setRow_same)) | ((with_reducible refine heap_setRow_other ?_ ?_); (focus ((try simp only [World.size_alloc, size_junk, size_setRow, Array.size_append]) <;> omega))))); done)); (focus rfl); (focus kernel_rfl); (focus (first | (first | (with_reducible assumption) | (with_reducible rfl) | (simp only [slideB_length, putL_length, rowOut_length, lineB_length, madeB_length, *]; done)) | (simp [*]; done)))) | ((with_reducible apply storeB (n := 16) (ty := 28)); (focus with_unfolding_all exact rfl); (focus with_unfolding_all exact rfl); (focus ((repeat' (first | (with_reducible assumption) | ((with_reducible refine heap_new ?_); (focus ((try simp only [World.size_alloc, size_junk, size_setRow, Array.size_append]) <;> omega))) | ((with_reducible refine heap_old ?_ ?_); (focus ((try simp only [World.size_alloc, size_junk, size_setRow, Array.size_append]) <;> omega))) | ((with_reducible refine heap_junk ?_ ?_); (focus ((try simp only [World.size_alloc, size_junk, size_setRow, Array.size_append]) <;> omega))) | ((with_reducible apply heap_setRow_same)) | ((with_reducible refine heap_setRow_other ?_ ?_); (focus ((try simp only [World.size_alloc, size_junk, size_setRow, Array.size_append]) <;> omega))))); done)); (focus kernel_rfl); (focus (first | (rw [size_cellsB]; (first | (first | (with_reducible assumption) | (with_reducible rfl) | (simp only [slideB_length, putL_length, rowOut_length, lineB_length, madeB_length, *]; done)) | (simp [*]; done))) | kernel_rfl)); (focus (first | (first | (with_reducible assumption) | (with_reducible rfl) | (simp only [slideB_length, putL_length, rowOut_length, lineB_length, madeB_length, *]; done)) | (simp [*]; done))); (focus ((repeat' (first | ((with_reducible apply setRow_new); (focus ((try simp only [World.size_alloc, size_junk, size_setRow, Array.size_append]) <;> omega))) | ((with_reducible apply setRow_old'); (focus ((try simp only [World.size_alloc, size_junk, size_setRow, Array.size_append]) <;> omega))) | ((with_reducible apply setRow_junk'); (focus ((try simp only [World.size_alloc, size_junk, size_setRow, Array.size_append]) <;> omega))) | (with_reducible exact rfl))); done))))
        go_roundw
        case rel => exact ⟨k + 1, by omega, by go_num, by rw [preS, show (l.getD k 0).toNat = dk by rw [HD.out]; rfl], by rw [preB, show (l.getD k 0).toNat = dk by rw [HD.out]; rfl]; (repeat' (first | (with_reducible assumption) | ((with_reducible refine heap_new ?_); (focus ((try simp only [World.size_alloc, size_junk, size_setRow, Array.size_append]) <;> omega))) | ((with_reducible refine heap_old ?_ ?_); (focus ((try simp only [World.size_alloc, size_junk, size_setRow, Array.size_append]) <;> omega))) | ((with_reducible refine heap_junk ?_ ?_); (focus ((try simp only [World.size_alloc, size_junk, size_setRow, Array.size_append]) <;> omega))) | ((with_reducible apply heap_setRow_same)) | ((with_reducible refine heap_setRow_other ?_ ?_); (focus ((try simp only [World.size_alloc, size_junk, size_setRow, Array.size_append]) <;> omega))))), by (repeat' (first | (with_reducible assumption) | ((with_reducible refine heap_new ?_); (focus ((try simp only [World.size_alloc, size_junk, size_setRow, Array.size_append]) <;> omega))) | ((with_reducible refine heap_old ?_ ?_); (focus ((try simp only [World.size_alloc, size_junk, size_setRow, Array.size_append]) <;> omega))) | ((with_reducible refine heap_junk ?_ ?_); (focus ((try simp only [World.size_alloc, size_junk, size_setRow, Array.size_append]) <;> omega))) | ((with_reducible apply heap_setRow_same)) | ((with_reducible refine heap_setRow_other ?_ ?_); (focus ((try simp only [World.size_alloc, size_junk, size_setRow, Array.size_append]) <;> omega))))), by (repeat' (first | (with_reducible exact RowKit.Below.refl _ _) | (with_reducible assumption) | (with_reducible refine Below.drewN ?_ _) | (with_reducible refine below_junk0 ?_ ?_ _ _) | (with_reducible refine RowKit.Below.alloc ?_ ?_ _) | (with_reducible refine below_setRow0 ?_ ?_) | (with_reducible refine RowKit.Below.setCell ?_ ?_ _) | (with_reducible refine RowKit.Below.drew ?_) | go_size | (simp only [size_junk]; go_size) | (simp only [World.size_alloc, size_junk, size_setRow]; omega) | omega)), by ((try simp only [World.size_alloc, size_junk, size_setRow, Array.size_append]) <;> omega)⟩
        case measure => simp [intOf]; omega
    · obtain rfl : k = n := by omega
      go_wp2_with (first | ((with_reducible apply loadB (n := 16) (ty := 28) Try.underlying28); (focus with_unfolding_all exact rfl); (focus ((repeat' (first | (with_reducible assumption) | ((with_reducible refine heap_new ?_); (focus ((try simp only [World.size_alloc, size_junk, size_setRow, Array.size_append]) <;> omega))) | ((with_reducible refine heap_old ?_ ?_); (focus ((try simp only [World.size_alloc, size_junk, size_setRow, Array.size_append]) <;> omega))) | ((with_reducible refine heap_junk ?_ ?_); (focus ((try simp only [World.size_alloc, size_junk, size_setRow, Array.size_append]) <;> omega))) | ((with_reducible apply heap_setRow_same)) | ((with_reducible refine heap_setRow_other ?_ ?_); (focus ((try simp only [World.size_alloc, size_junk, size_setRow, Array.size_append]) <;> omega))))); done)); (focus rfl); (focus kernel_rfl); (focus (first | (first | (with_reducible assumption) | (with_reducible rfl) | (simp only [slideB_length, putL_length, rowOut_length, lineB_length, madeB_length, *]; done)) | (simp [*]; done)))) | ((with_reducible apply storeB (n := 16) (ty := 28)); (focus with_unfolding_all exact rfl); (focus with_unfolding_all exact rfl); (focus ((repeat' (first | (with_reducible assumption) | ((with_reducible refine heap_new ?_); (focus ((try simp only [World.size_alloc, size_junk, size_setRow, Array.size_append]) <;> omega))) | ((with_reducible refine heap_old ?_ ?_); (focus ((try simp only [World.size_alloc, size_junk, size_setRow, Array.size_append]) <;> omega))) | ((with_reducible refine heap_junk ?_ ?_); (focus ((try simp only [World.size_alloc, size_junk, size_setRow, Array.size_append]) <;> omega))) | ((with_reducible apply heap_setRow_same)) | ((with_reducible refine heap_setRow_other ?_ ?_); (focus ((try simp only [World.size_alloc, size_junk, size_setRow, Array.size_append]) <;> omega))))); done)); (focus kernel_rfl); (focus (first | (rw [size_cellsB]; (first | (first | (with_reducible assumption) | (with_reducible rfl) | (simp only [slideB_length, putL_length, rowOut_length, lineB_length, madeB_length, *]; done)) | (simp [*]; done))) | kernel_rfl)); (focus (first | (first | (with_reducible assumption) | (with_reducible rfl) | (simp only [slideB_length, putL_length, rowOut_length, lineB_length, madeB_length, *]; done)) | (simp [*]; done))); (focus ((repeat' (first | ((with_reducible apply setRow_new); (focus ((try simp only [World.size_alloc, size_junk, size_setRow, Array.size_append]) <;> omega))) | ((with_reducible apply setRow_old'); (focus ((try simp only [World.size_alloc, size_junk, size_setRow, Array.size_append]) <;> omega))) | ((with_reducible apply setRow_junk'); (focus ((try simp only [World.size_alloc, size_junk, size_setRow, Array.size_append]) <;> omega))) | (with_reducible exact rfl))); done))))
      refine bodyPost_ret (v := .tuple #[.agg (cellsB (preB b l k)), .int .i64 (preS b l k)]) (ret_ct (p := 4) (u := 5) (t := 28) (fr := (0, 0)) rfl rfl (by (repeat' (first | (with_reducible assumption) | ((with_reducible refine heap_new ?_); (focus ((try simp only [World.size_alloc, size_junk, size_setRow, Array.size_append]) <;> omega))) | ((with_reducible refine heap_old ?_ ?_); (focus ((try simp only [World.size_alloc, size_junk, size_setRow, Array.size_append]) <;> omega))) | ((with_reducible refine heap_junk ?_ ?_); (focus ((try simp only [World.size_alloc, size_junk, size_setRow, Array.size_append]) <;> omega))) | ((with_reducible apply heap_setRow_same)) | ((with_reducible refine heap_setRow_other ?_ ?_); (focus ((try simp only [World.size_alloc, size_junk, size_setRow, Array.size_append]) <;> omega)))))) Try.underlying28 rfl (by rw [size_cellsB, hpl]; kernel_rfl)) rfl ?_
      exact ⟨rfl, by (repeat' (first | (with_reducible exact RowKit.Below.refl _ _) | (with_reducible assumption) | (with_reducible refine Below.drewN ?_ _) | (with_reducible refine below_junk0 ?_ ?_ _ _) | (with_reducible refine RowKit.Below.alloc ?_ ?_ _) | (with_reducible refine below_setRow0 ?_ ?_) | (with_reducible refine RowKit.Below.setCell ?_ ?_ _) | (with_reducible refine RowKit.Below.drew ?_) | go_size | (simp only [size_junk]; go_size) | (simp only [World.size_alloc, size_junk, size_setRow]; omega) | omega))⟩
end Go.Proofs.Ytgkfhppmopmgjaa
