/- Walks of single functions of the given Go program, printed by a program of mine; each theorem says what the function returns. -/
import Derived.Test.YtgkfhppmopmgjaaRows
import Derived.WalkKit
import Derived.WalkSpells
import Derived.WalkLawsBesides
import Derived.Handy
import Derived.Deep.QuietTactic
import Derived.BigQuiet
import Derived.Lib.Hide
import Derived.Test.YtgkfhppmopmgjaaIdx
import Derived.Deep.Cut
import Derived.Test.YtgkfhppmopmgjaaAddF
import Derived.Test.YtgkfhppmopmgjaaFFirst
import Derived.Test.YtgkfhppmopmgjaaMoves
import Derived.Test.YtgkfhppmopmgjaaMade
import Derived.Test.YtgkfhppmopmgjaaOver
import Derived.Test.YtgkfhppmopmgjaaIntS
set_option linter.all false

namespace Go.Proofs.Ytgkfhppmopmgjaa
open Go.RowKit Pl Go.Lib Go.Shelf

theorem mem_getD {bs : List (List Int)} {b : List Int} : b ∈ bs ↔ ∃ k, k < bs.length ∧ bs.getD k [] = b := by
  constructor
  · intro h
    obtain ⟨k, hk, he⟩ := List.mem_iff_getElem.1 h
    exact ⟨k, hk, by rw [List.getD_eq_getElem?_getD, List.getElem?_eq_getElem hk]; exact he⟩
  · rintro ⟨k, hk, he⟩
    rw [List.getD_eq_getElem?_getD, List.getElem?_eq_getElem hk] at he
    rw [← he]
    exact List.getElem_mem hk
set_option maxRecDepth 100000 in
set_option maxHeartbeats 4000000 in
theorem contains_any (bs : List (List Int)) (b : List Int) (hb : b.length = 16) (wb : wfL b) (wbs : ∀ x ∈ bs, wfL x) (B : Nat) (v : Value) (w : World) (hown : OwnBd w B v bs) (hn : bs.length ≤ 1099511627776) (r : Bool) (hr : r = true ↔ b ∈ bs) :
    Calls Try.prog 54 #[v, aggB b] w fun e w' => e = .returned (.bool r) ∧ Below w.heap.size w w' := by
  have HI0 := fun w' hh => index_any bs b hb wb wbs B v w' hh hn
  cases r with
  | true =>
    obtain ⟨k, hk, hke⟩ := mem_getD.1 (hr.1 rfl)
    have HI : Hid (∀ w', OwnBd w' B v bs → Calls Try.prog 50 #[v, aggB b] w' fun e w'' => ∃ q : Nat, e = .returned (.int .i64 q) ∧ Below w'.heap.size w' w'') := Lib.hid (fun w' hh => (HI0 w' hh).mono (fun e w'' ⟨r, he, hbl, hr2⟩ => by
      rcases hr2 with ⟨q, rfl, _⟩ | ⟨_, hno⟩
      · exact ⟨q, he, hbl⟩
      · exact absurd hke (hno k hk)))
    clear HI0 hr hke hk wbs wb
    have HOW := Lib.hid (hown.alloc (.cells (cellsB b) 28 (0, 0))); clear hown
    go_enter Try.func54, Try.ntmps54
    go_wp2_with (first | ((with_reducible apply loadB (n := 16) (ty := 28) Try.underlying28); (focus with_unfolding_all exact rfl); (focus ((repeat' (first | (with_reducible assumption) | ((with_reducible refine heap_new ?_); (focus ((try simp only [World.size_alloc, size_junk, size_setRow, Array.size_append]) <;> omega))) | ((with_reducible refine heap_old ?_ ?_); (focus ((try simp only [World.size_alloc, size_junk, size_setRow, Array.size_append]) <;> omega))) | ((with_reducible refine heap_junk ?_ ?_); (focus ((try simp only [World.size_alloc, size_junk, size_setRow, Array.size_append]) <;> omega))) | ((with_reducible apply heap_setRow_same)) | ((with_reducible refine heap_setRow_other ?_ ?_); (focus ((try simp only [World.size_alloc, size_junk, size_setRow, Array.size_append]) <;> omega))))); done)); (focus rfl); (focus kernel_rfl); (focus exact hb)) | (go_at_call 50; refine (HI.out _ HOW.out).mono ?_; rintro e w1 ⟨q, rfl, hb1⟩; obtain ⟨_, _, rfl⟩ := junk_of_below hb1; clear hb1))
    go_ret
    exact ⟨rfl, by (repeat' (first | (with_reducible exact RowKit.Below.refl _ _) | (with_reducible assumption) | (with_reducible refine Below.drewN ?_ _) | (with_reducible refine below_junk0 ?_ ?_ _ _) | (with_reducible refine RowKit.Below.alloc ?_ ?_ _) | (with_reducible refine below_setRow0 ?_ ?_) | (with_reducible refine RowKit.Below.setCell ?_ ?_ _) | (with_reducible refine RowKit.Below.drew ?_) | go_size | (simp only [size_junk]; go_size) | (simp only [World.size_alloc, size_junk, size_setRow]; omega) | omega))⟩
  | false =>
    have hno : ¬ b ∈ bs := fun h => by have := hr.2 h; cases this
    have HI : Hid (∀ w', OwnBd w' B v bs → Calls Try.prog 50 #[v, aggB b] w' fun e w'' => e = .returned (.int .i64 (-1)) ∧ Below w'.heap.size w' w'') := Lib.hid (fun w' hh => (HI0 w' hh).mono (fun e w'' ⟨r, he, hbl, hr2⟩ => by
      rcases hr2 with ⟨q, rfl, hq, hqe, _⟩ | ⟨rfl, _⟩
      · exact absurd (mem_getD.2 ⟨q, hq, hqe⟩) hno
      · exact ⟨he, hbl⟩))
    clear HI0 hr hno wbs wb
    have HOW := Lib.hid (hown.alloc (.cells (cellsB b) 28 (0, 0))); clear hown
    go_enter Try.func54, Try.ntmps54
    go_wp2_with (first | ((with_reducible apply loadB (n := 16) (ty := 28) Try.underlying28); (focus with_unfolding_all exact rfl); (focus ((repeat' (first | (with_reducible assumption) | ((with_reducible refine heap_new ?_); (focus ((try simp only [World.size_alloc, size_junk, size_setRow, Array.size_append]) <;> omega))) | ((with_reducible refine heap_old ?_ ?_); (focus ((try simp only [World.size_alloc, size_junk, size_setRow, Array.size_append]) <;> omega))) | ((with_reducible refine heap_junk ?_ ?_); (focus ((try simp only [World.size_alloc, size_junk, size_setRow, Array.size_append]) <;> omega))) | ((with_reducible apply heap_setRow_same)) | ((with_reducible refine heap_setRow_other ?_ ?_); (focus ((try simp only [World.size_alloc, size_junk, size_setRow, Array.size_append]) <;> omega))))); done)); (focus rfl); (focus kernel_rfl); (focus exact hb)) | (go_at_call 50; refine (HI.out _ HOW.out).mono ?_; rintro e w1 ⟨rfl, hb1⟩; obtain ⟨_, _, rfl⟩ := junk_of_below hb1; clear hb1))
    go_ret
    exact ⟨rfl, by (repeat' (first | (with_reducible exact RowKit.Below.refl _ _) | (with_reducible assumption) | (with_reducible refine Below.drewN ?_ _) | (with_reducible refine below_junk0 ?_ ?_ _ _) | (with_reducible refine RowKit.Below.alloc ?_ ?_ _) | (with_reducible refine below_setRow0 ?_ ?_) | (with_reducible refine RowKit.Below.setCell ?_ ?_ _) | (with_reducible refine RowKit.Below.drew ?_) | go_size | (simp only [size_junk]; go_size) | (simp only [World.size_alloc, size_junk, size_setRow]; omega) | omega))⟩
end Go.Proofs.Ytgkfhppmopmgjaa

/- As Steps2; and the slots of operations that are not done yet still hold what they held. -/
namespace Go.Proofs.Ytgkfhppmopmgjaa
open Go Go.RowKit

section
variable {P : Program} {ops : Array Oper} {Q : Exit → Act → World → Prop} {C : World → Prop} {V : Nat → Array Bool → List Value → World → Prop} {a0 : Act} {ds : List (Option Tmp)}
/-- What one operation is to do; L: which operations are done. -/
def StepOk3 (P : Program) (ops : Array Oper) (Q : Exit → Act → World → Prop) (C : World → Prop) (V : Nat → Array Bool → List Value → World → Prop) (a0 : Act) (ds : List (Option Tmp)) (i : Nat) (o : Oper) : Prop :=
  ∀ L us w (K : Act → World → Prop), us.length = ds.length → L.size = ops.size → L.getD i false = false → (∀ j d, L.getD j false = false → ds[j]? = some (some d) → us.getD j undef = a0.tmps.getD d undef) → (∀ j oj, ops[j]? = some oj → L.getD j false = true → ∀ e ∈ oj.after, Region.binds .any e = true → L.getD e.on false = true) → (∀ j, j < ops.size → L.getD j false = true → V j L us w) → C w → (∀ e ∈ o.after, Region.binds .any e = true → L.getD e.on false = true ∧ V e.on L us w) →
    (∀ v w', V i (L.setIfInBounds i true) (us.set i v) w' →
      (∀ j oj, j ≠ i → ops[j]? = some oj → L.getD j false = true → (∀ e ∈ oj.after, Region.binds .any e = true → e.on ≠ i) → V j L us w → V j (L.setIfInBounds i true) (us.set i v) w') → C w' → K ((putAll a0 ds us).put o.dst v) w') →
    wpList P ops (fun x a' w' => match x with | .normal => K a' w' | x => Q x a' w') [o] (putAll a0 ds us) w

theorem wpAny_steps3 (hdl : ds.length = ops.size) (hnd : onceB ds = true)
    (hop0 : ∀ i, i < ops.size → ∃ o, ops[i]? = some o ∧ some o.dst = ds[i]? ∧ o.guard = none ∧ ∀ e ∈ o.after, Region.binds .any e = true → e.on < i)
    (hop : ∀ i o, ops[i]? = some o → StepOk3 P ops Q C V a0 ds i o)
    (hend : ∀ L us w, us.length = ops.size → C w → (∀ i, i < ops.size → L.getD i false = true) → (∀ i, i < ops.size → V i L us w) → Q .normal (putAll a0 ds us) w) :
    ∀ (f : Nat) (listed : Array Bool) (us : List Value) (w : World), cntF listed ops.size = f → listed.size = ops.size →
      (∀ j oj, ops[j]? = some oj → listed.getD j false = true → ∀ e ∈ oj.after, Region.binds .any e = true → listed.getD e.on false = true) → us.length = ops.size → (∀ j d, listed.getD j false = false → ds[j]? = some (some d) → us.getD j undef = a0.tmps.getD d undef) → C w → (∀ i, i < ops.size → listed.getD i false = true → V i listed us w) →
      wpAny P .any ops Q f listed (putAll a0 ds us) w
  | 0, listed, us, w, hf, hls, hcl, hul, hun, hw, hv => by
    have hall := cntF_zero hf
    refine ⟨?_, hend listed us w hul hw (fun i hi => hall i hi) (fun i hi => hv i hi (hall i hi))⟩
    apply List.eq_nil_iff_forall_not_mem.2
    intro i hi
    obtain ⟨hu, o, ho, _⟩ := mem_ready.1 hi
    have := hall i (Array.getElem?_eq_some_iff.1 ho).1
    rw [getD_both hu] at this
    cases this
  | f + 1, listed, us, w, hf, hls, hcl, hul, hun, hw, hv => by
    obtain ⟨j, hj, hju, hjm⟩ := cntF_pos (listed := listed) (k := ops.size) (by omega)
    have hjr : j ∈ Region.ready .any ops listed := by
      obtain ⟨o, ho, _, _, he⟩ := hop0 j hj
      exact mem_ready.2 ⟨getD_in (by omega) hju, o, ho, fun e hee hbe => hjm _ (he e hee hbe)⟩
    refine ⟨fun h0 => (by rw [h0] at hjr; cases hjr), fun i hi => ?_⟩
    obtain ⟨hiu, o, ho, hdep⟩ := mem_ready.1 hi
    have hin : i < ops.size := (Array.getElem?_eq_some_iff.1 ho).1
    obtain ⟨o2, ho2, hod, hog, hon⟩ := hop0 i hin
    rw [ho] at ho2; cases ho2
    have hiu' := getD_both hiu
    refine wpOp_of_list ho hog (hop i o ho listed us w _ (by rw [hul, hdl]) hls hiu' hun hcl hv hw (fun e he hb => ?_) (fun v w' hvv hkeep hw' => ?_))
    · exact ⟨hdep e he hb, hv _ (by have := hon e he hb; omega) (hdep e he hb)⟩
    · rw [← putAll_set hnd hod.symm (by rw [hul, hdl])]
      have hset : ∀ k, (listed.setIfInBounds i true).getD k false = true → k = i ∨ (k ≠ i ∧ listed.getD k false = true) := by
        intro k hk
        by_cases hki : i = k
        · exact .inl hki.symm
        · rw [getD_set_ne false hki] at hk; exact .inr ⟨Ne.symm hki, hk⟩
      refine wpAny_steps3 hdl hnd hop0 hop hend f _ _ w' ?_ (by simp [hls]) ?_ (by simpa using hul) (fun j d hj hjd => ?_) hw' ?_
      · have := cntF_set (listed := listed) (i := i) (by omega) hiu' hin
        omega
      · intro k ok hk hkl e he hb
        rcases hset k hkl with rfl | ⟨_, hkl⟩
        · rw [ho] at hk; cases hk
          exact getD_set_true (hdep e he hb)
        · exact getD_set_true (hcl k ok hk hkl e he hb)
      · have hji : i ≠ j := fun h => by rw [← h, getD_here (by omega)] at hj; cases hj
        rw [getD_set_ne false hji] at hj
        rw [us_set_other (Ne.symm hji)]
        exact hun j d hj hjd
      · intro k hk hkl
        rcases hset k hkl with rfl | ⟨hki, hkl⟩
        · exact hvv
        · obtain ⟨ok, hok, _⟩ := hop0 k hk
          refine hkeep k ok hki hok hkl (fun e he hb heq => ?_) (hv k hk hkl)
          have := hcl k ok hok hkl e he hb
          rw [heq, hiu'] at this
          cases this

theorem wp_region_steps3 {id : Nat} {w0 : World} {l : List Oper} (ds : List (Option Tmp)) (V : Nat → Array Bool → List Value → World → Prop) (C : World → Prop) (hm : P.follows .mixedOrders = true) (hB : stepsB l.toArray ds = true)
    (hsz : ds.all (fun d => match d with | some d => decide (d < a0.tmps.size) | none => true) = true) (hC : C { w0 with drawn := w0.drawn + 1 })
    (hop : ∀ i o, l[i]? = some o → StepOk3 P l.toArray Q C V a0 ds i o)
    (hend : ∀ L us w, us.length = l.length → C w → (∀ i, i < l.length → L.getD i false = true) → (∀ i, i < l.length → V i L us w) → Q .normal (putAll a0 ds us) w) : (Code.region id l.toArray true).wp P Q a0 w0 := by
  simp only [stepsB, Bool.and_eq_true, decide_eq_true_eq] at hB
  obtain ⟨⟨hdl, hnd⟩, hall⟩ := hB
  have hop0 : ∀ i, i < l.toArray.size → ∃ o, l.toArray[i]? = some o ∧ some o.dst = ds[i]? ∧ o.guard = none ∧ ∀ e ∈ o.after, Region.binds .any e = true → e.on < i := by
    intro i hi
    have := List.all_eq_true.1 hall i (List.mem_range.2 hi)
    cases ho : l.toArray[i]? with
    | none => rw [ho] at this; simp at this
    | some o =>
      rw [ho] at this
      simp only [Bool.and_eq_true, decide_eq_true_eq, Option.isNone_iff_eq_none, Array.all_eq_true_iff_forall_mem] at this
      exact ⟨o, rfl, this.1.1, this.1.2, fun e he hb => by have h := this.2 e he; rw [hb] at h; simpa using h⟩
  refine wp_region_any hm ?_
  have hcnt : ∀ k, cntF (Array.replicate l.toArray.size false) k = k := by
    intro k
    induction k with
    | zero => rfl
    | succ k ih => rw [cntF, ih, getD_replicate_false]; simp
  obtain ⟨us0, hus, hself, hun⟩ : ∃ us0 : List Value, us0.length = ds.length ∧ putAll a0 ds us0 = a0 ∧ ∀ (j : Nat) (d : Tmp), ds[j]? = some (some d) → us0.getD j undef = a0.tmps.getD d undef := ⟨_, by simp, putAll_self hsz, fun j d h => by rw [List.getD_eq_getElem?_getD, List.getElem?_map, h]; rfl⟩
  have H := wpAny_steps3 (P := P) (Q := Q) (C := C) (V := V) (a0 := a0) (ds := ds) (ops := l.toArray) hdl hnd hop0 (fun i o ho => hop i o (by simpa using ho)) (fun L us w hul hw hL => hend L us w (by simpa using hul) hw (by simpa using hL))
    l.toArray.size (Array.replicate l.toArray.size false) us0 { w0 with drawn := w0.drawn + 1 } (hcnt _) (by simp) (fun j oj _ hl => by rw [getD_replicate_false] at hl; cases hl)
    (by rw [hus]; exact hdl) (fun j d _ h => hun j d h) hC (fun i _ hl => by rw [getD_replicate_false] at hl; cases hl)
  rw [hself] at H
  exact H
end

end Go.Proofs.Ytgkfhppmopmgjaa

/- Walks of single functions of the given Go program, printed by a program of mine; each theorem says what the function returns. -/
namespace Go.Proofs.Ytgkfhppmopmgjaa
open Go.RowKit Pl Go.Lib Go.Shelf

namespace Pl
def formD (b : List Int) (d : Int) : List Int := (firstB (slideB b d.toNat)).1
/-- The forms of the first k moves, each once; the moves that bring them. -/
def knU (b mv : List Int) : Nat → List (List Int)
  | 0 => []
  | k + 1 => if formD b (mv.getD k 0) ∈ knU b mv k then knU b mv k else knU b mv k ++ [formD b (mv.getD k 0)]
def outU (b mv : List Int) : Nat → List Int
  | 0 => []
  | k + 1 => if formD b (mv.getD k 0) ∈ knU b mv k then outU b mv k else outU b mv k ++ [mv.getD k 0]
def seU (b mv : List Int) : Nat → List (List Int)
  | 0 => []
  | k + 1 => if formD b (mv.getD k 0) ∈ knU b mv k then seU b mv k else addL (seU b mv k) (formD b (mv.getD k 0))
def dmB (b : List Int) : List Int := if okB b then outU b (movesB b) (movesB b).length else []
theorem formD_len {b : List Int} (hb : b.length = 16) (d : Int) : (formD b d).length = 16 := firstB_length (by rw [slideB_length, hb])
theorem seU_mem (b mv : List Int) (k : Nat) (z : List Int) : z ∈ seU b mv k ↔ z ∈ knU b mv k := by
  induction k with
  | zero => exact Iff.rfl
  | succ k ih =>
    rw [seU, knU]
    by_cases h : formD b (mv.getD k 0) ∈ knU b mv k
    · rw [if_pos h, if_pos h]; exact ih
    · rw [if_neg h, if_neg h, mem_addL, ih, List.mem_append, List.mem_singleton]
theorem seU_len {b : List Int} (hb : b.length = 16) (mv : List Int) (k : Nat) : AllLen 16 (seU b mv k) := by
  induction k with
  | zero => intro x hx; simp [seU] at hx
  | succ k ih =>
    rw [seU]
    split
    · exact ih
    · exact addL_len ih (formD_len hb _)
theorem seU_asc {b : List Int} (hb : b.length = 16) (mv : List Int) (k : Nat) : Asc (seU b mv k) := by
  induction k with
  | zero => simp [seU, Asc]
  | succ k ih =>
    rw [seU]
    split
    · exact ih
    · exact addL_asc (seU_len hb mv k) (formD_len hb _) ih
theorem firstB_ok {b : List Int} (h : okL b) : okL (firstB b).1 := by
  have : ∀ j, okL (fU b j).1 := by
    intro j
    induction j with
    | zero => exact h
    | succ j ih =>
      simp only [fU, stepF]
      split
      · exact madeB_ok h _
      · exact ih
  rw [← fU_seven]; exact this 7
theorem formD_ok {b : List Int} (h : okL b) (d : Int) : okL (formD b d) := firstB_ok (slideB_ok h _)
theorem knU_ok {b : List Int} (h : okL b) (mv : List Int) (k : Nat) : ∀ x ∈ knU b mv k, okL x := by
  induction k with
  | zero => intro x hx; simp [knU] at hx
  | succ k ih =>
    rw [knU]
    split
    · exact ih
    · intro x hx
      rcases List.mem_append.1 hx with hx | hx
      · exact ih x hx
      · exact (List.mem_singleton.1 hx) ▸ formD_ok h (mv.getD k 0)
theorem knU_len {b : List Int} (hb : b.length = 16) (mv : List Int) (k : Nat) : All16 (knU b mv k) := fun x hx => seU_len hb mv k x ((seU_mem b mv k x).2 hx)
theorem knU_many (b mv : List Int) (k : Nat) : (knU b mv k).length ≤ k := by
  induction k with
  | zero => simp [knU]
  | succ k ih =>
    rw [knU]
    split
    · omega
    · rw [List.length_append, List.length_singleton]; omega
theorem seU_many (b mv : List Int) (k : Nat) : (seU b mv k).length ≤ k := by
  induction k with
  | zero => simp [seU]
  | succ k ih =>
    rw [seU]
    split
    · omega
    · rename_i h
      have hm : formD b (mv.getD k 0) ∉ seU b mv k := fun hh => h ((seU_mem b mv k _).1 hh)
      rw [addL_miss hm]; omega
theorem outU_many (b mv : List Int) (k : Nat) : (outU b mv k).length ≤ k := by
  induction k with
  | zero => simp [outU]
  | succ k ih =>
    rw [outU]
    split
    · omega
    · rw [List.length_append, List.length_singleton]; omega
theorem movesB_len (b : List Int) : (movesB b).length ≤ 4 := by
  have := List.length_filter_le (fun d => decide (slideB b d ≠ b)) (List.range 4)
  have e : (movesB b).length = ((List.range 4).filter fun d => decide (slideB b d ≠ b)).length := List.length_map _
  rw [e]; exact this
theorem movesB_in {b : List Int} {k : Nat} (h : k < (movesB b).length) : ∃ d : Nat, (movesB b).getD k 0 = d ∧ d < 4 := by
  have hm : (movesB b).getD k 0 ∈ movesB b := by
    rw [List.getD_eq_getElem?_getD, List.getElem?_eq_getElem h]; exact List.getElem_mem h
  obtain ⟨d, hd, he⟩ := List.mem_map.1 hm
  exact ⟨d, he.symm, List.mem_range.1 (List.mem_filter.1 hd).1⟩
end Pl
theorem appendI2 {ops : Array Oper} {rest : List Oper} {a : Act} {w : World} {Q : Exit → Act → World → Prop} {dst : Option Tmp} {type : TypeId} {pos : String} {after : Array Edge} {x y : Operand}
    {B : Nat} {v : Value} {l : List Int} {g : Nat} {z : Int} (hown : w.ownsRow B 3 1 v l.length (l.map (Value.int .i64))) (hx : a.eval x = v) (hy : a.eval y = .slice (some ⟨g, 0, none⟩) 1 1)
    (hg : w.heap[g]? = some (.cells #[.int .i64 z] 3 (0, 0))) (hn : l.length < 1000000) (hB : B ≤ w.heap.size)
    (h : ∀ v' w', w'.ownsRow B 3 1 v' (l ++ [z]).length ((l ++ [z]).map (Value.int .i64)) → Apd w w' v v' → wpList Try.prog ops Q rest (a.put dst v') w') :
    wpList Try.prog ops Q (⟨dst, .call { callee := .builtin .append, args := #[x, y], argTypes := #[34, 34] }, type, pos, after, none⟩ :: rest) a w := by
  obtain ⟨i0, hi, hz0, hz1, hz2⟩ := info_parts info3
  refine wpList_append_two w x y (34) B (3) i0 (.int .i64 0) 1 8 Try.underlying34 hi hz0 hz1 hz2 rfl (by decide) v l.length _ hx hown ⟨g, 0, none⟩ 1 1 [.int .i64 z] hy rfl ?_ ?_ ?_ ?_ hB ?_
  · intro j u hj
    match j, hj with
    | 0, hj =>
      simp only [List.getElem?_cons_zero, Option.some.injEq] at hj
      subst hj
      simp [Addr.add, World.cell?, hg]
  · intro u hu; simp at hu; subst hu; rfl
  · unfold maxLen; omega
  · omega
  · intro v' w' h1 h2
    exact h v' w' (by simpa using h1) h2
def RetDM (b : List Int) (w : World) (e : Ending) (w' : World) : Prop :=
  ∃ v, e = .returned (.tuple #[v, .bool (okB b)]) ∧ w'.ownsRow w.heap.size 3 1 v (dmB b).length ((dmB b).map (Value.int .i64)) ∧ Below w.heap.size w w'
/-- The words of spec.DistinctMoves' loop. -/
structure DmI (w wr : World) (b mv : List Int) (k : Nat) (v4 : Value) (gs cs gm : Nat) (ob : Obj) : Prop where
  out : wr.ownsRow (w.heap.size + 1) 3 1 v4 (outU b mv k).length ((outU b mv k).map (Value.int .i64))
  seen : OwnBd wr (w.heap.size + 1) (.slice (some ⟨gs, 0, none⟩) (seU b mv k).length cs) (seU b mv k)
  dis : ∀ q, v4.ownBlock = some q → q ≠ gs ∧ q ≠ gm
  mvs : wr.heap[gm]? = some ob
  box : wr.heap[w.heap.size]? = some (.cells (cellsB b) 28 (0, 0))
  bel : Below w.heap.size w wr
  sz : w.heap.size + 1 ≤ wr.heap.size
/-- What the operations of the region that slides once more have told. -/
def VMc (cb : List Int) (k dk g n c : Nat) (wr : World) : Nat → List Value → World → Prop
  | 0, us, _ => us.getD 0 undef = aggB cb
  | 1, us, _ => us.getD 1 undef = .slice (some ⟨g, 0, none⟩) n c
  | 2, us, _ => us.getD 2 undef = .int .i64 k
  | 3, us, _ => us.getD 3 undef = .pointer (some ⟨g, k, none⟩)
  | 4, us, _ => us.getD 4 undef = .int .i64 dk
  | 5, us, _ => us.getD 5 undef = .tuple #[aggB (slideB cb dk), .int .i64 (scoreB cb dk)]
  | 6, us, _ => us.getD 6 undef = .tuple #[aggB (slideB cb dk), .int .i64 (scoreB cb dk)]
  | 7, us, _ => us.getD 7 undef = aggB (slideB cb dk)
  | 8, us, _ => us.getD 8 undef = .int .i64 (scoreB cb dk)
  | 9, us, w => ∃ h, us.getD 9 undef = .pointer (some ⟨h, 0, none⟩) ∧ wr.heap.size ≤ h ∧ ∃ cur, w.heap[h]? = some (Obj.cells (cur) 28 (0, 0)) ∧ cur.size = 16
  | 10, us, w => ∃ h, us.getD 9 undef = .pointer (some ⟨h, 0, none⟩) ∧ w.heap[h]? = some (.cells (cellsB (slideB cb dk)) 28 (0, 0))
  | 11, us, _ => us.getD 11 undef = .int .i64 (scoreB cb dk)
  | _, _, _ => True
theorem VMc_keeps {cb : List Int} {k dk g n c : Nat} {wr : World} {i : Nat} {v : Value} {us : List Value} {w w' : World} (j : Nat) (hji : j ≠ i) (h9 : j = 10 → i ≠ 9)
    (hb : ∀ (h : Nat) (cur : Array Value), w.heap[h]? = some (Obj.cells (cur) 28 (0, 0)) → w'.heap[h]? = some (Obj.cells (cur) 28 (0, 0))) (h : VMc cb k dk g n c wr j us w) : VMc cb k dk g n c wr j (us.set i v) w' := by
  unfold VMc at *
  split at h
  case h_10 =>
    obtain ⟨q, h1, h2, cur, h3, h4⟩ := h
    exact ⟨q, by rw [getD_set_other hji]; exact h1, h2, cur, hb _ _ h3, h4⟩
  case h_11 =>
    obtain ⟨q, h1, h2⟩ := h
    exact ⟨q, by rw [getD_set_other (Ne.symm (h9 rfl))]; exact h1, hb _ _ h2⟩
  all_goals first | trivial | (show List.getD (us.set i v) _ undef = _; rw [getD_set_other hji]; exact h)
theorem VMc_store {cb : List Int} {k dk g n c : Nat} {wr : World} {v : Value} {us : List Value} {w : World} {h : Nat} {cur cs : Array Value} (j : Nat) (hji : j ≠ 10) (hh : w.heap[h]? = some (Obj.cells (cur) 28 (0, 0))) (hcs : cs.size = 16)
    (hv : VMc cb k dk g n c wr j us w) : VMc cb k dk g n c wr j (us.set 10 v) (w.setRow h cs) := by
  unfold VMc at *
  split at hv
  case h_10 =>
    obtain ⟨q, h1, h2, cur', h3, h4⟩ := hv
    refine ⟨q, by rw [getD_set_other hji]; exact h1, h2, ?_⟩
    by_cases hq : q = h
    · subst hq; exact ⟨cs, heap_setRow_same hh, hcs⟩
    · exact ⟨cur', heap_setRow_other hq h3, h4⟩
  case h_11 => exact absurd rfl hji
  all_goals first | trivial | (show List.getD (us.set 10 v) _ undef = _; rw [getD_set_other hji]; exact hv)

set_option maxRecDepth 100000 in
set_option maxHeartbeats 8000000 in
theorem specDM_any (b : List Int) (hb : b.length = 16) (w : World) : Calls Try.prog 31 #[aggB b] w (RetDM b w) := by
  cases hok : okB b with
  | false =>
    have HK := Hb.mk hok; clear hok
    go_enter Try.func31, Try.ntmps31
    go_wp2_with (first | ((with_reducible apply loadB (n := 16) (ty := 28) Try.underlying28); (focus with_unfolding_all exact rfl); (focus ((repeat' (first | (with_reducible assumption) | ((with_reducible refine heap_new ?_); (focus ((try simp only [World.size_alloc, size_junk, size_setRow, Array.size_append]) <;> omega))) | ((with_reducible refine heap_old ?_ ?_); (focus ((try simp only [World.size_alloc, size_junk, size_setRow, Array.size_append]) <;> omega))) | ((with_reducible refine heap_junk ?_ ?_); (focus ((try simp only [World.size_alloc, size_junk, size_setRow, Array.size_append]) <;> omega))) | ((with_reducible apply heap_setRow_same)) | ((with_reducible refine heap_setRow_other ?_ ?_); (focus ((try simp only [World.size_alloc, size_junk, size_setRow, Array.size_append]) <;> omega))))); done)); (focus rfl); (focus kernel_rfl); (focus exact hb)) | (go_at_call 33; refine (l2Board_list b hb _).mono ?_; rintro e w1 ⟨rfl, hb1⟩; rw [HK.out]; obtain ⟨_, _, rfl⟩ := junk_of_below hb1; clear hb1))
    go_ret2
    exact ⟨_, by rw [HK.out]; rfl, by (have e0 : dmB b = [] := by unfold dmB; rw [HK.out]; rfl); rw [e0]; exact own_base (own_empty (B := w.heap.size) (by ((try simp only [World.size_alloc, size_junk, size_setRow, Array.size_append]) <;> omega)) (by (repeat' (first | (with_reducible assumption) | ((with_reducible refine heap_new ?_); (focus ((try simp only [World.size_alloc, size_junk, size_setRow, Array.size_append]) <;> omega))) | ((with_reducible refine heap_old ?_ ?_); (focus ((try simp only [World.size_alloc, size_junk, size_setRow, Array.size_append]) <;> omega))) | ((with_reducible refine heap_junk ?_ ?_); (focus ((try simp only [World.size_alloc, size_junk, size_setRow, Array.size_append]) <;> omega))) | ((with_reducible apply heap_setRow_same)) | ((with_reducible refine heap_setRow_other ?_ ?_); (focus ((try simp only [World.size_alloc, size_junk, size_setRow, Array.size_append]) <;> omega))))))) (Nat.le_refl _), by (repeat' (first | (with_reducible exact RowKit.Below.refl _ _) | (with_reducible assumption) | (with_reducible refine Below.drewN ?_ _) | (with_reducible refine below_junk0 ?_ ?_ _ _) | (with_reducible refine RowKit.Below.alloc ?_ ?_ _) | (with_reducible refine below_setRow0 ?_ ?_) | (with_reducible refine RowKit.Below.setCell ?_ ?_ _) | (with_reducible refine RowKit.Below.drew ?_) | go_size | (simp only [size_junk]; go_size) | (simp only [World.size_alloc, size_junk, size_setRow]; omega) | omega))⟩
  | true =>
    have ok : okL b := (okB_iff b).1 hok
    have HK := Hb.mk hok; clear hok
    obtain ⟨mv, hmvd⟩ : ∃ mv, mv = movesB b := ⟨_, rfl⟩
    have HE : Hid (dmB b = outU b mv mv.length) := Lib.hid (by unfold dmB; rw [HK.out, hmvd]; rfl)
    have hm4 : mv.length ≤ 4 := by rw [hmvd]; exact movesB_len b
    have hin : ∀ k, k < mv.length → ∃ d : Nat, mv.getD k 0 = d ∧ d < 4 := by rw [hmvd]; exact fun k hk => movesB_in hk
    have HIN := Lib.hid hin; clear hin
    have HMV := Lib.hid hmvd; clear hmvd
    go_enter Try.func31, Try.ntmps31
    go_wp2_with (first | ((with_reducible apply loadB (n := 16) (ty := 28) Try.underlying28); (focus with_unfolding_all exact rfl); (focus ((repeat' (first | (with_reducible assumption) | ((with_reducible refine heap_new ?_); (focus ((try simp only [World.size_alloc, size_junk, size_setRow, Array.size_append]) <;> omega))) | ((with_reducible refine heap_old ?_ ?_); (focus ((try simp only [World.size_alloc, size_junk, size_setRow, Array.size_append]) <;> omega))) | ((with_reducible refine heap_junk ?_ ?_); (focus ((try simp only [World.size_alloc, size_junk, size_setRow, Array.size_append]) <;> omega))) | ((with_reducible apply heap_setRow_same)) | ((with_reducible refine heap_setRow_other ?_ ?_); (focus ((try simp only [World.size_alloc, size_junk, size_setRow, Array.size_append]) <;> omega))))); done)); (focus rfl); (focus kernel_rfl); (focus exact hb)) | (go_at_call 33; refine (l2Board_list b hb _).mono ?_; rintro e w1 ⟨rfl, hb1⟩; rw [HK.out]; obtain ⟨_, _, rfl⟩ := junk_of_below hb1; clear hb1) | (go_at_call 34; refine (l2Moves_any b hb ok _).mono ?_; rintro e w1 ⟨vm, rfl, hmv, hb1⟩))
    by_cases hm0 : mv.length = 0
    · have hm0' : (movesB b).length = 0 := by rw [← HMV.out]; exact hm0
      rw [hm0'] at hmv
      obtain ⟨am, cm, rfl⟩ := own_shape hmv
      have hs1 := hb1.size
      simp only [World.size_alloc, size_junk] at hs1
      have hob : w1.heap[w.heap.size + 1]? = some (.cells #[] 3 (0, 0)) := (hb1.block _ (by ((try simp only [World.size_alloc, size_junk, size_setRow, Array.size_append]) <;> omega))).trans (by (repeat' (first | (with_reducible assumption) | ((with_reducible refine heap_new ?_); (focus ((try simp only [World.size_alloc, size_junk, size_setRow, Array.size_append]) <;> omega))) | ((with_reducible refine heap_old ?_ ?_); (focus ((try simp only [World.size_alloc, size_junk, size_setRow, Array.size_append]) <;> omega))) | ((with_reducible refine heap_junk ?_ ?_); (focus ((try simp only [World.size_alloc, size_junk, size_setRow, Array.size_append]) <;> omega))) | ((with_reducible apply heap_setRow_same)) | ((with_reducible refine heap_setRow_other ?_ ?_); (focus ((try simp only [World.size_alloc, size_junk, size_setRow, Array.size_append]) <;> omega))))))
      have HB := Lib.hid (Below.from0 (B := w.heap.size) (w := w) (by (repeat' (first | (with_reducible exact RowKit.Below.refl _ _) | (with_reducible assumption) | (with_reducible refine Below.drewN ?_ _) | (with_reducible refine below_junk0 ?_ ?_ _ _) | (with_reducible refine RowKit.Below.alloc ?_ ?_ _) | (with_reducible refine below_setRow0 ?_ ?_) | (with_reducible refine RowKit.Below.setCell ?_ ?_ _) | (with_reducible refine RowKit.Below.drew ?_) | go_size | (simp only [size_junk]; go_size) | (simp only [World.size_alloc, size_junk, size_setRow]; omega) | omega))) (by ((try simp only [World.size_alloc, size_junk, size_setRow, Array.size_append]) <;> omega)) hb1)
      have HOB := Lib.hid hob
      clear hmv hb1 hob hm0'
      have HM0 := Lib.hid hm0; clear hm0 hm4
      refine wp_loop_rounds 2 ?_
      rw [rounds_succ]; go_wp2
      go_ret2
      exact ⟨_, by rw [HK.out]; rfl, by (rw [HE.out, HM0.out]; exact own_base (own_empty (B := w.heap.size + 1) (Nat.le_refl _) HOB.out) (Nat.le_succ _)), HB.out⟩
    · rw [← HMV.out] at hmv
      rcases hmv.2 with ⟨_, h⟩ | ⟨gm, cm, cur, rfl, hbm, hblk, hnc, hcm, hcs, htk⟩
      · exact absurd h hm0
      have hcur : ∀ j, j < mv.length → cur[j]? = some (.int .i64 (mv.getD j 0)) := fun j hj => by
        have h1 : (cur.toList.take (mv.length * 1))[j]? = (mv.map (Value.int .i64))[j]? := by rw [htk]
        rw [List.getElem?_take, if_pos (by omega), Array.getElem?_toList] at h1
        rw [h1, List.getElem?_map, List.getD_eq_getElem?_getD, List.getElem?_eq_getElem hj]; rfl
      have hbm' : w.heap.size + 3 ≤ gm := by simp only [World.size_alloc, size_junk] at hbm; omega
      obtain ⟨n, hN⟩ : ∃ n, n = mv.length := ⟨_, rfl⟩
      rw [← hN] at hm4 hcur HE HIN hnc ⊢
      have HCUR := Lib.hid hcur
      have HN := Lib.hid hN
      have hs1 := hb1.size
      simp only [World.size_alloc, size_junk] at hs1
      have hini : DmI w w1 b mv 0 (.slice (some ⟨w.heap.size + 1, 0, none⟩) 0 0) (w.heap.size + 1 + 1) 0 gm (.cells cur 3 (0, 0)) :=
        ⟨own_empty (Nat.le_refl _) ((hb1.block _ (by ((try simp only [World.size_alloc, size_junk, size_setRow, Array.size_append]) <;> omega))).trans (by (repeat' (first | (with_reducible assumption) | ((with_reducible refine heap_new ?_); (focus ((try simp only [World.size_alloc, size_junk, size_setRow, Array.size_append]) <;> omega))) | ((with_reducible refine heap_old ?_ ?_); (focus ((try simp only [World.size_alloc, size_junk, size_setRow, Array.size_append]) <;> omega))) | ((with_reducible refine heap_junk ?_ ?_); (focus ((try simp only [World.size_alloc, size_junk, size_setRow, Array.size_append]) <;> omega))) | ((with_reducible apply heap_setRow_same)) | ((with_reducible refine heap_setRow_other ?_ ?_); (focus ((try simp only [World.size_alloc, size_junk, size_setRow, Array.size_append]) <;> omega))))))), OwnBd.empty (by omega) ((hb1.block _ (by ((try simp only [World.size_alloc, size_junk, size_setRow, Array.size_append]) <;> omega))).trans (by (repeat' (first | (with_reducible assumption) | ((with_reducible refine heap_new ?_); (focus ((try simp only [World.size_alloc, size_junk, size_setRow, Array.size_append]) <;> omega))) | ((with_reducible refine heap_old ?_ ?_); (focus ((try simp only [World.size_alloc, size_junk, size_setRow, Array.size_append]) <;> omega))) | ((with_reducible refine heap_junk ?_ ?_); (focus ((try simp only [World.size_alloc, size_junk, size_setRow, Array.size_append]) <;> omega))) | ((with_reducible apply heap_setRow_same)) | ((with_reducible refine heap_setRow_other ?_ ?_); (focus ((try simp only [World.size_alloc, size_junk, size_setRow, Array.size_append]) <;> omega))))))), fun q hq => by (simp [Value.ownBlock] at hq; omega), hblk,
          (hb1.block _ (by ((try simp only [World.size_alloc, size_junk, size_setRow, Array.size_append]) <;> omega))).trans (by (repeat' (first | (with_reducible assumption) | ((with_reducible refine heap_new ?_); (focus ((try simp only [World.size_alloc, size_junk, size_setRow, Array.size_append]) <;> omega))) | ((with_reducible refine heap_old ?_ ?_); (focus ((try simp only [World.size_alloc, size_junk, size_setRow, Array.size_append]) <;> omega))) | ((with_reducible refine heap_junk ?_ ?_); (focus ((try simp only [World.size_alloc, size_junk, size_setRow, Array.size_append]) <;> omega))) | ((with_reducible apply heap_setRow_same)) | ((with_reducible refine heap_setRow_other ?_ ?_); (focus ((try simp only [World.size_alloc, size_junk, size_setRow, Array.size_append]) <;> omega)))))), Below.from0 (by (repeat' (first | (with_reducible exact RowKit.Below.refl _ _) | (with_reducible assumption) | (with_reducible refine Below.drewN ?_ _) | (with_reducible refine below_junk0 ?_ ?_ _ _) | (with_reducible refine RowKit.Below.alloc ?_ ?_ _) | (with_reducible refine below_setRow0 ?_ ?_) | (with_reducible refine RowKit.Below.setCell ?_ ?_ _) | (with_reducible refine RowKit.Below.drew ?_) | go_size | (simp only [size_junk]; go_size) | (simp only [World.size_alloc, size_junk, size_setRow]; omega) | omega))) (by ((try simp only [World.size_alloc, size_junk, size_setRow, Array.size_append]) <;> omega)) hb1, by omega⟩
      have HINI := Lib.hid hini
      clear hmv hb1 hblk hcs htk hcur hN hini hcm hbm hm0
      go_loopw [4, 5, 7] (fun v4 v5 v7 wr => ∃ k gs cs : Nat, k ≤ n ∧ v7 = .int .i64 k ∧ v5 = .slice (some ⟨gs, 0, none⟩) (seU b mv k).length cs ∧ DmI w wr b mv k v4 gs cs gm (.cells cur 3 (0, 0)))
        (fun _ _ v7 _ => n - (intOf v7).toNat)
      case atStart => exact ⟨0, _, 0, by omega, rfl, rfl, HINI.out⟩
      case round =>
        obtain ⟨k, gs, cs, hk, rfl, rfl, hD⟩ := hrel
        rename World => wr0
        obtain ⟨hout, hseen, hdis, hmvs, hbox, hbel, hsz⟩ := hD
        have hsm := seU_many b mv k
        have hom := outU_many b mv k
        rcases Nat.lt_or_ge k n with hkn | hkn
        · obtain ⟨dk, hdk, hdk4⟩ := HIN.out k hkn
          have hcell : wr0.cell? ⟨gm, k, none⟩ = some (.int .i64 (dk : Int)) := by rw [cell_of_row _ _ _ _ _ _ hmvs, HCUR.out k hkn, hdk]
          have hgr : gm < wr0.heap.size := (Array.getElem?_eq_some_iff.1 hmvs).1
          have hsb := scoreB_bd ok dk
          have HD := Lib.hid hdk; clear hdk
          go_upto_region 8 with fail
          refine wp_region_steps [some 28, some 29, some 30, some 31, some 32, some 33, some 27, some 34, some 35, some 8, none, some 9] (VMc b k dk gm n cm wr0) (fun w' => Below wr0.heap.size wr0 w') (by kernel_rfl) (by kernel_rfl) (by kernel_rfl) (Below.drewN (Below.refl _ _) 1) ?_ ?_
          · intro i o ho us w' K hul hw hdep hK
            obtain ⟨u0, u1, u2, u3, u4, u5, u6, u7, u8, u9, u10, u11, rfl⟩ := list12 us hul
            have hcw : w'.cell? ⟨gm, k, none⟩ = some (.int .i64 (dk : Int)) := by rw [hw.cell (p := ⟨gm, k, none⟩) hgr, hcell]
            have hbw : w'.heap[w.heap.size]? = some (.cells (cellsB b) 28 (0, 0)) := by rw [hw.block _ (by omega)]; exact hbox
            match i with
            | 0 =>
              cases ho
              clear hdep
              simp only [putAll, Act.put, List.setIfInBounds_toArray, List.set_cons_zero, List.set_cons_succ] at hK ⊢
              go_wp2_with ((with_reducible apply loadB (n := 16) (ty := 28) Try.underlying28); (focus with_unfolding_all exact rfl); (focus ((repeat' (first | (with_reducible assumption) | ((with_reducible refine heap_new ?_); (focus ((try simp only [World.size_alloc, size_junk, size_setRow, Array.size_append]) <;> omega))) | ((with_reducible refine heap_old ?_ ?_); (focus ((try simp only [World.size_alloc, size_junk, size_setRow, Array.size_append]) <;> omega))) | ((with_reducible refine heap_junk ?_ ?_); (focus ((try simp only [World.size_alloc, size_junk, size_setRow, Array.size_append]) <;> omega))) | ((with_reducible apply heap_setRow_same)) | ((with_reducible refine heap_setRow_other ?_ ?_); (focus ((try simp only [World.size_alloc, size_junk, size_setRow, Array.size_append]) <;> omega))))); done)); (focus rfl); (focus kernel_rfl); (focus exact hb))
              exact hK _ _ rfl (fun j oj hji _ _ h => VMc_keeps j hji (by omega) (fun _ _ h => h) h) hw
            | 1 =>
              cases ho
              clear hdep
              simp only [putAll, Act.put, List.setIfInBounds_toArray, List.set_cons_zero, List.set_cons_succ] at hK ⊢
              go_wp2
              exact hK _ _ rfl (fun j oj hji _ _ h => VMc_keeps j hji (by omega) (fun _ _ h => h) h) hw
            | 2 =>
              cases ho
              clear hdep
              simp only [putAll, Act.put, List.setIfInBounds_toArray, List.set_cons_zero, List.set_cons_succ] at hK ⊢
              go_wp2
              exact hK _ _ rfl (fun j oj hji _ _ h => VMc_keeps j hji (by omega) (fun _ _ h => h) h) hw
            | 3 =>
              cases ho
              have d1 : VMc b k dk gm n cm wr0 1 _ w' := hdep { on := 1, ground := Ground.data } (by simp) rfl
              have d1 : u1 = _ := d1
              subst d1
              have d2 : VMc b k dk gm n cm wr0 2 _ w' := hdep { on := 2, ground := Ground.data } (by simp) rfl
              have d2 : u2 = _ := d2
              subst d2
              clear hdep
              simp only [putAll, Act.put, List.setIfInBounds_toArray, List.set_cons_zero, List.set_cons_succ] at hK ⊢
              go_wp2
              exact hK _ _ rfl (fun j oj hji _ _ h => VMc_keeps j hji (by omega) (fun _ _ h => h) h) hw
            | 4 =>
              cases ho
              have d3 : VMc b k dk gm n cm wr0 3 _ w' := hdep { on := 3, ground := Ground.data } (by simp) rfl
              have d3 : u3 = _ := d3
              subst d3
              clear hdep
              simp only [putAll, Act.put, List.setIfInBounds_toArray, List.set_cons_zero, List.set_cons_succ] at hK ⊢
              go_wp2
              exact hK _ _ rfl (fun j oj hji _ _ h => VMc_keeps j hji (by omega) (fun _ _ h => h) h) hw
            | 5 =>
              cases ho
              have d0 : VMc b k dk gm n cm wr0 0 _ w' := hdep { on := 0, ground := Ground.data } (by simp) rfl
              have d0 : u0 = _ := d0
              subst d0
              have d4 : VMc b k dk gm n cm wr0 4 _ w' := hdep { on := 4, ground := Ground.data } (by simp) rfl
              have d4 : u4 = _ := d4
              subst d4
              clear hdep
              simp only [putAll, Act.put, List.setIfInBounds_toArray, List.set_cons_zero, List.set_cons_succ] at hK ⊢
              go_wp2_with (go_at_call 52; refine (l2Slide_any b hb ok dk hdk4 _).mono ?_; rintro e w1 ⟨rfl, hb1⟩)
              refine hK _ _ rfl (fun j oj hji _ _ h => VMc_keeps j hji (by omega) (below_keeps hb1) h) (hw.trans (hb1.mono hw.size))
            | 6 =>
              cases ho
              have d5 : VMc b k dk gm n cm wr0 5 _ w' := hdep { on := 5, ground := Ground.data } (by simp) rfl
              have d5 : u5 = _ := d5
              subst d5
              clear hdep
              simp only [putAll, Act.put, List.setIfInBounds_toArray, List.set_cons_zero, List.set_cons_succ] at hK ⊢
              go_wp2
              exact hK _ _ rfl (fun j oj hji _ _ h => VMc_keeps j hji (by omega) (fun _ _ h => h) h) hw
            | 7 =>
              cases ho
              have d6 : VMc b k dk gm n cm wr0 6 _ w' := hdep { on := 6, ground := Ground.data } (by simp) rfl
              have d6 : u6 = _ := d6
              subst d6
              clear hdep
              simp only [putAll, Act.put, List.setIfInBounds_toArray, List.set_cons_zero, List.set_cons_succ] at hK ⊢
              go_wp2
              exact hK _ _ rfl (fun j oj hji _ _ h => VMc_keeps j hji (by omega) (fun _ _ h => h) h) hw
            | 8 =>
              cases ho
              have d6 : VMc b k dk gm n cm wr0 6 _ w' := hdep { on := 6, ground := Ground.data } (by simp) rfl
              have d6 : u6 = _ := d6
              subst d6
              clear hdep
              simp only [putAll, Act.put, List.setIfInBounds_toArray, List.set_cons_zero, List.set_cons_succ] at hK ⊢
              go_wp2
              exact hK _ _ rfl (fun j oj hji _ _ h => VMc_keeps j hji (by omega) (fun _ _ h => h) h) hw
            | 9 =>
              cases ho
              clear hdep
              simp only [putAll, Act.put, List.setIfInBounds_toArray, List.set_cons_zero, List.set_cons_succ] at hK ⊢
              go_wp2
              refine hK _ _ ⟨_, rfl, hw.size, _, heap_new rfl, rfl⟩ (fun j oj hji hoj hd h => VMc_keeps j hji (fun hj => by subst hj; cases hoj; exact absurd rfl (hd { on := 9, ground := Ground.data } (by simp) rfl)) (below_keeps ((Below.refl _ _).alloc (Nat.le_refl _) _)) h) (hw.alloc hw.size _)
            | 10 =>
              cases ho
              have d9 : VMc b k dk gm n cm wr0 9 _ w' := hdep { on := 9, ground := Ground.data } (by simp) rfl
              obtain ⟨h, d9, hwh, cur, hcur, hcs⟩ := d9
              have d9 : u9 = _ := d9
              subst d9
              have d7 : VMc b k dk gm n cm wr0 7 _ w' := hdep { on := 7, ground := Ground.data } (by simp) rfl
              have d7 : u7 = _ := d7
              subst d7
              clear hdep
              simp only [putAll, Act.put, List.setIfInBounds_toArray, List.set_cons_zero, List.set_cons_succ] at hK ⊢
              (with_reducible apply storeB (n := 16) (ty := 28)); (focus with_unfolding_all exact rfl); (focus with_unfolding_all exact rfl); (focus exact hcur); (focus kernel_rfl); (focus exact hcs); (focus simp [hb, slideB_length]); (focus exact rfl)
              refine hK undef _ ⟨h, rfl, heap_setRow_same hcur⟩ (fun j oj hji _ _ hh => VMc_store j hji hcur (by simp [size_cellsB, hb, slideB_length]) hh) (below_setRow0 hwh hw)
            | 11 =>
              cases ho
              have d8 : VMc b k dk gm n cm wr0 8 _ w' := hdep { on := 8, ground := Ground.data } (by simp) rfl
              have d8 : u8 = _ := d8
              subst d8
              clear hdep
              simp only [putAll, Act.put, List.setIfInBounds_toArray, List.set_cons_zero, List.set_cons_succ] at hK ⊢
              go_wp2
              exact hK _ _ rfl (fun j oj hji _ _ h => VMc_keeps j hji (by omega) (fun _ _ h => h) h) hw
            | i + 12 => simp at ho
          · intro us w' hul hw hv
            obtain ⟨u0, u1, u2, u3, u4, u5, u6, u7, u8, u9, u10, u11, rfl⟩ := list12 us hul
            have d9 := hv 9 (by decide)
            have d10 := hv 10 (by decide)
            have d11 : u11 = _ := hv 11 (by decide)
            obtain ⟨h, d9, hwh, _⟩ := d9
            have d9 : u9 = _ := d9
            subst d9 d11
            obtain ⟨h', d9', hcu2⟩ := d10
            have d9' : Value.pointer (some ⟨h, 0, none⟩) = Value.pointer (some ⟨h', 0, none⟩) := d9'
            obtain rfl : h = h' := by simpa using d9'
            clear hv d9'
            have HNL := Lib.hid (show (slideB b dk).length = 16 by rw [slideB_length, hb])
            have hpw := pres_below hw
            have hout2 := own_pres hout hpw
            have hseen2 := hseen.pres hpw
            have hmvs2 := hpw _ _ hmvs
            have hbox2 := hpw _ _ hbox
            have hbel2 : Below w.heap.size w w' := Below.from0 hbel (by omega) hw
            have hsz2 := Nat.le_trans hsz hw.size
            have hgsl : gs < w'.heap.size := (own_block_lt hseen2 rfl).2
            have hwh2 : h < w'.heap.size := (Array.getElem?_eq_some_iff.1 hcu2).1
            clear hout hseen hmvs hbox hbel hsz hpw hw
            obtain ⟨fd, hfd⟩ : ∃ fd, fd = formD b (mv.getD k 0) := ⟨_, rfl⟩
            have hfe : (firstB (slideB b dk)).1 = fd := by rw [hfd, formD, HD.out]; rfl
            have hfo : okL fd := by rw [hfd]; exact formD_ok ok _
            have HFL := Lib.hid (show fd.length = 16 by rw [hfd]; exact formD_len hb _)
            have hfi := fun w => l3First_any (slideB b dk) HNL.out w
            rw [hfe] at hfi
            have HFI : Hid (∀ w, Calls Try.prog 38 #[aggB (slideB b dk)] w fun e w' => e = .returned (.tuple #[aggB fd, .int .i64 (firstB (slideB b dk)).2]) ∧ RowKit.Below w.heap.size w w') := Lib.hid (fun w => (hfi w).mono fun _ _ h => h.2)
            have HSW : Hid (∀ x ∈ seU b mv k, wfL x) := Lib.hid (fun x hx => wfL_ok (knU_ok ok mv k x ((seU_mem b mv k x).1 hx)))
            have HFD := Lib.hid hfd
            clear hfi hfe hfd
            simp only [putAll, Act.put, List.setIfInBounds_toArray, List.set_cons_zero, List.set_cons_succ]
            by_cases hmem : fd ∈ knU b mv k
            · have hsame : addL (seU b mv k) fd = seU b mv k := addL_hit (seU_len hb mv k) (seU_asc hb mv k) ((seU_mem b mv k fd).2 hmem)
              have HSA := Lib.hid hsame
              have HME := Lib.hid (show formD b (mv.getD k 0) ∈ knU b mv k by rw [← HFD.out]; exact hmem)
              clear hsame hmem
              have HLE := Lib.hid (show decide ((seU b mv k).length < (addL (seU b mv k) fd).length) = false by rw [HSA.out]; exact decide_eq_false (Nat.lt_irrefl _))
              have HS1 : Hid (seU b mv (k + 1) = seU b mv k) := Lib.hid (by rw [seU, if_pos HME.out])
              have HO1 : Hid (outU b mv (k + 1) = outU b mv k) := Lib.hid (by rw [outU, if_pos HME.out])
              go_upto_region 11 with (first | ((with_reducible apply loadB (n := 16) (ty := 28) Try.underlying28); (focus with_unfolding_all exact rfl); (focus ((repeat' (first | (with_reducible assumption) | ((with_reducible refine heap_new ?_); (focus ((try simp only [World.size_alloc, size_junk, size_setRow, Array.size_append]) <;> omega))) | ((with_reducible refine heap_old ?_ ?_); (focus ((try simp only [World.size_alloc, size_junk, size_setRow, Array.size_append]) <;> omega))) | ((with_reducible refine heap_junk ?_ ?_); (focus ((try simp only [World.size_alloc, size_junk, size_setRow, Array.size_append]) <;> omega))) | ((with_reducible apply heap_setRow_same)) | ((with_reducible refine heap_setRow_other ?_ ?_); (focus ((try simp only [World.size_alloc, size_junk, size_setRow, Array.size_append]) <;> omega))))); done)); (focus rfl); (focus kernel_rfl); (focus (first | (with_reducible exact HNL.out) | (with_reducible exact HFL.out) | (with_reducible exact hb) | rfl))) | ((with_reducible apply storeB (n := 16) (ty := 28)); (focus with_unfolding_all exact rfl); (focus with_unfolding_all exact rfl); (focus ((repeat' (first | (with_reducible assumption) | ((with_reducible refine heap_new ?_); (focus ((try simp only [World.size_alloc, size_junk, size_setRow, Array.size_append]) <;> omega))) | ((with_reducible refine heap_old ?_ ?_); (focus ((try simp only [World.size_alloc, size_junk, size_setRow, Array.size_append]) <;> omega))) | ((with_reducible refine heap_junk ?_ ?_); (focus ((try simp only [World.size_alloc, size_junk, size_setRow, Array.size_append]) <;> omega))) | ((with_reducible apply heap_setRow_same)) | ((with_reducible refine heap_setRow_other ?_ ?_); (focus ((try simp only [World.size_alloc, size_junk, size_setRow, Array.size_append]) <;> omega))))); done)); (focus kernel_rfl); (focus (first | (rw [size_cellsB]; (first | (with_reducible exact HNL.out) | (with_reducible exact HFL.out) | (with_reducible exact hb) | rfl)) | kernel_rfl)); (focus (first | (with_reducible exact HNL.out) | (with_reducible exact HFL.out) | (with_reducible exact hb) | rfl)); (focus ((repeat' (first | ((with_reducible apply setRow_new); (focus ((try simp only [World.size_alloc, size_junk, size_setRow, Array.size_append]) <;> omega))) | ((with_reducible apply setRow_old'); (focus ((try simp only [World.size_alloc, size_junk, size_setRow, Array.size_append]) <;> omega))) | ((with_reducible apply setRow_junk'); (focus ((try simp only [World.size_alloc, size_junk, size_setRow, Array.size_append]) <;> omega))) | (with_reducible exact rfl))); done))) | (go_at_call 38; refine (HFI.out _).mono ?_; rintro e w1 ⟨rfl, hb1⟩; obtain ⟨_, _, rfl⟩ := junk_of_below hb1; clear hb1) | (go_at_call 53; refine (l3Add_any (seU b mv k) fd HFL.out (wfL_ok hfo) HSW.out (w.heap.size + 1) gs cs _ (by (repeat' (first | (with_reducible assumption) | (with_reducible apply OwnBd.junk) | (with_reducible apply OwnBd.alloc)))) (by omega) (by ((try simp only [World.size_alloc, size_junk, size_setRow, Array.size_append]) <;> omega)) (by ((try simp only [World.size_alloc, size_junk, size_setRow, Array.size_append]) <;> omega))).mono ?_; rintro e w2 ⟨g2, c2, rfl, hown2, hb2, hor⟩))
              have hlen := HLE.out
              have hp2 : ∀ (q : Nat) (r : Obj), w'.heap[q]? = some r → w2.heap[q]? = some r := fun q r hq => pres_below hb2 q r (by have hql := (Array.getElem?_eq_some_iff.1 hq).1; (repeat' (first | (with_reducible assumption) | ((with_reducible refine heap_new ?_); (focus ((try simp only [World.size_alloc, size_junk, size_setRow, Array.size_append]) <;> omega))) | ((with_reducible refine heap_old ?_ ?_); (focus ((try simp only [World.size_alloc, size_junk, size_setRow, Array.size_append]) <;> omega))) | ((with_reducible refine heap_junk ?_ ?_); (focus ((try simp only [World.size_alloc, size_junk, size_setRow, Array.size_append]) <;> omega))) | ((with_reducible apply heap_setRow_same)) | ((with_reducible refine heap_setRow_other ?_ ?_); (focus ((try simp only [World.size_alloc, size_junk, size_setRow, Array.size_append]) <;> omega))))))
              have hbel3 : Below w.heap.size w w2 := Below.from0 (by (repeat' (first | (with_reducible exact RowKit.Below.refl _ _) | (with_reducible assumption) | (with_reducible refine Below.drewN ?_ _) | (with_reducible refine below_junk0 ?_ ?_ _ _) | (with_reducible refine RowKit.Below.alloc ?_ ?_ _) | (with_reducible refine below_setRow0 ?_ ?_) | (with_reducible refine RowKit.Below.setCell ?_ ?_ _) | (with_reducible refine RowKit.Below.drew ?_) | go_size | (simp only [size_junk]; go_size) | (simp only [World.size_alloc, size_junk, size_setRow]; omega) | omega))) (by ((try simp only [World.size_alloc, size_junk, size_setRow, Array.size_append]) <;> omega)) hb2
              have hsz3 := hbel3.size
              have HD2 : Hid (DmI w w2 b mv (k + 1) _ gs cs gm (.cells cur 3 (0, 0))) := Lib.hid ⟨by rw [HO1.out]; exact own_pres hout2 hp2, by rw [HS1.out]; exact hseen2.pres hp2, hdis, hp2 _ _ hmvs2, hp2 _ _ hbox2, hbel3, by have := (Array.getElem?_eq_some_iff.1 (hp2 _ _ hbox2)).1; omega⟩
              clear hout2 hseen2 hdis hmvs2 hbox2 hbel2 hsz2 hown2 hb2 hor hp2 hbel3 hcu2 hsz3
              go_wp2
              go_roundw
              case rel => exact ⟨k + 1, gs, cs, by omega, by go_num, by rw [HS1.out], HD2.out⟩
              case measure => simp [intOf]; omega
            · have hmiss : (addL (seU b mv k) fd).length = (seU b mv k).length + 1 := addL_miss (fun h => hmem ((seU_mem b mv k fd).1 h))
              have HME := Lib.hid (show ¬ formD b (mv.getD k 0) ∈ knU b mv k by rw [← HFD.out]; exact hmem)
              have HLE := Lib.hid (show decide ((seU b mv k).length < (addL (seU b mv k) fd).length) = true by rw [hmiss]; exact decide_eq_true (Nat.lt_succ_self _))
              clear hmiss hmem
              have HS1 : Hid (seU b mv (k + 1) = addL (seU b mv k) fd) := Lib.hid (by rw [seU, if_neg HME.out, HFD.out])
              have HO1 : Hid (outU b mv (k + 1) = outU b mv k ++ [(dk : Int)]) := Lib.hid (by rw [outU, if_neg HME.out, HD.out])
              go_upto_region 11 with (first | ((with_reducible apply loadB (n := 16) (ty := 28) Try.underlying28); (focus with_unfolding_all exact rfl); (focus ((repeat' (first | (with_reducible assumption) | ((with_reducible refine heap_new ?_); (focus ((try simp only [World.size_alloc, size_junk, size_setRow, Array.size_append]) <;> omega))) | ((with_reducible refine heap_old ?_ ?_); (focus ((try simp only [World.size_alloc, size_junk, size_setRow, Array.size_append]) <;> omega))) | ((with_reducible refine heap_junk ?_ ?_); (focus ((try simp only [World.size_alloc, size_junk, size_setRow, Array.size_append]) <;> omega))) | ((with_reducible apply heap_setRow_same)) | ((with_reducible refine heap_setRow_other ?_ ?_); (focus ((try simp only [World.size_alloc, size_junk, size_setRow, Array.size_append]) <;> omega))))); done)); (focus rfl); (focus kernel_rfl); (focus (first | (with_reducible exact HNL.out) | (with_reducible exact HFL.out) | (with_reducible exact hb) | rfl))) | ((with_reducible apply storeB (n := 16) (ty := 28)); (focus with_unfolding_all exact rfl); (focus with_unfolding_all exact rfl); (focus ((repeat' (first | (with_reducible assumption) | ((with_reducible refine heap_new ?_); (focus ((try simp only [World.size_alloc, size_junk, size_setRow, Array.size_append]) <;> omega))) | ((with_reducible refine heap_old ?_ ?_); (focus ((try simp only [World.size_alloc, size_junk, size_setRow, Array.size_append]) <;> omega))) | ((with_reducible refine heap_junk ?_ ?_); (focus ((try simp only [World.size_alloc, size_junk, size_setRow, Array.size_append]) <;> omega))) | ((with_reducible apply heap_setRow_same)) | ((with_reducible refine heap_setRow_other ?_ ?_); (focus ((try simp only [World.size_alloc, size_junk, size_setRow, Array.size_append]) <;> omega))))); done)); (focus kernel_rfl); (focus (first | (rw [size_cellsB]; (first | (with_reducible exact HNL.out) | (with_reducible exact HFL.out) | (with_reducible exact hb) | rfl)) | kernel_rfl)); (focus (first | (with_reducible exact HNL.out) | (with_reducible exact HFL.out) | (with_reducible exact hb) | rfl)); (focus ((repeat' (first | ((with_reducible apply setRow_new); (focus ((try simp only [World.size_alloc, size_junk, size_setRow, Array.size_append]) <;> omega))) | ((with_reducible apply setRow_old'); (focus ((try simp only [World.size_alloc, size_junk, size_setRow, Array.size_append]) <;> omega))) | ((with_reducible apply setRow_junk'); (focus ((try simp only [World.size_alloc, size_junk, size_setRow, Array.size_append]) <;> omega))) | (with_reducible exact rfl))); done))) | (go_at_call 38; refine (HFI.out _).mono ?_; rintro e w1 ⟨rfl, hb1⟩; obtain ⟨_, _, rfl⟩ := junk_of_below hb1; clear hb1) | (go_at_call 53; refine (l3Add_any (seU b mv k) fd HFL.out (wfL_ok hfo) HSW.out (w.heap.size + 1) gs cs _ (by (repeat' (first | (with_reducible assumption) | (with_reducible apply OwnBd.junk) | (with_reducible apply OwnBd.alloc)))) (by omega) (by ((try simp only [World.size_alloc, size_junk, size_setRow, Array.size_append]) <;> omega)) (by ((try simp only [World.size_alloc, size_junk, size_setRow, Array.size_append]) <;> omega))).mono ?_; rintro e w2 ⟨g2, c2, rfl, hown2, hb2, hor⟩))
              have hlen := HLE.out
              have hp2 : ∀ (q : Nat) (r : Obj), w'.heap[q]? = some r → w2.heap[q]? = some r := fun q r hq => pres_below hb2 q r (by have hql := (Array.getElem?_eq_some_iff.1 hq).1; (repeat' (first | (with_reducible assumption) | ((with_reducible refine heap_new ?_); (focus ((try simp only [World.size_alloc, size_junk, size_setRow, Array.size_append]) <;> omega))) | ((with_reducible refine heap_old ?_ ?_); (focus ((try simp only [World.size_alloc, size_junk, size_setRow, Array.size_append]) <;> omega))) | ((with_reducible refine heap_junk ?_ ?_); (focus ((try simp only [World.size_alloc, size_junk, size_setRow, Array.size_append]) <;> omega))) | ((with_reducible apply heap_setRow_same)) | ((with_reducible refine heap_setRow_other ?_ ?_); (focus ((try simp only [World.size_alloc, size_junk, size_setRow, Array.size_append]) <;> omega))))))
              have hbel3 : Below w.heap.size w w2 := Below.from0 (by (repeat' (first | (with_reducible exact RowKit.Below.refl _ _) | (with_reducible assumption) | (with_reducible refine Below.drewN ?_ _) | (with_reducible refine below_junk0 ?_ ?_ _ _) | (with_reducible refine RowKit.Below.alloc ?_ ?_ _) | (with_reducible refine below_setRow0 ?_ ?_) | (with_reducible refine RowKit.Below.setCell ?_ ?_ _) | (with_reducible refine RowKit.Below.drew ?_) | go_size | (simp only [size_junk]; go_size) | (simp only [World.size_alloc, size_junk, size_setRow]; omega) | omega))) (by ((try simp only [World.size_alloc, size_junk, size_setRow, Array.size_append]) <;> omega)) hb2
              have hout3 := own_pres hout2 hp2
              have hmvs3 := hp2 _ _ hmvs2
              have hbox3 := hp2 _ _ hbox2
              have hcell3 : w2.cell? ⟨gm, k, none⟩ = some (.int .i64 (dk : Int)) := by rw [cell_of_row _ _ _ _ _ _ hmvs3, HCUR.out k hkn, HD.out]
              have hbl3 := (Array.getElem?_eq_some_iff.1 hbox3).1
              have hdis3 : ∀ q, Value.ownBlock _ = some q → q ≠ g2 ∧ q ≠ gm := fun q hq => by
                have h1 := hdis q hq
                have h2 := (hout2.lt q hq).2
                refine ⟨?_, h1.2⟩
                rcases hor with h3 | h3
                · rw [h3]; exact h1.1
                · simp only [World.size_alloc, size_junk, size_setRow] at h3; omega
              have HDI := Lib.hid hdis3
              have HDS := Lib.hid hdis
              have HW2 := Lib.hid hown2
              have HOL := Lib.hid (fun q (hq : Value.ownBlock _ = some q) => (hout3.lt q hq).1)
              clear hdis3 hdis hown2 hseen2 hout2 hmvs2 hbox2 hbel2 hsz2 hb2 hor hp2 hcu2
              go_wp2_with (at_builtin; go_must ((with_reducible apply appendI2 (B := w.heap.size + 1)); (focus ((repeat' (first | (with_reducible assumption) | (with_reducible apply own_junk) | (with_reducible apply World.ownsRow.alloc))); done)); (focus with_unfolding_all exact rfl); (focus with_unfolding_all exact rfl); (focus ((repeat' (first | (with_reducible assumption) | ((with_reducible refine heap_new ?_); (focus ((try simp only [World.size_alloc, size_junk, size_setRow, Array.size_append]) <;> omega))) | ((with_reducible refine heap_old ?_ ?_); (focus ((try simp only [World.size_alloc, size_junk, size_setRow, Array.size_append]) <;> omega))) | ((with_reducible refine heap_junk ?_ ?_); (focus ((try simp only [World.size_alloc, size_junk, size_setRow, Array.size_append]) <;> omega))) | ((with_reducible apply heap_setRow_same)) | ((with_reducible refine heap_setRow_other ?_ ?_); (focus ((try simp only [World.size_alloc, size_junk, size_setRow, Array.size_append]) <;> omega))))); done)); (focus omega); (focus ((try simp only [World.size_alloc, size_junk, size_setRow, Array.size_append]) <;> omega)); (intro v1 w3 hown3 hd3)))
              go_roundw
              case rel => exact ⟨k + 1, g2, c2, by omega, by go_num, by rw [HS1.out], ⟨by rw [HO1.out]; exact hown3, by rw [HS1.out]; exact ⟨HW2.out.len, (hd3.other _ _ _ _ _ _ ((HW2.out.alloc _).own) (fun q hq h2 => (HDI.out q h2).1 (by simpa [Value.ownBlock] using hq.symm))).1⟩,
                fun q hq => ⟨fun h => (hd3.other _ _ _ _ _ _ ((HW2.out.alloc _).own) (fun q hq h2 => (HDI.out q h2).1 (by simpa [Value.ownBlock] using hq.symm))).2 g2 rfl (by rw [hq, h]), fun h => (hd3.block gm _ (heap_old (Array.getElem?_eq_some_iff.1 hmvs3).1 hmvs3) (fun h2 => (HDI.out _ h2).2 rfl)).2 (by rw [hq, h])⟩,
                (hd3.block gm _ (heap_old (Array.getElem?_eq_some_iff.1 hmvs3).1 hmvs3) (fun h2 => (HDI.out _ h2).2 rfl)).1, (hd3.block _ _ (heap_old hbl3 hbox3) (fun h2 => by have := HOL.out _ h2; omega)).1, apd_below hd3 (hbel3.alloc hbel3.size _) (by simp; omega) (fun q hq => by have := HOL.out q hq; omega), Nat.le_trans (by simp; omega) hd3.grown.size⟩⟩
              case measure => simp [intOf]; omega
        · obtain rfl : k = n := by omega
          have HO := Lib.hid hout; have HBL := Lib.hid hbel
          clear hout hseen hdis hmvs hbox hbel hsz
          go_wp2
          go_ret2
          exact ⟨_, by rw [HK.out]; rfl, by (rw [HE.out]; exact own_base HO.out (Nat.le_succ _)), HBL.out⟩
end Go.Proofs.Ytgkfhppmopmgjaa

/- Walks of single functions of the given Go program, printed by a program of mine; each theorem says what the function returns. -/
namespace Go.Proofs.Ytgkfhppmopmgjaa
open Go.RowKit Pl Go.Lib Go.Shelf

theorem slides_one (b : List Int) (hb : b.length = 16) (ok : okL b) (d : Nat) (hd : d < 4) (g c : Nat) (w : World) (hg : w.heap[g]? = some (.cells #[.int .i64 d] 3 (0, 0))) :
    Calls Try.prog 43 #[aggB b, .slice (some ⟨g, 0, none⟩) 1 c] w fun e' w' => e' = .returned (aggB (slideB b d)) ∧ RowKit.Below w.heap.size w w' := by
  refine slides_any b hb ok [(d : Int)] (fun k hk => ?_) g c w (Array.getElem?_eq_some_iff.1 hg).1 (by simp) (fun k hk => ?_)
  · match k, hk with
    | 0, _ => simp; omega
  · match k, hk with
    | 0, _ => rw [cell_of_row w g 0 _ 3 (0, 0) hg]; rfl

/-- What the operations of the region that lengthens both lists have told; L: which are done. -/
def VDm (ol : List Int) (kl : List (List Int)) (f : List Int) (d : Nat) (vo vk : Value) (gm B0 Bw : Nat) : Nat → Array Bool → List Value → World → Prop
  | 0, _, us, _ => us.getD 0 undef = vo
  | 1, _, us, _ => us.getD 1 undef = .int .i64 d
  | 2, L, us, w => L.getD 3 false = true ∨ ∃ h, us.getD 2 undef = .slice (some ⟨h, 0, none⟩) 1 1 ∧ B0 ≤ h ∧ w.heap[h]? = some (.cells #[.int .i64 (d : Int)] 3 (0, 0))
  | 3, _, us, w => w.ownsRow Bw 3 1 (us.getD 3 undef) (ol ++ [(d : Int)]).length ((ol ++ [(d : Int)]).map (Value.int .i64)) ∧ ∀ q, (us.getD 3 undef).ownBlock = some q → vk.ownBlock ≠ some q ∧ q ≠ gm
  | 4, _, us, _ => us.getD 4 undef = vk
  | 5, _, us, _ => us.getD 5 undef = aggB f
  | 6, L, us, w => L.getD 7 false = true ∨ ∃ h, us.getD 6 undef = .slice (some ⟨h, 0, none⟩) 1 1 ∧ B0 ≤ h ∧ w.heap[h]? = some (.cells (cellsB f) 28 (0, 0))
  | 7, _, us, w => OwnBd w Bw (us.getD 7 undef) (kl ++ [f]) ∧ (∀ q, (us.getD 3 undef).ownBlock = some q → (us.getD 7 undef).ownBlock ≠ some q) ∧ ∀ q, (us.getD 7 undef).ownBlock = some q → q ≠ gm
  | 8, _, us, _ => us.getD 8 undef = us.getD 3 undef
  | 9, _, us, _ => us.getD 9 undef = us.getD 7 undef
  | _, _, _, _ => True
section
variable {ol : List Int} {kl : List (List Int)} {f : List Int} {d : Nat} {vo vk : Value} {gm B0 Bw : Nat} {w w' : World} {L : Array Bool} {us : List Value} {v : Value}
/-- Operations that write nothing that stood. -/
theorem VDm_keep {i : Nat} (j : Nat) (hji : j ≠ i) (h3 : i ≠ 3) (h7 : i ≠ 7) (hp : ∀ (k : Nat) (r : Obj), w.heap[k]? = some r → w'.heap[k]? = some r) (h : VDm ol kl f d vo vk gm B0 Bw j L us w) : VDm ol kl f d vo vk gm B0 Bw j (L.setIfInBounds i true) (us.set i v) w' := by
  unfold VDm at *
  split at h
  all_goals (try rw [us_set_other hji])
  all_goals (try rw [us_set_other (Ne.symm h3)])
  all_goals (try rw [us_set_other (Ne.symm h7)])
  case h_3 => rcases h with h | ⟨q, h1, h2, h4⟩
              · exact .inl (getD_mono h)
              · exact .inr ⟨q, h1, h2, hp _ _ h4⟩
  case h_4 => exact ⟨own_pres h.1 hp, h.2⟩
  case h_7 => rcases h with h | ⟨q, h1, h2, h4⟩
              · exact .inl (getD_mono h)
              · exact .inr ⟨q, h1, h2, hp _ _ h4⟩
  case h_8 => exact ⟨h.1.pres hp, h.2⟩
  all_goals first | trivial | exact h
theorem VDm_keep3 (hL : L.size = 10) (hd : Apd w w' vo v) (hvo : ∀ q, vo.ownBlock = some q → q < B0) (h7 : L.getD 7 false = false) (h8 : L.getD 8 false = false) (j : Nat) (hji : j ≠ 3) (hj : L.getD j false = true) (h : VDm ol kl f d vo vk gm B0 Bw j L us w) : VDm ol kl f d vo vk gm B0 Bw j (L.setIfInBounds 3 true) (us.set 3 v) w' := by
  unfold VDm at *
  split at h
  case h_3 => exact .inl (getD_here (by omega))
  case h_4 => exact absurd rfl hji
  case h_7 => rcases h with h | ⟨q, h1, h2, h4⟩
              · exact .inl (getD_mono h)
              · rw [us_set_other hji]
                exact .inr ⟨q, h1, h2, (hd.block q _ h4 (fun hq => by have := hvo q hq; omega)).1⟩
  case h_8 => rw [h7] at hj; cases hj
  case h_9 => rw [h8] at hj; cases hj
  case h_10 => rw [us_set_other hji, us_set_other (show 7 ≠ 3 by omega)]; exact h
  all_goals (try rw [us_set_other hji])
  all_goals first | trivial | exact h
theorem VDm_keep7 (hL : L.size = 10) (hd : Apd w w' vk v) (l3 : L.getD 3 false = true) (h9 : L.getD 9 false = false) (j : Nat) (hji : j ≠ 7) (hj : L.getD j false = true) (h : VDm ol kl f d vo vk gm B0 Bw j L us w) : VDm ol kl f d vo vk gm B0 Bw j (L.setIfInBounds 7 true) (us.set 7 v) w' := by
  unfold VDm at *
  split at h
  case h_3 => exact .inl (getD_mono l3)
  case h_4 => rw [us_set_other hji]; exact ⟨(hd.other _ _ _ _ _ _ h.1 (fun g hg => (h.2 g hg).1)).1, h.2⟩
  case h_7 => exact .inl (getD_here (by omega))
  case h_8 => exact absurd rfl hji
  case h_9 => rw [us_set_other hji, us_set_other (show 3 ≠ 7 by omega)]; exact h
  case h_10 => rw [h9] at hj; cases hj
  all_goals (try rw [us_set_other hji])
  all_goals first | trivial | exact h
end
theorem list10 {α : Type} (l : List α) (h : l.length = 10) : ∃ a b c d e f g i j k, l = [a, b, c, d, e, f, g, i, j, k] := by
  match l, h with
  | [a, b, c, d, e, f, g, i, j, k], _ => exact ⟨a, b, c, d, e, f, g, i, j, k, rfl⟩
/-- The words of impl.DistinctMoves' loop. -/
structure DmJ (w wr : World) (b mv : List Int) (k : Nat) (v4 v5 : Value) (gm : Nat) (ob : Obj) : Prop where
  out : wr.ownsRow (w.heap.size + 1) 3 1 v4 (outU b mv k).length ((outU b mv k).map (Value.int .i64))
  seen : OwnBd wr (w.heap.size + 1) v5 (knU b mv k)
  dis : ∀ q, v4.ownBlock = some q → v5.ownBlock ≠ some q ∧ q ≠ gm
  dis5 : ∀ q, v5.ownBlock = some q → q ≠ gm
  mvs : wr.heap[gm]? = some ob
  box : wr.heap[w.heap.size]? = some (.cells (cellsB b) 28 (0, 0))
  bel : Below w.heap.size w wr
  sz : w.heap.size + 1 ≤ wr.heap.size
set_option maxRecDepth 100000 in
set_option maxHeartbeats 8000000 in
theorem implDM_any (b : List Int) (hb : b.length = 16) (w : World) : Calls Try.prog 32 #[aggB b] w (RetDM b w) := by
  cases hok : okB b with
  | false =>
    have HK := Hb.mk hok; clear hok
    go_enter Try.func32, Try.ntmps32
    go_wp2_with (first | ((with_reducible apply loadB (n := 16) (ty := 28) Try.underlying28); (focus with_unfolding_all exact rfl); (focus ((repeat' (first | (with_reducible assumption) | ((with_reducible refine heap_new ?_); (focus ((try simp only [World.size_alloc, size_junk, size_setRow, Array.size_append]) <;> omega))) | ((with_reducible refine heap_old ?_ ?_); (focus ((try simp only [World.size_alloc, size_junk, size_setRow, Array.size_append]) <;> omega))) | ((with_reducible refine heap_junk ?_ ?_); (focus ((try simp only [World.size_alloc, size_junk, size_setRow, Array.size_append]) <;> omega))) | ((with_reducible apply heap_setRow_same)) | ((with_reducible refine heap_setRow_other ?_ ?_); (focus ((try simp only [World.size_alloc, size_junk, size_setRow, Array.size_append]) <;> omega))))); done)); (focus rfl); (focus kernel_rfl); (focus exact hb)) | (go_at_call 36; refine (IsBoard_list b hb _).mono ?_; rintro e w1 ⟨rfl, hb1⟩; rw [HK.out]; obtain ⟨d0, o0, rfl⟩ := junk_of_below hb1; clear hb1))
    go_ret2
    exact ⟨_, by rw [HK.out]; rfl, by (have e0 : dmB b = [] := by unfold dmB; rw [HK.out]; rfl); rw [e0]; exact World.ownsRow_nil _ _ _ _, by (repeat' (first | (with_reducible exact RowKit.Below.refl _ _) | (with_reducible assumption) | (with_reducible refine Below.drewN ?_ _) | (with_reducible refine below_junk0 ?_ ?_ _ _) | (with_reducible refine RowKit.Below.alloc ?_ ?_ _) | (with_reducible refine below_setRow0 ?_ ?_) | (with_reducible refine RowKit.Below.setCell ?_ ?_ _) | (with_reducible refine RowKit.Below.drew ?_) | go_size | (simp only [size_junk]; go_size) | (simp only [World.size_alloc, size_junk, size_setRow]; omega) | omega))⟩
  | true =>
    have ok : okL b := (okB_iff b).1 hok
    have HK := Hb.mk hok; clear hok
    obtain ⟨mv, hmvd⟩ : ∃ mv, mv = movesB b := ⟨_, rfl⟩
    have HE : Hid (dmB b = outU b mv mv.length) := Lib.hid (by unfold dmB; rw [HK.out, hmvd]; rfl)
    have hm4 : mv.length ≤ 4 := by rw [hmvd]; exact movesB_len b
    have hin : ∀ k, k < mv.length → ∃ d : Nat, mv.getD k 0 = d ∧ d < 4 := by rw [hmvd]; exact fun k hk => movesB_in hk
    have HIN := Lib.hid hin; clear hin
    have HMV := Lib.hid hmvd; clear hmvd
    go_enter Try.func32, Try.ntmps32
    go_wp2_with (first | ((with_reducible apply loadB (n := 16) (ty := 28) Try.underlying28); (focus with_unfolding_all exact rfl); (focus ((repeat' (first | (with_reducible assumption) | ((with_reducible refine heap_new ?_); (focus ((try simp only [World.size_alloc, size_junk, size_setRow, Array.size_append]) <;> omega))) | ((with_reducible refine heap_old ?_ ?_); (focus ((try simp only [World.size_alloc, size_junk, size_setRow, Array.size_append]) <;> omega))) | ((with_reducible refine heap_junk ?_ ?_); (focus ((try simp only [World.size_alloc, size_junk, size_setRow, Array.size_append]) <;> omega))) | ((with_reducible apply heap_setRow_same)) | ((with_reducible refine heap_setRow_other ?_ ?_); (focus ((try simp only [World.size_alloc, size_junk, size_setRow, Array.size_append]) <;> omega))))); done)); (focus rfl); (focus kernel_rfl); (focus exact hb)) | (go_at_call 36; refine (IsBoard_list b hb _).mono ?_; rintro e w1 ⟨rfl, hb1⟩; rw [HK.out]; obtain ⟨d0, o0, rfl⟩ := junk_of_below hb1; clear hb1) | (go_at_call 41; refine (moves_any b hb ok _).mono ?_; rintro e w1 ⟨vm, rfl, hmv, hb1⟩; obtain ⟨am, cm, rfl⟩ := own_shape hmv))
    by_cases hm0 : mv.length = 0
    · have hm0' : (movesB b).length = 0 := by rw [← HMV.out]; exact hm0
      rw [hm0'] at hmv ⊢
      have hs1 := hb1.size
      simp only [World.size_alloc, size_junk] at hs1
      have hob : w1.heap[w.heap.size + 1 + o0.size]? = some (.cells #[] 3 (0, 0)) := (hb1.block _ (by ((try simp only [World.size_alloc, size_junk, size_setRow, Array.size_append]) <;> omega))).trans (by (repeat' (first | (with_reducible assumption) | ((with_reducible refine heap_new ?_); (focus ((try simp only [World.size_alloc, size_junk, size_setRow, Array.size_append]) <;> omega))) | ((with_reducible refine heap_old ?_ ?_); (focus ((try simp only [World.size_alloc, size_junk, size_setRow, Array.size_append]) <;> omega))) | ((with_reducible refine heap_junk ?_ ?_); (focus ((try simp only [World.size_alloc, size_junk, size_setRow, Array.size_append]) <;> omega))) | ((with_reducible apply heap_setRow_same)) | ((with_reducible refine heap_setRow_other ?_ ?_); (focus ((try simp only [World.size_alloc, size_junk, size_setRow, Array.size_append]) <;> omega))))))
      have HB := Lib.hid (Below.from0 (B := w.heap.size) (w := w) (by (repeat' (first | (with_reducible exact RowKit.Below.refl _ _) | (with_reducible assumption) | (with_reducible refine Below.drewN ?_ _) | (with_reducible refine below_junk0 ?_ ?_ _ _) | (with_reducible refine RowKit.Below.alloc ?_ ?_ _) | (with_reducible refine below_setRow0 ?_ ?_) | (with_reducible refine RowKit.Below.setCell ?_ ?_ _) | (with_reducible refine RowKit.Below.drew ?_) | go_size | (simp only [size_junk]; go_size) | (simp only [World.size_alloc, size_junk, size_setRow]; omega) | omega))) (by ((try simp only [World.size_alloc, size_junk, size_setRow, Array.size_append]) <;> omega)) hb1)
      have HOB := Lib.hid hob
      clear hmv hb1 hob hm0'
      have HM0 := Lib.hid hm0; clear hm0 hm4
      refine wp_loop_rounds 2 ?_
      rw [rounds_succ]; go_wp2
      go_ret2
      exact ⟨_, by rw [HK.out]; rfl, by (rw [HE.out, HM0.out]; exact own_base (own_empty (B := w.heap.size + 1) (by omega) HOB.out) (Nat.le_succ _)), HB.out⟩
    · rw [← HMV.out] at hmv ⊢
      rcases hmv.2 with ⟨_, h⟩ | ⟨gm, cm2, cur, hvv, hbm, hblk, hnc, hcm, hcs, htk⟩
      · exact absurd h hm0
      simp only [Value.slice.injEq, true_and] at hvv
      obtain ⟨rfl, rfl⟩ := hvv
      have hcur : ∀ j, j < mv.length → cur[j]? = some (.int .i64 (mv.getD j 0)) := fun j hj => by
        have h1 : (cur.toList.take (mv.length * 1))[j]? = (mv.map (Value.int .i64))[j]? := by rw [htk]
        rw [List.getElem?_take, if_pos (by omega), Array.getElem?_toList] at h1
        rw [h1, List.getElem?_map, List.getD_eq_getElem?_getD, List.getElem?_eq_getElem hj]; rfl
      have hbm' : w.heap.size + 3 + o0.size ≤ gm := by simp only [World.size_alloc, size_junk] at hbm; omega
      obtain ⟨n, hN⟩ : ∃ n, n = mv.length := ⟨_, rfl⟩
      rw [← hN] at hm4 hcur HE HIN hnc ⊢
      have HCUR := Lib.hid hcur
      have HN := Lib.hid hN
      have hs1 := hb1.size
      simp only [World.size_alloc, size_junk] at hs1
      have hini : DmJ w w1 b mv 0 (.slice (some ⟨w.heap.size + 1 + o0.size, 0, none⟩) 0 0) (.slice (some ⟨w.heap.size + 1 + o0.size + 1, 0, none⟩) 0 0) gm (.cells cur 3 (0, 0)) :=
        ⟨own_empty (by omega) ((hb1.block _ (by ((try simp only [World.size_alloc, size_junk, size_setRow, Array.size_append]) <;> omega))).trans (by (repeat' (first | (with_reducible assumption) | ((with_reducible refine heap_new ?_); (focus ((try simp only [World.size_alloc, size_junk, size_setRow, Array.size_append]) <;> omega))) | ((with_reducible refine heap_old ?_ ?_); (focus ((try simp only [World.size_alloc, size_junk, size_setRow, Array.size_append]) <;> omega))) | ((with_reducible refine heap_junk ?_ ?_); (focus ((try simp only [World.size_alloc, size_junk, size_setRow, Array.size_append]) <;> omega))) | ((with_reducible apply heap_setRow_same)) | ((with_reducible refine heap_setRow_other ?_ ?_); (focus ((try simp only [World.size_alloc, size_junk, size_setRow, Array.size_append]) <;> omega))))))), OwnBd.empty (by omega) ((hb1.block _ (by ((try simp only [World.size_alloc, size_junk, size_setRow, Array.size_append]) <;> omega))).trans (by (repeat' (first | (with_reducible assumption) | ((with_reducible refine heap_new ?_); (focus ((try simp only [World.size_alloc, size_junk, size_setRow, Array.size_append]) <;> omega))) | ((with_reducible refine heap_old ?_ ?_); (focus ((try simp only [World.size_alloc, size_junk, size_setRow, Array.size_append]) <;> omega))) | ((with_reducible refine heap_junk ?_ ?_); (focus ((try simp only [World.size_alloc, size_junk, size_setRow, Array.size_append]) <;> omega))) | ((with_reducible apply heap_setRow_same)) | ((with_reducible refine heap_setRow_other ?_ ?_); (focus ((try simp only [World.size_alloc, size_junk, size_setRow, Array.size_append]) <;> omega))))))), fun q hq => by (simp [Value.ownBlock] at hq ⊢; omega), fun q hq => by (simp [Value.ownBlock] at hq; omega), hblk,
          (hb1.block _ (by ((try simp only [World.size_alloc, size_junk, size_setRow, Array.size_append]) <;> omega))).trans (by (repeat' (first | (with_reducible assumption) | ((with_reducible refine heap_new ?_); (focus ((try simp only [World.size_alloc, size_junk, size_setRow, Array.size_append]) <;> omega))) | ((with_reducible refine heap_old ?_ ?_); (focus ((try simp only [World.size_alloc, size_junk, size_setRow, Array.size_append]) <;> omega))) | ((with_reducible refine heap_junk ?_ ?_); (focus ((try simp only [World.size_alloc, size_junk, size_setRow, Array.size_append]) <;> omega))) | ((with_reducible apply heap_setRow_same)) | ((with_reducible refine heap_setRow_other ?_ ?_); (focus ((try simp only [World.size_alloc, size_junk, size_setRow, Array.size_append]) <;> omega)))))), Below.from0 (by (repeat' (first | (with_reducible exact RowKit.Below.refl _ _) | (with_reducible assumption) | (with_reducible refine Below.drewN ?_ _) | (with_reducible refine below_junk0 ?_ ?_ _ _) | (with_reducible refine RowKit.Below.alloc ?_ ?_ _) | (with_reducible refine below_setRow0 ?_ ?_) | (with_reducible refine RowKit.Below.setCell ?_ ?_ _) | (with_reducible refine RowKit.Below.drew ?_) | go_size | (simp only [size_junk]; go_size) | (simp only [World.size_alloc, size_junk, size_setRow]; omega) | omega))) (by ((try simp only [World.size_alloc, size_junk, size_setRow, Array.size_append]) <;> omega)) hb1, by omega⟩
      have HINI := Lib.hid hini
      clear hmv hb1 hblk hcs htk hcur hN hini hcm hbm hm0
      go_loopw [4, 5, 18] (fun v4 v5 v18 wr => ∃ k : Nat, k ≤ n ∧ v18 = .int .i64 k ∧ DmJ w wr b mv k v4 v5 gm (.cells cur 3 (0, 0)))
        (fun _ _ v18 _ => n - (intOf v18).toNat)
      case atStart => exact ⟨0, by omega, rfl, HINI.out⟩
      case round =>
        obtain ⟨k, hk, rfl, hD⟩ := hrel
        rename World => wr0
        obtain ⟨hout, hseen, hdis, hdis5, hmvs, hbox, hbel, hsz⟩ := hD
        have hsm := knU_many b mv k
        have hom := outU_many b mv k
        rcases Nat.lt_or_ge k n with hkn | hkn
        · obtain ⟨dk, hdk, hdk4⟩ := HIN.out k hkn
          have hcell : wr0.cell? ⟨gm, k, none⟩ = some (.int .i64 (dk : Int)) := by rw [cell_of_row _ _ _ _ _ _ hmvs, HCUR.out k hkn, hdk]
          have hgr : gm < wr0.heap.size := (Array.getElem?_eq_some_iff.1 hmvs).1
          have HNL := Lib.hid (show (slideB b dk).length = 16 by rw [slideB_length, hb])
          obtain ⟨fd, hfd⟩ : ∃ fd, fd = formD b (mv.getD k 0) := ⟨_, rfl⟩
          have hfe : (firstB (slideB b dk)).1 = fd := by rw [hfd, formD, hdk]; rfl
          have hfo : okL fd := by rw [hfd]; exact formD_ok ok _
          have HFL := Lib.hid (show fd.length = 16 by rw [hfd]; exact formD_len hb _)
          have hfi := fun w => first_any (slideB b dk) HNL.out w
          rw [hfe] at hfi
          have HFI : Hid (∀ w, Calls Try.prog 39 #[aggB (slideB b dk)] w fun e w' => e = .returned (.tuple #[aggB fd, .int .i64 (firstB (slideB b dk)).2]) ∧ RowKit.Below w.heap.size w w') := Lib.hid (fun w => (hfi w).mono fun _ _ h => h.2)
          have HSW : Hid (∀ x ∈ knU b mv k, wfL x) := Lib.hid (fun x hx => wfL_ok (knU_ok ok mv k x hx))
          have HFD := Lib.hid hfd
          have HD := Lib.hid hdk
          have hcn := fun r v w' hh hr => contains_any (knU b mv k) fd HFL.out (wfL_ok hfo) HSW.out (w.heap.size + 1) v w' hh (by omega) r hr
          clear hfi hfe hfd hdk
          by_cases hmem : fd ∈ knU b mv k
          · have HCN := Lib.hid (fun v w hh => hcn true v w hh ⟨fun _ => hmem, fun _ => rfl⟩)
            have HME := Lib.hid (show formD b (mv.getD k 0) ∈ knU b mv k by rw [← HFD.out]; exact hmem)
            have HS1 : Hid (knU b mv (k + 1) = knU b mv k) := Lib.hid (by rw [knU, if_pos HME.out])
            have HO1 : Hid (outU b mv (k + 1) = outU b mv k) := Lib.hid (by rw [outU, if_pos HME.out])
            clear hcn hmem
            go_wp2_with (first | ((with_reducible apply loadB (n := 16) (ty := 28) Try.underlying28); (focus with_unfolding_all exact rfl); (focus ((repeat' (first | (with_reducible assumption) | ((with_reducible refine heap_new ?_); (focus ((try simp only [World.size_alloc, size_junk, size_setRow, Array.size_append]) <;> omega))) | ((with_reducible refine heap_old ?_ ?_); (focus ((try simp only [World.size_alloc, size_junk, size_setRow, Array.size_append]) <;> omega))) | ((with_reducible refine heap_junk ?_ ?_); (focus ((try simp only [World.size_alloc, size_junk, size_setRow, Array.size_append]) <;> omega))) | ((with_reducible apply heap_setRow_same)) | ((with_reducible refine heap_setRow_other ?_ ?_); (focus ((try simp only [World.size_alloc, size_junk, size_setRow, Array.size_append]) <;> omega))))); done)); (focus rfl); (focus kernel_rfl); (focus (first | (with_reducible exact HNL.out) | (with_reducible exact HFL.out) | (with_reducible exact hb) | rfl))) | ((with_reducible apply storeB (n := 16) (ty := 28)); (focus with_unfolding_all exact rfl); (focus with_unfolding_all exact rfl); (focus ((repeat' (first | (with_reducible assumption) | ((with_reducible refine heap_new ?_); (focus ((try simp only [World.size_alloc, size_junk, size_setRow, Array.size_append]) <;> omega))) | ((with_reducible refine heap_old ?_ ?_); (focus ((try simp only [World.size_alloc, size_junk, size_setRow, Array.size_append]) <;> omega))) | ((with_reducible refine heap_junk ?_ ?_); (focus ((try simp only [World.size_alloc, size_junk, size_setRow, Array.size_append]) <;> omega))) | ((with_reducible apply heap_setRow_same)) | ((with_reducible refine heap_setRow_other ?_ ?_); (focus ((try simp only [World.size_alloc, size_junk, size_setRow, Array.size_append]) <;> omega))))); done)); (focus kernel_rfl); (focus (first | (rw [size_cellsB]; (first | (with_reducible exact HNL.out) | (with_reducible exact HFL.out) | (with_reducible exact hb) | rfl)) | kernel_rfl)); (focus (first | (with_reducible exact HNL.out) | (with_reducible exact HFL.out) | (with_reducible exact hb) | rfl)); (focus ((repeat' (first | ((with_reducible apply setRow_new); (focus ((try simp only [World.size_alloc, size_junk, size_setRow, Array.size_append]) <;> omega))) | ((with_reducible apply setRow_old'); (focus ((try simp only [World.size_alloc, size_junk, size_setRow, Array.size_append]) <;> omega))) | ((with_reducible apply setRow_junk'); (focus ((try simp only [World.size_alloc, size_junk, size_setRow, Array.size_append]) <;> omega))) | (with_reducible exact rfl))); done))) | (go_at_call 43; refine (slides_one b hb ok dk hdk4 _ _ _ (by (repeat' (first | (with_reducible assumption) | ((with_reducible refine heap_new ?_); (focus ((try simp only [World.size_alloc, size_junk, size_setRow, Array.size_append]) <;> omega))) | ((with_reducible refine heap_old ?_ ?_); (focus ((try simp only [World.size_alloc, size_junk, size_setRow, Array.size_append]) <;> omega))) | ((with_reducible refine heap_junk ?_ ?_); (focus ((try simp only [World.size_alloc, size_junk, size_setRow, Array.size_append]) <;> omega))) | ((with_reducible apply heap_setRow_same)) | ((with_reducible refine heap_setRow_other ?_ ?_); (focus ((try simp only [World.size_alloc, size_junk, size_setRow, Array.size_append]) <;> omega))))))).mono ?_; rintro e w1 ⟨rfl, hb1⟩; obtain ⟨dj1, oj1, rfl⟩ := junk_of_below hb1; clear hb1) | (go_at_call 39; refine (HFI.out _).mono ?_; rintro e w1 ⟨rfl, hb1⟩; obtain ⟨dj2, oj2, rfl⟩ := junk_of_below hb1; clear hb1) | (go_at_call 54; refine (HCN.out _ _ (by (repeat' (first | (with_reducible assumption) | (with_reducible apply OwnBd.junk) | (with_reducible apply OwnBd.alloc))))).mono ?_; rintro e w1 ⟨rfl, hb1⟩; obtain ⟨dj3, oj3, rfl⟩ := junk_of_below hb1; clear hb1))
            have hp : ∀ (q : Nat) (r : Obj), wr0.heap[q]? = some r → (junk ((junk (wr0.alloc (.cells #[.int .i64 (dk : Int)] 3 (0, 0))) dj2 (oj1 ++ oj2)).alloc (.cells (cellsB fd) 28 (0, 0))) dj3 oj3).heap[q]? = some r := fun q r hq => by have hql := (Array.getElem?_eq_some_iff.1 hq).1; (repeat' (first | (with_reducible assumption) | ((with_reducible refine heap_new ?_); (focus ((try simp only [World.size_alloc, size_junk, size_setRow, Array.size_append]) <;> omega))) | ((with_reducible refine heap_old ?_ ?_); (focus ((try simp only [World.size_alloc, size_junk, size_setRow, Array.size_append]) <;> omega))) | ((with_reducible refine heap_junk ?_ ?_); (focus ((try simp only [World.size_alloc, size_junk, size_setRow, Array.size_append]) <;> omega))) | ((with_reducible apply heap_setRow_same)) | ((with_reducible refine heap_setRow_other ?_ ?_); (focus ((try simp only [World.size_alloc, size_junk, size_setRow, Array.size_append]) <;> omega)))))
            exact ⟨⟨k + 1, by omega, by go_num, by rw [HO1.out]; exact own_pres hout hp, by rw [HS1.out]; exact hseen.pres hp, hdis, hdis5, hp _ _ hmvs, hp _ _ hbox, by (repeat' (first | (with_reducible exact RowKit.Below.refl _ _) | (with_reducible assumption) | (with_reducible refine Below.drewN ?_ _) | (with_reducible refine below_junk0 ?_ ?_ _ _) | (with_reducible refine RowKit.Below.alloc ?_ ?_ _) | (with_reducible refine below_setRow0 ?_ ?_) | (with_reducible refine RowKit.Below.setCell ?_ ?_ _) | (with_reducible refine RowKit.Below.drew ?_) | go_size | (simp only [size_junk]; go_size) | (simp only [World.size_alloc, size_junk, size_setRow]; omega) | omega)), by ((try simp only [World.size_alloc, size_junk, size_setRow, Array.size_append]) <;> omega)⟩, by simp [intOf]; omega⟩
          · have HCN := Lib.hid (fun v w hh => hcn false v w hh ⟨fun h => (by cases h), fun h => absurd h hmem⟩)
            have HME := Lib.hid (show ¬ formD b (mv.getD k 0) ∈ knU b mv k by rw [← HFD.out]; exact hmem)
            have HS1 : Hid (knU b mv (k + 1) = knU b mv k ++ [fd]) := Lib.hid (by rw [knU, if_neg HME.out, HFD.out])
            have HO1 : Hid (outU b mv (k + 1) = outU b mv k ++ [(dk : Int)]) := Lib.hid (by rw [outU, if_neg HME.out, HD.out])
            clear hcn hmem
            go_upto_region 9 with (first | ((with_reducible apply loadB (n := 16) (ty := 28) Try.underlying28); (focus with_unfolding_all exact rfl); (focus ((repeat' (first | (with_reducible assumption) | ((with_reducible refine heap_new ?_); (focus ((try simp only [World.size_alloc, size_junk, size_setRow, Array.size_append]) <;> omega))) | ((with_reducible refine heap_old ?_ ?_); (focus ((try simp only [World.size_alloc, size_junk, size_setRow, Array.size_append]) <;> omega))) | ((with_reducible refine heap_junk ?_ ?_); (focus ((try simp only [World.size_alloc, size_junk, size_setRow, Array.size_append]) <;> omega))) | ((with_reducible apply heap_setRow_same)) | ((with_reducible refine heap_setRow_other ?_ ?_); (focus ((try simp only [World.size_alloc, size_junk, size_setRow, Array.size_append]) <;> omega))))); done)); (focus rfl); (focus kernel_rfl); (focus (first | (with_reducible exact HNL.out) | (with_reducible exact HFL.out) | (with_reducible exact hb) | rfl))) | ((with_reducible apply storeB (n := 16) (ty := 28)); (focus with_unfolding_all exact rfl); (focus with_unfolding_all exact rfl); (focus ((repeat' (first | (with_reducible assumption) | ((with_reducible refine heap_new ?_); (focus ((try simp only [World.size_alloc, size_junk, size_setRow, Array.size_append]) <;> omega))) | ((with_reducible refine heap_old ?_ ?_); (focus ((try simp only [World.size_alloc, size_junk, size_setRow, Array.size_append]) <;> omega))) | ((with_reducible refine heap_junk ?_ ?_); (focus ((try simp only [World.size_alloc, size_junk, size_setRow, Array.size_append]) <;> omega))) | ((with_reducible apply heap_setRow_same)) | ((with_reducible refine heap_setRow_other ?_ ?_); (focus ((try simp only [World.size_alloc, size_junk, size_setRow, Array.size_append]) <;> omega))))); done)); (focus kernel_rfl); (focus (first | (rw [size_cellsB]; (first | (with_reducible exact HNL.out) | (with_reducible exact HFL.out) | (with_reducible exact hb) | rfl)) | kernel_rfl)); (focus (first | (with_reducible exact HNL.out) | (with_reducible exact HFL.out) | (with_reducible exact hb) | rfl)); (focus ((repeat' (first | ((with_reducible apply setRow_new); (focus ((try simp only [World.size_alloc, size_junk, size_setRow, Array.size_append]) <;> omega))) | ((with_reducible apply setRow_old'); (focus ((try simp only [World.size_alloc, size_junk, size_setRow, Array.size_append]) <;> omega))) | ((with_reducible apply setRow_junk'); (focus ((try simp only [World.size_alloc, size_junk, size_setRow, Array.size_append]) <;> omega))) | (with_reducible exact rfl))); done))) | (go_at_call 43; refine (slides_one b hb ok dk hdk4 _ _ _ (by (repeat' (first | (with_reducible assumption) | ((with_reducible refine heap_new ?_); (focus ((try simp only [World.size_alloc, size_junk, size_setRow, Array.size_append]) <;> omega))) | ((with_reducible refine heap_old ?_ ?_); (focus ((try simp only [World.size_alloc, size_junk, size_setRow, Array.size_append]) <;> omega))) | ((with_reducible refine heap_junk ?_ ?_); (focus ((try simp only [World.size_alloc, size_junk, size_setRow, Array.size_append]) <;> omega))) | ((with_reducible apply heap_setRow_same)) | ((with_reducible refine heap_setRow_other ?_ ?_); (focus ((try simp only [World.size_alloc, size_junk, size_setRow, Array.size_append]) <;> omega))))))).mono ?_; rintro e w1 ⟨rfl, hb1⟩; obtain ⟨dj1, oj1, rfl⟩ := junk_of_below hb1; clear hb1) | (go_at_call 39; refine (HFI.out _).mono ?_; rintro e w1 ⟨rfl, hb1⟩; obtain ⟨dj2, oj2, rfl⟩ := junk_of_below hb1; clear hb1) | (go_at_call 54; refine (HCN.out _ _ (by (repeat' (first | (with_reducible assumption) | (with_reducible apply OwnBd.junk) | (with_reducible apply OwnBd.alloc))))).mono ?_; rintro e w1 ⟨rfl, hb1⟩; obtain ⟨dj3, oj3, rfl⟩ := junk_of_below hb1; clear hb1))
            have hp : ∀ (q : Nat) (r : Obj), wr0.heap[q]? = some r → (junk ((junk (wr0.alloc (.cells #[.int .i64 (dk : Int)] 3 (0, 0))) dj2 (oj1 ++ oj2)).alloc (.cells (cellsB fd) 28 (0, 0))) dj3 oj3).heap[q]? = some r := fun q r hq => by have hql := (Array.getElem?_eq_some_iff.1 hq).1; (repeat' (first | (with_reducible assumption) | ((with_reducible refine heap_new ?_); (focus ((try simp only [World.size_alloc, size_junk, size_setRow, Array.size_append]) <;> omega))) | ((with_reducible refine heap_old ?_ ?_); (focus ((try simp only [World.size_alloc, size_junk, size_setRow, Array.size_append]) <;> omega))) | ((with_reducible refine heap_junk ?_ ?_); (focus ((try simp only [World.size_alloc, size_junk, size_setRow, Array.size_append]) <;> omega))) | ((with_reducible apply heap_setRow_same)) | ((with_reducible refine heap_setRow_other ?_ ?_); (focus ((try simp only [World.size_alloc, size_junk, size_setRow, Array.size_append]) <;> omega)))))
            have hbl8 : (junk ((junk (wr0.alloc (.cells #[.int .i64 (dk : Int)] 3 (0, 0))) dj2 (oj1 ++ oj2)).alloc (.cells (cellsB fd) 28 (0, 0))) dj3 oj3).heap[wr0.heap.size + 1 + (oj1.size + oj2.size)]? = some (.cells (cellsB fd) 28 (0, 0)) := by (repeat' (first | (with_reducible assumption) | ((with_reducible refine heap_new ?_); (focus ((try simp only [World.size_alloc, size_junk, size_setRow, Array.size_append]) <;> omega))) | ((with_reducible refine heap_old ?_ ?_); (focus ((try simp only [World.size_alloc, size_junk, size_setRow, Array.size_append]) <;> omega))) | ((with_reducible refine heap_junk ?_ ?_); (focus ((try simp only [World.size_alloc, size_junk, size_setRow, Array.size_append]) <;> omega))) | ((with_reducible apply heap_setRow_same)) | ((with_reducible refine heap_setRow_other ?_ ?_); (focus ((try simp only [World.size_alloc, size_junk, size_setRow, Array.size_append]) <;> omega)))))
            have hC0 : Below w.heap.size w (junk ((junk (wr0.alloc (.cells #[.int .i64 (dk : Int)] 3 (0, 0))) dj2 (oj1 ++ oj2)).alloc (.cells (cellsB fd) 28 (0, 0))) dj3 oj3) ∧ (junk ((junk (wr0.alloc (.cells #[.int .i64 (dk : Int)] 3 (0, 0))) dj2 (oj1 ++ oj2)).alloc (.cells (cellsB fd) 28 (0, 0))) dj3 oj3).heap[gm]? = some (.cells cur 3 (0, 0)) ∧ (junk ((junk (wr0.alloc (.cells #[.int .i64 (dk : Int)] 3 (0, 0))) dj2 (oj1 ++ oj2)).alloc (.cells (cellsB fd) 28 (0, 0))) dj3 oj3).heap[w.heap.size]? = some (.cells (cellsB b) 28 (0, 0)) ∧ (junk ((junk (wr0.alloc (.cells #[.int .i64 (dk : Int)] 3 (0, 0))) dj2 (oj1 ++ oj2)).alloc (.cells (cellsB fd) 28 (0, 0))) dj3 oj3).heap[wr0.heap.size + 1 + (oj1.size + oj2.size)]? = some (.cells (cellsB fd) 28 (0, 0)) ∧ (junk ((junk (wr0.alloc (.cells #[.int .i64 (dk : Int)] 3 (0, 0))) dj2 (oj1 ++ oj2)).alloc (.cells (cellsB fd) 28 (0, 0))) dj3 oj3).ownsRow (w.heap.size + 1) 3 1 u4 (outU b mv k).length ((outU b mv k).map (Value.int .i64)) ∧ OwnBd (junk ((junk (wr0.alloc (.cells #[.int .i64 (dk : Int)] 3 (0, 0))) dj2 (oj1 ++ oj2)).alloc (.cells (cellsB fd) 28 (0, 0))) dj3 oj3) (w.heap.size + 1) u5 (knU b mv k) ∧ wr0.heap.size ≤ (junk ((junk (wr0.alloc (.cells #[.int .i64 (dk : Int)] 3 (0, 0))) dj2 (oj1 ++ oj2)).alloc (.cells (cellsB fd) 28 (0, 0))) dj3 oj3).heap.size :=
              ⟨by (repeat' (first | (with_reducible exact RowKit.Below.refl _ _) | (with_reducible assumption) | (with_reducible refine Below.drewN ?_ _) | (with_reducible refine below_junk0 ?_ ?_ _ _) | (with_reducible refine RowKit.Below.alloc ?_ ?_ _) | (with_reducible refine below_setRow0 ?_ ?_) | (with_reducible refine RowKit.Below.setCell ?_ ?_ _) | (with_reducible refine RowKit.Below.drew ?_) | go_size | (simp only [size_junk]; go_size) | (simp only [World.size_alloc, size_junk, size_setRow]; omega) | omega)), hp _ _ hmvs, hp _ _ hbox, hbl8, own_pres hout hp, hseen.pres hp, by ((try simp only [World.size_alloc, size_junk, size_setRow, Array.size_append]) <;> omega)⟩
            have HC0 := Lib.hid hC0
            have HDS := Lib.hid hdis
            have HD5 := Lib.hid hdis5
            have HVL := Lib.hid (fun q (hq : Value.ownBlock u4 = some q) => show w.heap.size + 1 ≤ q from (hout.lt q hq).1)
            have HVO := Lib.hid (fun q (hq : Value.ownBlock u4 = some q) => (hout.lt q hq).2)
            have HKL := Lib.hid (fun q (hq : Value.ownBlock u5 = some q) => show w.heap.size + 1 ≤ q from (own_block_lt hseen hq).1)
            have HKO := Lib.hid (fun q (hq : Value.ownBlock u5 = some q) => (own_block_lt hseen hq).2)
            have HSZ := Lib.hid hsz
            have hgmw := hgr
            clear hC0 hp hbl8 hdis hdis5 hout hseen hmvs hbox hbel hsz hcell
            refine wp_region_steps3 [some 34, some 35, some 36, some 37, some 38, some 39, some 40, some 41, some 4, some 5] (VDm (outU b mv k) (knU b mv k) fd dk u4 u5 gm wr0.heap.size (w.heap.size + 1)) (fun w' => Below w.heap.size w w' ∧ w'.heap[gm]? = some (.cells cur 3 (0, 0)) ∧ w'.heap[w.heap.size]? = some (.cells (cellsB b) 28 (0, 0)) ∧ w'.heap[wr0.heap.size + 1 + (oj1.size + oj2.size)]? = some (.cells (cellsB fd) 28 (0, 0)) ∧ w'.ownsRow (w.heap.size + 1) 3 1 u4 (outU b mv k).length ((outU b mv k).map (Value.int .i64)) ∧ OwnBd w' (w.heap.size + 1) u5 (knU b mv k) ∧ wr0.heap.size ≤ w'.heap.size) (by kernel_rfl) (by kernel_rfl) (by kernel_rfl)
              ⟨below_drawn HC0.out.1, heap_drawn HC0.out.2.1, heap_drawn HC0.out.2.2.1, heap_drawn HC0.out.2.2.2.1, HC0.out.2.2.2.2.1, ⟨HC0.out.2.2.2.2.2.1.1, HC0.out.2.2.2.2.2.1.2⟩, size_drawn HC0.out.2.2.2.2.2.2⟩ ?_ ?_
            · intro i o ho L us w' K hul hLs hLi hun hcl hall hwc hdep hK
              obtain ⟨u0, u1, u2, u3, u4', u5', u6, u7, u8', u9', rfl⟩ := list10 us hul
              obtain ⟨hbw, hgw, hxw, h8w, how, hkw, hzw⟩ := hwc
              have hLs : L.size = 10 := hLs
              clear HC0
              have hsz := HSZ.out
              match i with
              | 0 =>
                cases ho
                have h3 : L.getD 3 false = false := by
                  cases h : L.getD 3 false with
                  | false => rfl
                  | true => have := hcl 3 _ rfl h { on := 0, ground := Ground.data } (by simp) rfl; rw [hLi] at this; cases this
                have h8 : L.getD 8 false = false := by
                  cases h : L.getD 8 false with
                  | false => rfl
                  | true => have := hcl 8 _ rfl h { on := 3, ground := Ground.data } (by simp) rfl; rw [h3] at this; cases this
                have hue : u8' = u4 := hun 8 4 h8 rfl
                subst hue
                clear hun hcl hall
                clear hdep
                simp only [putAll, Act.put, List.setIfInBounds_toArray, List.set_cons_zero, List.set_cons_succ] at hK ⊢
                go_wp2
                exact hK _ _ rfl (fun j oj hji _ _ _ h => VDm_keep j hji (by omega) (by omega) (fun _ _ h => h) h) ⟨hbw, hgw, hxw, h8w, how, hkw, hzw⟩
              | 1 =>
                cases ho
                clear hdep
                simp only [putAll, Act.put, List.setIfInBounds_toArray, List.set_cons_zero, List.set_cons_succ] at hK ⊢
                go_wp2
                exact hK _ _ rfl (fun j oj hji _ _ _ h => VDm_keep j hji (by omega) (by omega) (fun _ _ h => h) h) ⟨hbw, hgw, hxw, h8w, how, hkw, hzw⟩
              | 2 =>
                cases ho
                have d1 := (hdep { on := 1, ground := Ground.data } (by simp) rfl).2
                have d1 : u1 = _ := d1
                subst d1
                clear hdep
                simp only [putAll, Act.put, List.setIfInBounds_toArray, List.set_cons_zero, List.set_cons_succ] at hK ⊢
                go_wp2
                exact hK _ _ (.inr ⟨_, rfl, hzw, heap_new rfl⟩) (fun j oj hji _ _ _ h => VDm_keep j hji (by omega) (by omega) (fun _ _ h => heap_old (Array.getElem?_eq_some_iff.1 h).1 h) h) ⟨hbw.alloc hbw.size _, heap_old (by omega) hgw, heap_old (by omega) hxw, heap_old (Array.getElem?_eq_some_iff.1 h8w).1 h8w, how.alloc _, hkw.alloc _, by simp; omega⟩
              | 3 =>
                cases ho
                have d0 := (hdep { on := 0, ground := Ground.data } (by simp) rfl).2
                have d2 := (hdep { on := 2, ground := Ground.data } (by simp) rfl).2
                have d0 : u0 = _ := d0
                subst d0
                have h7 : L.getD 7 false = false := by
                  cases h : L.getD 7 false with
                  | false => rfl
                  | true => have := hcl 7 _ rfl h { on := 3, ground := Ground.chain } (by simp) rfl; rw [hLi] at this; cases this
                have h8 : L.getD 8 false = false := by
                  cases h : L.getD 8 false with
                  | false => rfl
                  | true => have := hcl 8 _ rfl h { on := 3, ground := Ground.data } (by simp) rfl; rw [hLi] at this; cases this
                rcases d2 with d2 | ⟨h2, d2, hh2, hb2⟩
                · rw [hLi] at d2; cases d2
                have d2 : u2 = _ := d2
                subst d2
                clear hdep hall
                simp only [putAll, Act.put, List.setIfInBounds_toArray, List.set_cons_zero, List.set_cons_succ] at hK ⊢
                (with_reducible apply appendI2 (B := w.heap.size + 1)); (focus exact how); (focus with_unfolding_all exact rfl); (focus with_unfolding_all exact rfl); (focus exact hb2); (focus omega); (focus omega)
                intro v' w2 hown hd
                exact hK _ _ ⟨hown, fun q hq => ⟨fun he => (hd.other _ _ _ _ _ _ hkw.own (fun g hg h => HDS.out g h |>.1 hg)).2 q he hq, fun he => (hd.block _ _ hgw (fun h => (HDS.out _ h).2 rfl)).2 (he ▸ hq)⟩⟩ (fun j oj hji _ hj _ h => VDm_keep3 hLs hd HVO.out h7 h8 j hji hj h) ⟨apd_below hd hbw (by omega) (fun q h => by have := HVL.out q h; omega), (hd.block _ _ hgw (fun h => (HDS.out _ h).2 rfl)).1, (hd.block _ _ hxw (fun h => by have := HVL.out _ h; omega)).1, (hd.block _ _ h8w (fun h => by have := HVO.out _ h; omega)).1, hd.old _ _ _ _ _ how, ⟨hkw.len, (hd.other _ _ _ _ _ _ hkw.own (fun g hg h => HDS.out g h |>.1 hg)).1⟩, Nat.le_trans hzw hd.grown.size⟩
              | 4 =>
                cases ho
                have h7 : L.getD 7 false = false := by
                  cases h : L.getD 7 false with
                  | false => rfl
                  | true => have := hcl 7 _ rfl h { on := 4, ground := Ground.data } (by simp) rfl; rw [hLi] at this; cases this
                have h9 : L.getD 9 false = false := by
                  cases h : L.getD 9 false with
                  | false => rfl
                  | true => have := hcl 9 _ rfl h { on := 7, ground := Ground.data } (by simp) rfl; rw [h7] at this; cases this
                have hue : u9' = u5 := hun 9 5 h9 rfl
                subst hue
                clear hun hcl hall
                clear hdep
                simp only [putAll, Act.put, List.setIfInBounds_toArray, List.set_cons_zero, List.set_cons_succ] at hK ⊢
                go_wp2
                exact hK _ _ rfl (fun j oj hji _ _ _ h => VDm_keep j hji (by omega) (by omega) (fun _ _ h => h) h) ⟨hbw, hgw, hxw, h8w, how, hkw, hzw⟩
              | 5 =>
                cases ho
                clear hdep
                simp only [putAll, Act.put, List.setIfInBounds_toArray, List.set_cons_zero, List.set_cons_succ] at hK ⊢
                go_wp2_with ((with_reducible apply loadB (n := 16) (ty := 28) Try.underlying28); (focus with_unfolding_all exact rfl); (focus (exact h8w; done)); (focus rfl); (focus kernel_rfl); (focus exact HFL.out))
                exact hK _ _ rfl (fun j oj hji _ _ _ h => VDm_keep j hji (by omega) (by omega) (fun _ _ h => h) h) ⟨hbw, hgw, hxw, h8w, how, hkw, hzw⟩
              | 6 =>
                cases ho
                have d5 := (hdep { on := 5, ground := Ground.data } (by simp) rfl).2
                have d5 : u5' = _ := d5
                subst d5
                clear hdep
                simp only [putAll, Act.put, List.setIfInBounds_toArray, List.set_cons_zero, List.set_cons_succ] at hK ⊢
                go_wp2_with ((with_reducible apply buildB); (focus with_unfolding_all exact rfl); (focus exact HFL.out))
                exact hK _ _ (.inr ⟨_, rfl, hzw, heap_new rfl⟩) (fun j oj hji _ _ _ h => VDm_keep j hji (by omega) (by omega) (fun _ _ h => heap_old (Array.getElem?_eq_some_iff.1 h).1 h) h) ⟨hbw.alloc hbw.size _, heap_old (by omega) hgw, heap_old (by omega) hxw, heap_old (Array.getElem?_eq_some_iff.1 h8w).1 h8w, how.alloc _, hkw.alloc _, by simp; omega⟩
              | 7 =>
                cases ho
                have d4 := (hdep { on := 4, ground := Ground.data } (by simp) rfl).2
                have d6 := (hdep { on := 6, ground := Ground.data } (by simp) rfl).2
                have d3 := hdep { on := 3, ground := Ground.chain } (by simp) rfl
                have l3 := d3.1
                have d3 := d3.2
                have d4 : u4' = _ := d4
                subst d4
                have h9 : L.getD 9 false = false := by
                  cases h : L.getD 9 false with
                  | false => rfl
                  | true => have := hcl 9 _ rfl h { on := 7, ground := Ground.data } (by simp) rfl; rw [hLi] at this; cases this
                rcases d6 with d6 | ⟨h6, d6, hh6, hb6⟩
                · rw [hLi] at d6; cases d6
                have d6 : u6 = _ := d6
                subst d6
                clear hdep hall
                simp only [putAll, Act.put, List.setIfInBounds_toArray, List.set_cons_zero, List.set_cons_succ] at hK ⊢
                (with_reducible apply appendBs2 (B := w.heap.size + 1) (zs := [fd])); (focus exact hkw); (focus with_unfolding_all exact rfl); (focus with_unfolding_all exact rfl); (focus rfl); (focus exact All16.one HFL.out)
                · intro q j hq hj
                  obtain rfl : q = 0 := by omega
                  rw [Nat.zero_mul, Nat.zero_add, Nat.zero_add]
                  show _ = some (Value.int .i64 (fd.getD j 0))
                  exact cell_at hb6 (by have := HFL.out; omega)
                · omega
                · omega
                · intro v' w2 hown hd
                  exact hK _ _ ⟨hown, fun q hq he => (hd.other _ _ _ _ _ _ d3.1 (fun g hg h => (d3.2 g hg).1 h)).2 q hq he, fun q hq he => (hd.block _ _ hgw (fun h => HD5.out _ h rfl)).2 (he ▸ hq)⟩ (fun j oj hji _ hj _ h => VDm_keep7 hLs hd l3 h9 j hji hj h) ⟨apd_below hd hbw (by omega) (fun q h => by have := HKL.out q h; omega), (hd.block _ _ hgw (fun h => HD5.out _ h rfl)).1, (hd.block _ _ hxw (fun h => by have := HKL.out _ h; omega)).1, (hd.block _ _ h8w (fun h => by have := HKO.out _ h; omega)).1, (hd.other _ _ _ _ _ _ how (fun g hg h => HDS.out g hg |>.1 h)).1, ⟨hkw.len, hd.old _ _ _ _ _ hkw.own⟩, Nat.le_trans hzw hd.grown.size⟩
              | 8 =>
                cases ho
                have d3 := (hdep { on := 3, ground := Ground.data } (by simp) rfl).2
                clear hdep
                simp only [putAll, Act.put, List.setIfInBounds_toArray, List.set_cons_zero, List.set_cons_succ] at hK ⊢
                go_wp2
                exact hK _ _ rfl (fun j oj hji _ _ _ h => VDm_keep j hji (by omega) (by omega) (fun _ _ h => h) h) ⟨hbw, hgw, hxw, h8w, how, hkw, hzw⟩
              | 9 =>
                cases ho
                have d7 := (hdep { on := 7, ground := Ground.data } (by simp) rfl).2
                clear hdep
                simp only [putAll, Act.put, List.setIfInBounds_toArray, List.set_cons_zero, List.set_cons_succ] at hK ⊢
                go_wp2
                exact hK _ _ rfl (fun j oj hji _ _ _ h => VDm_keep j hji (by omega) (by omega) (fun _ _ h => h) h) ⟨hbw, hgw, hxw, h8w, how, hkw, hzw⟩
              | i + 10 => simp at ho
            · intro L us w' hul hwc hL hv
              obtain ⟨u0, u1, u2, u3, u4', u5', u6, u7, u8', u9', rfl⟩ := list10 us hul
              obtain ⟨hbw, hgw, hxw, h8w, how, hkw, hzw⟩ := hwc
              have d3 : w'.ownsRow _ 3 1 u3 _ _ ∧ _ := hv 3 (by decide)
              have d7 : OwnBd w' _ u7 _ ∧ _ := hv 7 (by decide)
              have d8 : u8' = u3 := hv 8 (by decide)
              have d9 : u9' = u7 := hv 9 (by decide)
              subst d8 d9
              simp only [putAll, Act.put, List.setIfInBounds_toArray, List.set_cons_zero, List.set_cons_succ]
              go_wp2
              exact ⟨⟨k + 1, by omega, by go_num, by rw [HO1.out]; exact d3.1, by rw [HS1.out]; exact d7.1, fun q hq => ⟨d7.2.1 q hq, (d3.2 q hq).2⟩, d7.2.2, hgw, hxw, hbw, by omega⟩, by simp [intOf]; omega⟩
        · obtain rfl : k = n := by omega
          have HO := Lib.hid hout; have HBL := Lib.hid hbel
          clear hout hseen hdis hdis5 hmvs hbox hbel hsz
          go_wp2
          go_ret2
          exact ⟨_, by rw [HK.out]; rfl, by (rw [HE.out]; exact own_base HO.out (Nat.le_succ _)), HBL.out⟩
end Go.Proofs.Ytgkfhppmopmgjaa

/- Walks of single functions of the given Go program, printed by a program of mine; each theorem says what the function returns. -/
namespace Go.Proofs.Ytgkfhppmopmgjaa
open Go.RowKit Pl Go.Lib Go.Shelf
theorem dmB_len (b : List Int) : (dmB b).length ≤ 4 := by
  unfold dmB
  split
  · have h := outU_many b (movesB b) (movesB b).length
    have := movesB_len b
    omega
  · simp

set_option maxRecDepth 100000 in
set_option maxHeartbeats 4000000 in
theorem fnExactDistinctMoves_walk (b : List Int) (hb : b.length = 16) (_wl : wfL b) (w : World) : Calls Try.prog 9 #[aggB b] w fun e w' => e = .returned (.bool true) ∧ RowKit.Below w.heap.size w w' := by
  have hlen := dmB_len b
  cases hok : okB b
  all_goals
    go_enter Try.func9, Try.ntmps9
    go_upto_region 2 with (first | ((with_reducible apply loadB (n := 16) (ty := 25) Try.underlying25); (focus with_unfolding_all exact rfl); (focus ((repeat' (first | (with_reducible assumption) | ((with_reducible refine heap_new ?_); (focus ((try simp only [World.size_alloc, size_junk, size_setRow, Array.size_append]) <;> omega))) | ((with_reducible refine heap_old ?_ ?_); (focus ((try simp only [World.size_alloc, size_junk, size_setRow, Array.size_append]) <;> omega))) | ((with_reducible refine heap_junk ?_ ?_); (focus ((try simp only [World.size_alloc, size_junk, size_setRow, Array.size_append]) <;> omega))) | ((with_reducible apply heap_setRow_same)) | ((with_reducible refine heap_setRow_other ?_ ?_); (focus ((try simp only [World.size_alloc, size_junk, size_setRow, Array.size_append]) <;> omega))))); done)); (focus rfl); (focus kernel_rfl); (focus (first | (with_reducible assumption) | (with_reducible rfl) | (simp only [slideB_length, putL_length, rowOut_length, lineB_length, madeB_length, *]; done)))) | (go_at_call 11; refine (toBoard_any b hb _).mono ?_; rintro e w1 ⟨rfl, hb1⟩; obtain ⟨_, _, rfl⟩ := junk_of_below hb1; clear hb1) | (go_at_call 31; refine (specDM_any b hb _).mono ?_; rintro e w1 ⟨v0, rfl, hown0, hb1⟩; have hbox1 : w1.heap[w.heap.size]? = some (.cells (cellsB b) 25 (0, 0)) := (hb1.block _ (by ((try simp only [World.size_alloc, size_junk, size_setRow, Array.size_append]) <;> omega))).trans (by (repeat' (first | (with_reducible assumption) | ((with_reducible refine heap_new ?_); (focus ((try simp only [World.size_alloc, size_junk, size_setRow, Array.size_append]) <;> omega))) | ((with_reducible refine heap_old ?_ ?_); (focus ((try simp only [World.size_alloc, size_junk, size_setRow, Array.size_append]) <;> omega))) | ((with_reducible refine heap_junk ?_ ?_); (focus ((try simp only [World.size_alloc, size_junk, size_setRow, Array.size_append]) <;> omega))) | ((with_reducible apply heap_setRow_same)) | ((with_reducible refine heap_setRow_other ?_ ?_); (focus ((try simp only [World.size_alloc, size_junk, size_setRow, Array.size_append]) <;> omega)))))); have hbel1 : Below w.heap.size w w1 := Below.from0 (by (repeat' (first | (with_reducible exact RowKit.Below.refl _ _) | (with_reducible assumption) | (with_reducible refine Below.drewN ?_ _) | (with_reducible refine below_junk0 ?_ ?_ _ _) | (with_reducible refine RowKit.Below.alloc ?_ ?_ _) | (with_reducible refine below_setRow0 ?_ ?_) | (with_reducible refine RowKit.Below.setCell ?_ ?_ _) | (with_reducible refine RowKit.Below.drew ?_) | go_size | (simp only [size_junk]; go_size) | (simp only [World.size_alloc, size_junk, size_setRow]; omega) | omega))) (by ((try simp only [World.size_alloc, size_junk, size_setRow, Array.size_append]) <;> omega)) hb1; have hlt1 : w.heap.size + 1 ≤ w1.heap.size := Nat.le_trans (by ((try simp only [World.size_alloc, size_junk, size_setRow, Array.size_append]) <;> omega)) hb1.size; have HO0 := Lib.hid hown0; have hc1 := Below.refl w1.heap.size w1; clear hb1 hown0))
    go_upto_region 3 with (first | ((with_reducible apply loadB (n := 16) (ty := 25) Try.underlying25); (focus with_unfolding_all exact rfl); (focus ((repeat' (first | (with_reducible assumption) | ((with_reducible refine heap_new ?_); (focus ((try simp only [World.size_alloc, size_junk, size_setRow, Array.size_append]) <;> omega))) | ((with_reducible refine heap_old ?_ ?_); (focus ((try simp only [World.size_alloc, size_junk, size_setRow, Array.size_append]) <;> omega))) | ((with_reducible refine heap_junk ?_ ?_); (focus ((try simp only [World.size_alloc, size_junk, size_setRow, Array.size_append]) <;> omega))) | ((with_reducible apply heap_setRow_same)) | ((with_reducible refine heap_setRow_other ?_ ?_); (focus ((try simp only [World.size_alloc, size_junk, size_setRow, Array.size_append]) <;> omega))))); done)); (focus rfl); (focus kernel_rfl); (focus (first | (with_reducible assumption) | (with_reducible rfl) | (simp only [slideB_length, putL_length, rowOut_length, lineB_length, madeB_length, *]; done)))) | (go_at_call 11; refine (toBoard_any b hb _).mono ?_; rintro e w1 ⟨rfl, hb1⟩; obtain ⟨_, _, rfl⟩ := junk_of_below hb1; clear hb1) | (go_at_call 32; refine (implDM_any b hb _).mono ?_; rintro e w2 ⟨v2, rfl, hownx, hb1⟩; have hown2 := own_base (B' := w1.heap.size) hownx (by ((try simp only [World.size_alloc, size_junk, size_setRow, Array.size_append]) <;> omega)); clear hownx; have hbox2 : w2.heap[w.heap.size]? = some (.cells (cellsB b) 25 (0, 0)) := (hb1.block _ (by ((try simp only [World.size_alloc, size_junk, size_setRow, Array.size_append]) <;> omega))).trans (by (repeat' (first | (with_reducible assumption) | ((with_reducible refine heap_new ?_); (focus ((try simp only [World.size_alloc, size_junk, size_setRow, Array.size_append]) <;> omega))) | ((with_reducible refine heap_old ?_ ?_); (focus ((try simp only [World.size_alloc, size_junk, size_setRow, Array.size_append]) <;> omega))) | ((with_reducible refine heap_junk ?_ ?_); (focus ((try simp only [World.size_alloc, size_junk, size_setRow, Array.size_append]) <;> omega))) | ((with_reducible apply heap_setRow_same)) | ((with_reducible refine heap_setRow_other ?_ ?_); (focus ((try simp only [World.size_alloc, size_junk, size_setRow, Array.size_append]) <;> omega)))))); have hbel2 : Below w.heap.size w w2 := Below.from0 (by (repeat' (first | (with_reducible exact RowKit.Below.refl _ _) | (with_reducible assumption) | (with_reducible refine Below.drewN ?_ _) | (with_reducible refine below_junk0 ?_ ?_ _ _) | (with_reducible refine RowKit.Below.alloc ?_ ?_ _) | (with_reducible refine below_setRow0 ?_ ?_) | (with_reducible refine RowKit.Below.setCell ?_ ?_ _) | (with_reducible refine RowKit.Below.drew ?_) | go_size | (simp only [size_junk]; go_size) | (simp only [World.size_alloc, size_junk, size_setRow]; omega) | omega))) (by ((try simp only [World.size_alloc, size_junk, size_setRow, Array.size_append]) <;> omega)) hb1; have hlt2 : w.heap.size + 1 ≤ w2.heap.size := Nat.le_trans (by ((try simp only [World.size_alloc, size_junk, size_setRow, Array.size_append]) <;> omega)) hb1.size; have hc2 : Below w1.heap.size w1 w2 := Below.from0 (by (repeat' (first | (with_reducible exact RowKit.Below.refl _ _) | (with_reducible assumption) | (with_reducible refine Below.drewN ?_ _) | (with_reducible refine below_junk0 ?_ ?_ _ _) | (with_reducible refine RowKit.Below.alloc ?_ ?_ _) | (with_reducible refine below_setRow0 ?_ ?_) | (with_reducible refine RowKit.Below.setCell ?_ ?_ _) | (with_reducible refine RowKit.Below.drew ?_) | go_size | (simp only [size_junk]; go_size) | (simp only [World.size_alloc, size_junk, size_setRow]; omega) | omega))) (by ((try simp only [World.size_alloc, size_junk, size_setRow, Array.size_append]) <;> omega)) hb1; have hs2 := hc2.size; clear hb1))
    go_upto_region 6 with (go_at_call 18; refine (eqIntS_same (a := dmB b) _ (by (repeat' (first | (with_reducible assumption) | (with_reducible apply own_junk) | (with_reducible apply World.ownsRow.alloc)))) (own_below HO0 (by (repeat' (first | (with_reducible exact RowKit.Below.refl _ _) | (with_reducible assumption) | (with_reducible refine Below.drewN ?_ _) | (with_reducible refine below_junk0 ?_ ?_ _ _) | (with_reducible refine RowKit.Below.alloc ?_ ?_ _) | (with_reducible refine below_setRow0 ?_ ?_) | (with_reducible refine RowKit.Below.setCell ?_ ?_ _) | (with_reducible refine RowKit.Below.drew ?_) | go_size | (simp only [size_junk]; go_size) | (simp only [World.size_alloc, size_junk, size_setRow]; omega) | omega))) (Nat.le_refl _)) (by omega)).mono ?_; rintro e w8 ⟨rfl, hb1⟩; obtain ⟨_, _, rfl⟩ := junk_of_below hb1; clear hb1)
    go_upto_region 8 with (go_at_call 19; refine (markIntS_any (B := w1.heap.size) (l := dmB b) 1 _ (by (repeat' (first | (with_reducible assumption) | (with_reducible apply own_junk) | (with_reducible apply World.ownsRow.alloc)))) (by omega) (by omega) (by ((try simp only [World.size_alloc, size_junk, size_setRow, Array.size_append]) <;> omega))).mono ?_; (rintro e w3 ⟨rfl, hmk, hb1⟩); (have hc3 : Below w1.heap.size w1 w3 := Below.trans (by (repeat' (first | (with_reducible exact RowKit.Below.refl _ _) | (with_reducible assumption) | (with_reducible refine Below.drewN ?_ _) | (with_reducible refine below_junk0 ?_ ?_ _ _) | (with_reducible refine RowKit.Below.alloc ?_ ?_ _) | (with_reducible refine below_setRow0 ?_ ?_) | (with_reducible refine RowKit.Below.setCell ?_ ?_ _) | (with_reducible refine RowKit.Below.drew ?_) | go_size | (simp only [size_junk]; go_size) | (simp only [World.size_alloc, size_junk, size_setRow]; omega) | omega))) hb1); (have hs3 := hc3.size); (have hbox3 : w3.heap[w.heap.size]? = some (.cells (cellsB b) 25 (0, 0)) := (hb1.block _ (by omega)).trans (by (repeat' (first | (with_reducible assumption) | ((with_reducible refine heap_new ?_); (focus ((try simp only [World.size_alloc, size_junk, size_setRow, Array.size_append]) <;> omega))) | ((with_reducible refine heap_old ?_ ?_); (focus ((try simp only [World.size_alloc, size_junk, size_setRow, Array.size_append]) <;> omega))) | ((with_reducible refine heap_junk ?_ ?_); (focus ((try simp only [World.size_alloc, size_junk, size_setRow, Array.size_append]) <;> omega))) | ((with_reducible apply heap_setRow_same)) | ((with_reducible refine heap_setRow_other ?_ ?_); (focus ((try simp only [World.size_alloc, size_junk, size_setRow, Array.size_append]) <;> omega))))))); (have hbel3 : Below w.heap.size w w3 := Below.trans (by (repeat' (first | (with_reducible exact RowKit.Below.refl _ _) | (with_reducible assumption) | (with_reducible refine Below.drewN ?_ _) | (with_reducible refine below_junk0 ?_ ?_ _ _) | (with_reducible refine RowKit.Below.alloc ?_ ?_ _) | (with_reducible refine below_setRow0 ?_ ?_) | (with_reducible refine RowKit.Below.setCell ?_ ?_ _) | (with_reducible refine RowKit.Below.drew ?_) | go_size | (simp only [size_junk]; go_size) | (simp only [World.size_alloc, size_junk, size_setRow]; omega) | omega))) (hb1.mono (by omega))); (have hlt3 : w.heap.size + 1 ≤ w3.heap.size := by omega); (clear hb1))
    clear hown2
    go_upto_region 13 with (go_at_call 20; refine (heldIntS_any (n := (dmB b).length) 1 _ (by (repeat' (first | (with_reducible assumption) | (with_reducible apply own_junk) | (with_reducible apply World.ownsRow.alloc)))) (by omega) (by omega)).mono ?_; rintro e w9 ⟨rfl, hb1⟩; obtain ⟨_, _, rfl⟩ := junk_of_below hb1; clear hb1)
    go_upto_region 14 with (first | ((with_reducible apply loadB (n := 16) (ty := 25) Try.underlying25); (focus with_unfolding_all exact rfl); (focus ((repeat' (first | (with_reducible assumption) | ((with_reducible refine heap_new ?_); (focus ((try simp only [World.size_alloc, size_junk, size_setRow, Array.size_append]) <;> omega))) | ((with_reducible refine heap_old ?_ ?_); (focus ((try simp only [World.size_alloc, size_junk, size_setRow, Array.size_append]) <;> omega))) | ((with_reducible refine heap_junk ?_ ?_); (focus ((try simp only [World.size_alloc, size_junk, size_setRow, Array.size_append]) <;> omega))) | ((with_reducible apply heap_setRow_same)) | ((with_reducible refine heap_setRow_other ?_ ?_); (focus ((try simp only [World.size_alloc, size_junk, size_setRow, Array.size_append]) <;> omega))))); done)); (focus rfl); (focus kernel_rfl); (focus (first | (with_reducible assumption) | (with_reducible rfl) | (simp only [slideB_length, putL_length, rowOut_length, lineB_length, madeB_length, *]; done)))) | (go_at_call 11; refine (toBoard_any b hb _).mono ?_; rintro e w1 ⟨rfl, hb1⟩; obtain ⟨_, _, rfl⟩ := junk_of_below hb1; clear hb1) | (go_at_call 32; refine (implDM_any b hb _).mono ?_; rintro e w5 ⟨v5, rfl, hownx, hb1⟩; have hown5 := own_base (B' := w1.heap.size) hownx (by ((try simp only [World.size_alloc, size_junk, size_setRow, Array.size_append]) <;> omega)); clear hownx; have hbox5 : w5.heap[w.heap.size]? = some (.cells (cellsB b) 25 (0, 0)) := (hb1.block _ (by ((try simp only [World.size_alloc, size_junk, size_setRow, Array.size_append]) <;> omega))).trans (by (repeat' (first | (with_reducible assumption) | ((with_reducible refine heap_new ?_); (focus ((try simp only [World.size_alloc, size_junk, size_setRow, Array.size_append]) <;> omega))) | ((with_reducible refine heap_old ?_ ?_); (focus ((try simp only [World.size_alloc, size_junk, size_setRow, Array.size_append]) <;> omega))) | ((with_reducible refine heap_junk ?_ ?_); (focus ((try simp only [World.size_alloc, size_junk, size_setRow, Array.size_append]) <;> omega))) | ((with_reducible apply heap_setRow_same)) | ((with_reducible refine heap_setRow_other ?_ ?_); (focus ((try simp only [World.size_alloc, size_junk, size_setRow, Array.size_append]) <;> omega)))))); have hbel5 : Below w.heap.size w w5 := Below.from0 (by (repeat' (first | (with_reducible exact RowKit.Below.refl _ _) | (with_reducible assumption) | (with_reducible refine Below.drewN ?_ _) | (with_reducible refine below_junk0 ?_ ?_ _ _) | (with_reducible refine RowKit.Below.alloc ?_ ?_ _) | (with_reducible refine below_setRow0 ?_ ?_) | (with_reducible refine RowKit.Below.setCell ?_ ?_ _) | (with_reducible refine RowKit.Below.drew ?_) | go_size | (simp only [size_junk]; go_size) | (simp only [World.size_alloc, size_junk, size_setRow]; omega) | omega))) (by ((try simp only [World.size_alloc, size_junk, size_setRow, Array.size_append]) <;> omega)) hb1; have hlt5 : w.heap.size + 1 ≤ w5.heap.size := Nat.le_trans (by ((try simp only [World.size_alloc, size_junk, size_setRow, Array.size_append]) <;> omega)) hb1.size; have hc5 : Below w1.heap.size w1 w5 := Below.from0 (by (repeat' (first | (with_reducible exact RowKit.Below.refl _ _) | (with_reducible assumption) | (with_reducible refine Below.drewN ?_ _) | (with_reducible refine below_junk0 ?_ ?_ _ _) | (with_reducible refine RowKit.Below.alloc ?_ ?_ _) | (with_reducible refine below_setRow0 ?_ ?_) | (with_reducible refine RowKit.Below.setCell ?_ ?_ _) | (with_reducible refine RowKit.Below.drew ?_) | go_size | (simp only [size_junk]; go_size) | (simp only [World.size_alloc, size_junk, size_setRow]; omega) | omega))) (by ((try simp only [World.size_alloc, size_junk, size_setRow, Array.size_append]) <;> omega)) hb1; have hs5 := hc5.size; have hmk5 : w5.ownsRow w1.heap.size 3 1 v2 (upL 1 (dmB b).length).length ((upL 1 (dmB b).length).map (Value.int .i64)) := own_below (by (repeat' (first | (with_reducible assumption) | (with_reducible apply own_junk) | (with_reducible apply World.ownsRow.alloc)))) hb1 (Nat.le_refl _); clear hb1))
    clear hmk
    go_wp2_with (first | (go_at_call 18; refine (eqIntS_same (a := dmB b) _ (by (repeat' (first | (with_reducible assumption) | (with_reducible apply own_junk) | (with_reducible apply World.ownsRow.alloc)))) (own_below HO0 (by (repeat' (first | (with_reducible exact RowKit.Below.refl _ _) | (with_reducible assumption) | (with_reducible refine Below.drewN ?_ _) | (with_reducible refine below_junk0 ?_ ?_ _ _) | (with_reducible refine RowKit.Below.alloc ?_ ?_ _) | (with_reducible refine below_setRow0 ?_ ?_) | (with_reducible refine RowKit.Below.setCell ?_ ?_ _) | (with_reducible refine RowKit.Below.drew ?_) | go_size | (simp only [size_junk]; go_size) | (simp only [World.size_alloc, size_junk, size_setRow]; omega) | omega))) (Nat.le_refl _)) (by omega)).mono ?_; rintro e w8 ⟨rfl, hb1⟩; obtain ⟨_, _, rfl⟩ := junk_of_below hb1; clear hb1) | (go_at_call 20; refine (heldIntS_any (n := (dmB b).length) 1 _ (by (repeat' (first | (with_reducible assumption) | (with_reducible apply own_junk) | (with_reducible apply World.ownsRow.alloc)))) (by omega) (by omega)).mono ?_; rintro e w9 ⟨rfl, hb1⟩; obtain ⟨_, _, rfl⟩ := junk_of_below hb1; clear hb1))
    go_ret
    exact ⟨rfl, by (repeat' (first | (with_reducible exact RowKit.Below.refl _ _) | (with_reducible assumption) | (with_reducible refine Below.drewN ?_ _) | (with_reducible refine below_junk0 ?_ ?_ _ _) | (with_reducible refine RowKit.Below.alloc ?_ ?_ _) | (with_reducible refine below_setRow0 ?_ ?_) | (with_reducible refine RowKit.Below.setCell ?_ ?_ _) | (with_reducible refine RowKit.Below.drew ?_) | go_size | (simp only [size_junk]; go_size) | (simp only [World.size_alloc, size_junk, size_setRow]; omega) | omega))⟩
end Go.Proofs.Ytgkfhppmopmgjaa

