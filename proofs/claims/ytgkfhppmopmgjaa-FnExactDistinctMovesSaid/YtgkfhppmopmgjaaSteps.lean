/- A region that draws its order, whatever its operations do: each operation is shown once, under what the operations that it waits for have told; what each has told must outlast the others.
   Conditions: the closed test 'stepsB' on the region: no guards, no temporary written twice, each operation waits for earlier ones only. -/
import Derived.StillTail
import Derived.Deep.Quiet
import Derived.WalkKit
set_option linter.all false
namespace Go.Proofs.Ytgkfhppmopmgjaa
open Go Go.RowKit

theorem put_comm {a : Act} {s t : Tmp} {u v : Value} (h : s ≠ t) : (a.put (some s) u).put (some t) v = (a.put (some t) v).put (some s) u := by
  simp only [Act.put]
  congr 1
  exact Array.setIfInBounds_comm _ _ h
theorem put_put {a : Act} {t : Tmp} {u v : Value} : (a.put (some t) u).put (some t) v = a.put (some t) v := by
  simp [Act.put]
def putAll (a : Act) : List (Option Tmp) → List Value → Act
  | d :: ds, u :: us => putAll (a.put d u) ds us
  | _, _ => a
theorem putAll_put {ds : List (Option Tmp)} : ∀ {us : List Value} {a : Act} {t : Tmp} {v : Value}, (some t) ∉ ds → putAll (a.put (some t) v) ds us = (putAll a ds us).put (some t) v := by
  induction ds with
  | nil => intro us a t v _; cases us <;> rfl
  | cons d ds ih =>
    intro us a t v h
    simp only [List.mem_cons, not_or] at h
    cases us with
    | nil => rfl
    | cons u us =>
      cases d with
      | none => exact ih h.2
      | some d => rw [putAll, putAll, put_comm (fun e => h.1 (by rw [e])), ih h.2]
/-- No temporary twice. -/
def onceB : List (Option Tmp) → Bool
  | [] => true
  | none :: ds => onceB ds
  | some d :: ds => !(ds.contains (some d)) && onceB ds
theorem putAll_set {ds : List (Option Tmp)} : ∀ {us : List Value} {a : Act} {i : Nat} {t : Option Tmp} {v : Value}, onceB ds = true → ds[i]? = some t → us.length = ds.length → putAll a ds (us.set i v) = (putAll a ds us).put t v := by
  induction ds with
  | nil => intro us a i t v _ h; simp at h
  | cons d ds ih =>
    intro us a i t v hn hi hl
    cases us with
    | nil => simp at hl
    | cons u us =>
      have hn2 : onceB ds = true := by
        cases d with
        | none => exact hn
        | some d => simp only [onceB, Bool.and_eq_true] at hn; exact hn.2
      cases i with
      | zero =>
        simp only [List.getElem?_cons_zero, Option.some.injEq] at hi
        subst hi
        cases d with
        | none => rfl
        | some d =>
          have h1 : (some d) ∉ ds := by
            simp only [onceB, Bool.and_eq_true, Bool.not_eq_true', List.contains_eq_mem, decide_eq_false_iff_not] at hn
            exact hn.1
          rw [List.set_cons_zero, putAll, putAll, putAll_put h1, putAll_put h1, put_put]
      | succ i =>
        rw [List.set_cons_succ, putAll, putAll]
        exact ih hn2 (by simpa using hi) (by simpa using hl)

/-- How many of the first k are not listed. -/
def cntF (listed : Array Bool) : Nat → Nat
  | 0 => 0
  | k + 1 => cntF listed k + (if listed.getD k false then 0 else 1)
theorem cntF_set_ge {listed : Array Bool} {i : Nat} : ∀ {k : Nat}, k ≤ i → cntF (listed.setIfInBounds i true) k = cntF listed k
  | 0, _ => rfl
  | k + 1, h => by rw [cntF, cntF, cntF_set_ge (by omega), getD_set_ne false (by omega)]
theorem cntF_set {listed : Array Bool} {i : Nat} (hs : i < listed.size) (hu : listed.getD i false = false) : ∀ {k : Nat}, i < k → cntF (listed.setIfInBounds i true) k + 1 = cntF listed k
  | 0, h => by omega
  | k + 1, h => by
    rw [cntF, cntF]
    by_cases hk : i = k
    · subst hk
      rw [cntF_set_ge (Nat.le_refl _), hu]
      simp [hs]
    · rw [getD_set_ne false hk]
      have := cntF_set hs hu (k := k) (by omega)
      omega
theorem cntF_zero {listed : Array Bool} : ∀ {k : Nat}, cntF listed k = 0 → ∀ j, j < k → listed.getD j false = true
  | 0, _, j, hj => by omega
  | k + 1, h, j, hj => by
    rw [cntF] at h
    by_cases hk : listed.getD k false = true
    · by_cases hjk : j = k
      · subst hjk; exact hk
      · exact cntF_zero (k := k) (by omega) j (by omega)
    · rw [if_neg hk] at h; omega
theorem cntF_pos {listed : Array Bool} : ∀ {k : Nat}, 0 < cntF listed k → ∃ j, j < k ∧ listed.getD j false = false ∧ ∀ m, m < j → listed.getD m false = true
  | 0, h => by simp [cntF] at h
  | k + 1, h => by
    rw [cntF] at h
    by_cases hp : 0 < cntF listed k
    · obtain ⟨j, hj, hu, hm⟩ := cntF_pos hp
      exact ⟨j, by omega, hu, hm⟩
    · have h0 : cntF listed k = 0 := by omega
      refine ⟨k, by omega, ?_, fun m hm => cntF_zero h0 m hm⟩
      cases hk : listed.getD k false with
      | false => rfl
      | true => rw [hk] at h; simp at h; omega

/-- The closed test. -/
def stepsB (ops : Array Oper) (ds : List (Option Tmp)) : Bool :=
  decide (ds.length = ops.size) && onceB ds &&
  (List.range ops.size).all (fun i => match ops[i]? with | some o => (decide (some o.dst = ds[i]?)) && o.guard.isNone && o.after.all (fun e => !Region.binds .any e || decide (e.on < i)) | none => false)

section
variable {P : Program} {ops : Array Oper} {Q : Exit → Act → World → Prop} {C : World → Prop} {V : Nat → List Value → World → Prop} {a0 : Act} {ds : List (Option Tmp)}

/-- What one operation is to do. -/
def StepOk (P : Program) (ops : Array Oper) (Q : Exit → Act → World → Prop) (C : World → Prop) (V : Nat → List Value → World → Prop) (a0 : Act) (ds : List (Option Tmp)) (i : Nat) (o : Oper) : Prop :=
  ∀ us w (K : Act → World → Prop), us.length = ds.length → C w → (∀ e ∈ o.after, Region.binds .any e = true → V e.on us w) →
    (∀ v w', V i (us.set i v) w' → (∀ j oj, j ≠ i → ops[j]? = some oj → (∀ e ∈ oj.after, Region.binds .any e = true → e.on ≠ i) → V j us w → V j (us.set i v) w') → C w' → K ((putAll a0 ds us).put o.dst v) w') →
    wpList P ops (fun x a' w' => match x with | .normal => K a' w' | x => Q x a' w') [o] (putAll a0 ds us) w

theorem wpOp_of_list {i : Nat} {o : Oper} {K : Act → World → Prop} {a : Act} {w : World} (hi : ops[i]? = some o) (hg : o.guard = none)
    (h : wpList P ops (fun x a' w' => match x with | .normal => K a' w' | x => Q x a' w') [o] a w) : wpOp P ops Q i K a w := by
  unfold wpOp
  simp only [hi]
  unfold wpList at h
  simp only [Region.wanted, hg, if_true] at h ⊢
  exact h

theorem wpAny_steps (hdl : ds.length = ops.size) (hnd : onceB ds = true)
    (hop0 : ∀ i, i < ops.size → ∃ o, ops[i]? = some o ∧ some o.dst = ds[i]? ∧ o.guard = none ∧ ∀ e ∈ o.after, Region.binds .any e = true → e.on < i)
    (hop : ∀ i o, ops[i]? = some o → StepOk P ops Q C V a0 ds i o)
    (hend : ∀ us w, us.length = ops.size → C w → (∀ i, i < ops.size → V i us w) → Q .normal (putAll a0 ds us) w) :
    ∀ (f : Nat) (listed : Array Bool) (us : List Value) (w : World), cntF listed ops.size = f → listed.size = ops.size →
      (∀ j oj, ops[j]? = some oj → listed.getD j false = true → ∀ e ∈ oj.after, Region.binds .any e = true → listed.getD e.on false = true) → us.length = ops.size → C w → (∀ i, i < ops.size → listed.getD i false = true → V i us w) →
      wpAny P .any ops Q f listed (putAll a0 ds us) w
  | 0, listed, us, w, hf, hls, hcl, hul, hw, hv => by
    have hall := cntF_zero hf
    refine ⟨?_, hend us w hul hw (fun i hi => hv i hi (hall i hi))⟩
    apply List.eq_nil_iff_forall_not_mem.2
    intro i hi
    obtain ⟨hu, o, ho, _⟩ := mem_ready.1 hi
    have := hall i (Array.getElem?_eq_some_iff.1 ho).1
    rw [getD_both hu] at this
    cases this
  | f + 1, listed, us, w, hf, hls, hcl, hul, hw, hv => by
    obtain ⟨j, hj, hju, hjm⟩ := cntF_pos (listed := listed) (k := ops.size) (by omega)
    have hjr : j ∈ Region.ready .any ops listed := by
      obtain ⟨o, ho, _, _, he⟩ := hop0 j hj
      exact mem_ready.2 ⟨getD_in (by omega) hju, o, ho, fun e hee hbe => hjm _ (he e hee hbe)⟩
    refine ⟨fun h0 => (by rw [h0] at hjr; cases hjr), fun i hi => ?_⟩
    obtain ⟨hiu, o, ho, hdep⟩ := mem_ready.1 hi
    have hin : i < ops.size := (Array.getElem?_eq_some_iff.1 ho).1
    obtain ⟨o2, ho2, hod, hog, hon⟩ := hop0 i hin
    rw [ho] at ho2; cases ho2
    have hiu' := getD_both hiu
    refine wpOp_of_list ho hog (hop i o ho us w _ (by rw [hul, hdl]) hw (fun e he hb => ?_) (fun v w' hvv hkeep hw' => ?_))
    · exact hv _ (by have := hon e he hb; omega) (hdep e he hb)
    · rw [← putAll_set hnd hod.symm (by rw [hul, hdl])]
      have hset : ∀ k, (listed.setIfInBounds i true).getD k false = true → k = i ∨ (k ≠ i ∧ listed.getD k false = true) := by
        intro k hk
        by_cases hki : i = k
        · exact .inl hki.symm
        · rw [getD_set_ne false hki] at hk; exact .inr ⟨Ne.symm hki, hk⟩
      refine wpAny_steps hdl hnd hop0 hop hend f _ _ w' ?_ (by simp [hls]) ?_ (by simpa using hul) hw' ?_
      · have := cntF_set (listed := listed) (i := i) (by omega) hiu' hin
        omega
      · intro k ok hk hkl e he hb
        rcases hset k hkl with rfl | ⟨_, hkl⟩
        · rw [ho] at hk; cases hk
          exact getD_set_true (hdep e he hb)
        · exact getD_set_true (hcl k ok hk hkl e he hb)
      · intro k hk hkl
        rcases hset k hkl with rfl | ⟨hki, hkl⟩
        · exact hvv
        · obtain ⟨ok, hok, _⟩ := hop0 k hk
          refine hkeep k ok hki hok (fun e he hb heq => ?_) (hv k hk hkl)
          have := hcl k ok hok hkl e he hb
          rw [heq, hiu'] at this
          cases this

theorem putAll_self {ds : List (Option Tmp)} : ∀ {a : Act}, ds.all (fun d => match d with | some d => decide (d < a.tmps.size) | none => true) = true → putAll a ds (ds.map fun d => match d with | some d => a.tmps.getD d undef | none => undef) = a := by
  induction ds with
  | nil => intro a _; rfl
  | cons d ds ih =>
    intro a h
    cases d with
    | none =>
      simp only [List.all_cons, Bool.true_and] at h
      exact ih h
    | some d =>
      simp only [List.all_cons, Bool.and_eq_true, decide_eq_true_eq] at h
      have e : a.put (some d) (a.tmps.getD d undef) = a := by
        obtain ⟨tmps, defers⟩ := a
        simp only [Act.put]
        congr 1
        apply Array.ext
        · simp
        · intro i h1 h2
          by_cases hi : d = i
          · subst hi; simp [h.1]
          · exact Array.getElem_setIfInBounds_ne h2 hi
      rw [List.map_cons, putAll]
      simp only
      rw [e]
      exact ih h.2

theorem wp_region_steps {id : Nat} {w0 : World} {l : List Oper} (ds : List (Option Tmp)) (V : Nat → List Value → World → Prop) (C : World → Prop) (hm : P.follows .mixedOrders = true) (hB : stepsB l.toArray ds = true)
    (hsz : ds.all (fun d => match d with | some d => decide (d < a0.tmps.size) | none => true) = true) (hC : C { w0 with drawn := w0.drawn + 1 })
    (hop : ∀ i o, l[i]? = some o → StepOk P l.toArray Q C V a0 ds i o)
    (hend : ∀ us w, us.length = l.length → C w → (∀ i, i < l.length → V i us w) → Q .normal (putAll a0 ds us) w) : (Code.region id l.toArray true).wp P Q a0 w0 := by
  simp only [stepsB, Bool.and_eq_true, decide_eq_true_eq] at hB
  obtain ⟨⟨hdl, hnd⟩, hall⟩ := hB
  have hop0 : ∀ i, i < l.toArray.size → ∃ o, l.toArray[i]? = some o ∧ some o.dst = ds[i]? ∧ o.guard = none ∧ ∀ e ∈ o.after, Region.binds .any e = true → e.on < i := by
    intro i hi
    have := List.all_eq_true.1 hall i (List.mem_range.2 hi)
    cases ho : l.toArray[i]? with
    | none => rw [ho] at this; simp at this
    | some o =>
      rw [ho] at this
      simp only [Bool.and_eq_true, decide_eq_true_eq, Option.isNone_iff_eq_none, Array.all_eq_true_iff_forall_mem] at this
      exact ⟨o, rfl, this.1.1, this.1.2, fun e he hb => by have h := this.2 e he; rw [hb] at h; simpa using h⟩
  refine wp_region_any hm ?_
  have hcnt : ∀ k, cntF (Array.replicate l.toArray.size false) k = k := by
    intro k
    induction k with
    | zero => rfl
    | succ k ih => rw [cntF, ih, getD_replicate_false]; simp
  have H := wpAny_steps (P := P) (Q := Q) (C := C) (V := V) (a0 := a0) (ds := ds) (ops := l.toArray) hdl hnd hop0 (fun i o ho => hop i o (by simpa using ho)) (fun us w hul => hend us w (by simpa using hul))
    l.toArray.size (Array.replicate l.toArray.size false) (ds.map fun d => match d with | some d => a0.tmps.getD d undef | none => undef) { w0 with drawn := w0.drawn + 1 } (hcnt _) (by simp) (fun j oj _ hl => by rw [getD_replicate_false] at hl; cases hl)
    (by simpa using hdl) hC (fun i _ hl => by rw [getD_replicate_false] at hl; cases hl)
  rw [putAll_self hsz] at H
  exact H
end
end Go.Proofs.Ytgkfhppmopmgjaa
