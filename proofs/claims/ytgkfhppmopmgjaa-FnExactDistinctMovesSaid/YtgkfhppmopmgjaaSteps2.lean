/- As Steps, but what an operation has told may hang on which operations are done: so it need last only till its reader has run. -/
import Derived.Test.YtgkfhppmopmgjaaSteps
set_option linter.all false
namespace Go.Proofs.Ytgkfhppmopmgjaa
open Go Go.RowKit

section
variable {P : Program} {ops : Array Oper} {Q : Exit → Act → World → Prop} {C : World → Prop} {V : Nat → Array Bool → List Value → World → Prop} {a0 : Act} {ds : List (Option Tmp)}
/-- What one operation is to do; L: which operations are done. -/
def StepOk2 (P : Program) (ops : Array Oper) (Q : Exit → Act → World → Prop) (C : World → Prop) (V : Nat → Array Bool → List Value → World → Prop) (a0 : Act) (ds : List (Option Tmp)) (i : Nat) (o : Oper) : Prop :=
  ∀ L us w (K : Act → World → Prop), us.length = ds.length → L.size = ops.size → L.getD i false = false → (∀ j oj, ops[j]? = some oj → L.getD j false = true → ∀ e ∈ oj.after, Region.binds .any e = true → L.getD e.on false = true) → (∀ j, j < ops.size → L.getD j false = true → V j L us w) → C w → (∀ e ∈ o.after, Region.binds .any e = true → L.getD e.on false = true ∧ V e.on L us w) →
    (∀ v w', V i (L.setIfInBounds i true) (us.set i v) w' →
      (∀ j oj, j ≠ i → ops[j]? = some oj → L.getD j false = true → (∀ e ∈ oj.after, Region.binds .any e = true → e.on ≠ i) → V j L us w → V j (L.setIfInBounds i true) (us.set i v) w') → C w' → K ((putAll a0 ds us).put o.dst v) w') →
    wpList P ops (fun x a' w' => match x with | .normal => K a' w' | x => Q x a' w') [o] (putAll a0 ds us) w

theorem wpAny_steps2 (hdl : ds.length = ops.size) (hnd : onceB ds = true)
    (hop0 : ∀ i, i < ops.size → ∃ o, ops[i]? = some o ∧ some o.dst = ds[i]? ∧ o.guard = none ∧ ∀ e ∈ o.after, Region.binds .any e = true → e.on < i)
    (hop : ∀ i o, ops[i]? = some o → StepOk2 P ops Q C V a0 ds i o)
    (hend : ∀ L us w, us.length = ops.size → C w → (∀ i, i < ops.size → L.getD i false = true) → (∀ i, i < ops.size → V i L us w) → Q .normal (putAll a0 ds us) w) :
    ∀ (f : Nat) (listed : Array Bool) (us : List Value) (w : World), cntF listed ops.size = f → listed.size = ops.size →
      (∀ j oj, ops[j]? = some oj → listed.getD j false = true → ∀ e ∈ oj.after, Region.binds .any e = true → listed.getD e.on false = true) → us.length = ops.size → C w → (∀ i, i < ops.size → listed.getD i false = true → V i listed us w) →
      wpAny P .any ops Q f listed (putAll a0 ds us) w
  | 0, listed, us, w, hf, hls, hcl, hul, hw, hv => by
    have hall := cntF_zero hf
    refine ⟨?_, hend listed us w hul hw (fun i hi => hall i hi) (fun i hi => hv i hi (hall i hi))⟩
    apply List.eq_nil_iff_forall_not_mem.2
    intro i hi
    obtain ⟨hu, o, ho, _⟩ := mem_ready.1 hi
    have := hall i (Array.getElem?_eq_some_iff.1 ho).1
    rw [getD_both hu] at this
    cases this
  | f + 1, listed, us, w, hf, hls, hcl, hul, hw, hv => by
    obtain ⟨j, hj, hju, hjm⟩ := cntF_pos (listed := listed) (k := ops.size) (by omega)
    have hjr : j ∈ Region.ready .any ops listed := by
      obtain ⟨o, ho, _, _, he⟩ := hop0 j hj
      exact mem_ready.2 ⟨getD_in (by omega) hju, o, ho, fun e hee hbe => hjm _ (he e hee hbe)⟩
    refine ⟨fun h0 => (by rw [h0] at hjr; cases hjr), fun i hi => ?_⟩
    obtain ⟨hiu, o, ho, hdep⟩ := mem_ready.1 hi
    have hin : i < ops.size := (Array.getElem?_eq_some_iff.1 ho).1
    obtain ⟨o2, ho2, hod, hog, hon⟩ := hop0 i hin
    rw [ho] at ho2; cases ho2
    have hiu' := getD_both hiu
    refine wpOp_of_list ho hog (hop i o ho listed us w _ (by rw [hul, hdl]) hls hiu' hcl hv hw (fun e he hb => ?_) (fun v w' hvv hkeep hw' => ?_))
    · exact ⟨hdep e he hb, hv _ (by have := hon e he hb; omega) (hdep e he hb)⟩
    · rw [← putAll_set hnd hod.symm (by rw [hul, hdl])]
      have hset : ∀ k, (listed.setIfInBounds i true).getD k false = true → k = i ∨ (k ≠ i ∧ listed.getD k false = true) := by
        intro k hk
        by_cases hki : i = k
        · exact .inl hki.symm
        · rw [getD_set_ne false hki] at hk; exact .inr ⟨Ne.symm hki, hk⟩
      refine wpAny_steps2 hdl hnd hop0 hop hend f _ _ w' ?_ (by simp [hls]) ?_ (by simpa using hul) hw' ?_
      · have := cntF_set (listed := listed) (i := i) (by omega) hiu' hin
        omega
      · intro k ok hk hkl e he hb
        rcases hset k hkl with rfl | ⟨_, hkl⟩
        · rw [ho] at hk; cases hk
          exact getD_set_true (hdep e he hb)
        · exact getD_set_true (hcl k ok hk hkl e he hb)
      · intro k hk hkl
        rcases hset k hkl with rfl | ⟨hki, hkl⟩
        · exact hvv
        · obtain ⟨ok, hok, _⟩ := hop0 k hk
          refine hkeep k ok hki hok hkl (fun e he hb heq => ?_) (hv k hk hkl)
          have := hcl k ok hok hkl e he hb
          rw [heq, hiu'] at this
          cases this

theorem wp_region_steps2 {id : Nat} {w0 : World} {l : List Oper} (ds : List (Option Tmp)) (V : Nat → Array Bool → List Value → World → Prop) (C : World → Prop) (hm : P.follows .mixedOrders = true) (hB : stepsB l.toArray ds = true)
    (hsz : ds.all (fun d => match d with | some d => decide (d < a0.tmps.size) | none => true) = true) (hC : C { w0 with drawn := w0.drawn + 1 })
    (hop : ∀ i o, l[i]? = some o → StepOk2 P l.toArray Q C V a0 ds i o)
    (hend : ∀ L us w, us.length = l.length → C w → (∀ i, i < l.length → L.getD i false = true) → (∀ i, i < l.length → V i L us w) → Q .normal (putAll a0 ds us) w) : (Code.region id l.toArray true).wp P Q a0 w0 := by
  simp only [stepsB, Bool.and_eq_true, decide_eq_true_eq] at hB
  obtain ⟨⟨hdl, hnd⟩, hall⟩ := hB
  have hop0 : ∀ i, i < l.toArray.size → ∃ o, l.toArray[i]? = some o ∧ some o.dst = ds[i]? ∧ o.guard = none ∧ ∀ e ∈ o.after, Region.binds .any e = true → e.on < i := by
    intro i hi
    have := List.all_eq_true.1 hall i (List.mem_range.2 hi)
    cases ho : l.toArray[i]? with
    | none => rw [ho] at this; simp at this
    | some o =>
      rw [ho] at this
      simp only [Bool.and_eq_true, decide_eq_true_eq, Option.isNone_iff_eq_none, Array.all_eq_true_iff_forall_mem] at this
      exact ⟨o, rfl, this.1.1, this.1.2, fun e he hb => by have h := this.2 e he; rw [hb] at h; simpa using h⟩
  refine wp_region_any hm ?_
  have hcnt : ∀ k, cntF (Array.replicate l.toArray.size false) k = k := by
    intro k
    induction k with
    | zero => rfl
    | succ k ih => rw [cntF, ih, getD_replicate_false]; simp
  obtain ⟨us0, hus, hself⟩ : ∃ us0 : List Value, us0.length = ds.length ∧ putAll a0 ds us0 = a0 := ⟨_, by simp, putAll_self hsz⟩
  have H := wpAny_steps2 (P := P) (Q := Q) (C := C) (V := V) (a0 := a0) (ds := ds) (ops := l.toArray) hdl hnd hop0 (fun i o ho => hop i o (by simpa using ho)) (fun L us w hul hw hL => hend L us w (by simpa using hul) hw (by simpa using hL))
    l.toArray.size (Array.replicate l.toArray.size false) us0 { w0 with drawn := w0.drawn + 1 } (hcnt _) (by simp) (fun j oj _ hl => by rw [getD_replicate_false] at hl; cases hl)
    (by rw [hus]; exact hdl) hC (fun i _ hl => by rw [getD_replicate_false] at hl; cases hl)
  rw [hself] at H
  exact H
end

/-- What an append onto an owned row leaves: the old row too, every owned row in another block, and the new value stands in the old block or in a new one. -/
structure Apd (w w' : World) (v v' : Value) : Prop where
  old : ∀ base e s n xs, w.ownsRow base e s v n xs → w'.ownsRow base e s v n xs
  other : ∀ base e s u n xs, w.ownsRow base e s u n xs → (∀ g, u.ownBlock = some g → v.ownBlock ≠ some g) → w'.ownsRow base e s u n xs ∧ ∀ g, u.ownBlock = some g → v'.ownBlock ≠ some g
  grown : w.grownBy w' v.ownBlock
  block : ∀ k r, w.heap[k]? = some r → v.ownBlock ≠ some k → w'.heap[k]? = some r ∧ v'.ownBlock ≠ some k
theorem apd_alloc {w : World} {v : Value} {o : Obj} {n c : Nat} : Apd w (w.drew.alloc o) v (.slice (some ⟨w.heap.size, 0, none⟩) n c) := by
  refine ⟨fun base e s n xs h => h.drew.alloc o, fun base e s u n xs h _ => ⟨h.drew.alloc o, fun g hg => ?_⟩, ⟨rfl, rfl, rfl, by simp, fun k hk _ => heap_alloc_old w.drew o hk⟩, fun k r hr _ => ?_⟩
  · have := (h.lt g hg).2
    simp [Value.ownBlock]; omega
  · have hk := (Array.getElem?_eq_some_iff.1 hr).1
    exact ⟨(heap_alloc_old w.drew o hk).trans hr, by simp [Value.ownBlock]; omega⟩
theorem run_append_two {P : Program} (w : World) (base : Nat) (t ty e : TypeId) (i : TypeInfo) (z : Value) (size bytes : Nat) (ht : P.underlying t = some (.slice e)) (hi : P.info? e = some i) (hz : i.zero = some z)
    (hsize : i.size = size) (hby : i.bytes = bytes) (hzs : z.cells.size = size) (hsz : 0 < size)
    (v : Value) (n : Nat) (xs : List Value) (hown : w.ownsRow base e size v n xs)
    (a : Addr) (m c : Nat) (news : List Value) (hl : news.length = m * size) (hnews : ∀ j u, news[j]? = some u → w.cell? (a.add j) = some u) (h1 : ∀ u ∈ news, u.oneCell' = true)
    (h63 : n + m ≤ maxLen) (hbytes : (n + m) * bytes ≤ 140737488355328) (hbase : base ≤ w.heap.size) :
    ∃ v' w', (Builtin.append_ #[t, t] ty #[v, .slice (some a) m c]).run P w = .ok v' w' ∧ w'.ownsRow base e size v' (n + m) (xs ++ news) ∧ Apd w w' v v' := by
  subst hsize
  subst hby
  have hsmall : n + m ≤ 9223372036854775807 := by simp only [maxLen] at h63; omega
  have hlen : (xs ++ news).length = (n + m) * i.size := by rw [List.length_append, hown.1, hl, Nat.add_mul]
  have grown : ∀ (old : Nat), old < n + m →
      (w.drew.alloc (.cells (xs.toArray ++ news.toArray ++ Builtin.zeroCells z.cells (grownCap w (n + m) old e - (n + m))) e)).ownsRow base e i.size
        (.slice (some ⟨w.heap.size, 0, none⟩) (n + m) (grownCap w (n + m) old e)) (n + m) (xs ++ news) := by
    intro old ho
    have hge := grownCap_ge w (n + m) old e
    have hcm : grownCap w (n + m) old e ≤ maxLen := grownCap_le_maxLen w (n + m) old e h63
    refine ⟨hlen, .inr ⟨w.heap.size, _, _, rfl, hbase, heap_alloc_new w.drew _, hge, hcm, ?_, ?_⟩⟩
    · simp only [Array.size_append, List.size_toArray, size_zeroCells, hzs, hown.1, hl, ← Nat.add_mul]
      congr 1
      omega
    · simp only [Array.toList_append, List.append_assoc]
      rw [← List.append_assoc, ← hlen]
      exact List.take_left
  rcases hown.2 with ⟨rfl, rfl⟩ | ⟨g, cap, cur, rfl, hbg, hg, hnc, hcm, hcs, htake⟩
  · have hx : xs = [] := List.eq_nil_of_length_eq_zero (by simpa using hown.1)
    subst hx
    by_cases hm : m = 0
    · subst hm
      have hn : news = [] := List.eq_nil_of_length_eq_zero (by simpa using hl)
      subst hn
      refine ⟨.slice none 0 0, w, ?_, World.ownsRow_nil w base e i.size, ⟨fun _ _ _ _ _ h => h, fun _ _ _ _ _ _ h _ => ⟨h, fun _ _ => by simp [Value.ownBlock]⟩, ⟨rfl, rfl, rfl, Nat.le_refl _, fun _ _ _ => rfl⟩, fun _ _ h _ => ⟨h, by simp [Value.ownBlock]⟩⟩⟩
      simp [Builtin.append_, run_underlying ht, sizeOf, typeInfo, hi, Builtin.lenOf, Builtin.firstCells, loadCells, loadCellsFrom]
    · have hr := run_append_nil (P := P) w t ty e i z ht hi hz a m c news hl hnews (by omega) (by omega) (by have hb := hbytes; simp only [Nat.zero_add] at hb; omega)
      have hgr := grown 0 (by omega)
      simp only [Nat.zero_add, List.nil_append, Array.empty_append] at hgr ⊢
      exact ⟨_, _, hr, hgr, apd_alloc⟩
  · by_cases hroom : n + m ≤ cap
    · have hfit : n * i.size + news.length ≤ cur.size := by rw [hl, hcs, ← Nat.add_mul]; exact Nat.mul_le_mul_right _ hroom
      have hr := run_append_room (P := P) w t ty e i ht hi g n cap cur hg a m c news hl hnews h1 hroom hfit
      have hsz2 : (cur.toList.take (n * i.size) ++ news ++ cur.toList.drop (n * i.size + news.length)).toArray.size = cap * i.size := by
        simp only [List.size_toArray, List.length_append, List.length_take, List.length_drop, Array.length_toList]
        omega
      refine ⟨_, _, hr, ⟨hlen, .inr ⟨g, cap, _, rfl, hbg, setRow_heap w g cur _ e _ hg, hroom, hcm, hsz2, ?_⟩⟩, ⟨?_, ?_, ⟨rfl, rfl, rfl, by simp, fun k _ hk => setRow_other w g k _ (fun e => hk (by simp [Value.ownBlock, e]))⟩, ?_⟩⟩
      · rw [htake, ← hlen]
        exact List.take_left
      · intro b2 e2 s2 n2 xs2 h2
        obtain ⟨q1, ⟨q2, _⟩ | ⟨g2, cap2, cur2, q3, q4, q5, q6, q7, q8, q9⟩⟩ := h2
        · cases q2
        · simp only [Value.slice.injEq, Option.some.injEq, Addr.mk.injEq, and_true] at q3
          obtain ⟨rfl, rfl, rfl⟩ := q3
          rw [hg] at q5
          simp only [Option.some.injEq, Obj.cells.injEq, and_true] at q5
          obtain ⟨rfl, rfl⟩ := q5
          refine ⟨q1, .inr ⟨g, cap, _, rfl, q4, setRow_heap w g cur _ e _ hg, hnc, hcm, ?_, ?_⟩⟩
          · rw [hsz2, ← hcs, q8]
          · by_cases hc0 : cap = 0
            · have hn0 : n = 0 := by omega
              subst hn0
              simp only [Nat.zero_mul, List.take_zero] at q9 ⊢; exact q9
            · have hss : i.size = s2 := by
                have h9 : cap * i.size = cap * s2 := by rw [← hcs, q8]
                exact Nat.eq_of_mul_eq_mul_left (by omega) h9
              subst hss
              rw [htake] at q9
              subst q9
              rw [htake, List.append_assoc, List.take_append_of_le_length (by rw [hown.1]; exact Nat.le_refl _), List.take_of_length_le (by rw [hown.1]; exact Nat.le_refl _)]
      · intro b2 e2 s2 u n2 xs2 h2 hne
        refine ⟨h2.kept (row := some g) ⟨rfl, rfl, rfl, by simp, fun k _ hk => setRow_other w g k _ (fun e => hk (by simp [e]))⟩ ?_, fun g2 hg2 => ?_⟩
        · cases hu : u.ownBlock with
          | none => exact .inl rfl
          | some q => exact .inr (fun he => hne q hu (by simpa [Value.ownBlock] using he.symm))
        · have := hne g2 hg2
          simpa [Value.ownBlock] using this
      · intro k r hr hk
        have hkg : k ≠ g := fun he => hk (by simp [Value.ownBlock, he])
        exact ⟨(setRow_other w g k _ hkg).trans hr, by simpa [Value.ownBlock] using Ne.symm hkg⟩
    · have holds : ∀ j u, xs[j]? = some u → w.cell? ((⟨g, 0, none⟩ : Addr).add j) = some u := hown.cells (g := g) rfl
      have hr := run_append_grow (P := P) w t ty e i z ht hi hz ⟨g, 0, none⟩ n cap xs hown.1 holds a m c news hl hnews (by omega) (by omega) (growslice_fits (by omega) hbytes)
      exact ⟨_, _, hr, grown cap (by omega), apd_alloc⟩
theorem wpList_append_two {P : Program} (w : World) {ops : Array Oper} {rest : List Oper} {a : Act} {Q : Exit → Act → World → Prop} {dst : Option Tmp} {type : TypeId} {pos : String} {after : Array Edge} (s x : Operand) (t : TypeId)
    (base : Nat) (e : TypeId) (i : TypeInfo) (z : Value) (size bytes : Nat) (ht : P.underlying t = some (.slice e)) (hi : P.info? e = some i) (hz : i.zero = some z)
    (hsize : i.size = size) (hby : i.bytes = bytes) (hzs : z.cells.size = size) (hsz : 0 < size)
    (v : Value) (n : Nat) (xs : List Value) (hs : a.eval s = v) (hown : w.ownsRow base e size v n xs)
    (ad : Addr) (m c : Nat) (news : List Value) (hx : a.eval x = .slice (some ad) m c) (hl : news.length = m * size) (hnews : ∀ j u, news[j]? = some u → w.cell? (ad.add j) = some u) (h1 : ∀ u ∈ news, u.oneCell' = true)
    (h63 : n + m ≤ maxLen) (hbytes : (n + m) * bytes ≤ 140737488355328) (hbase : base ≤ w.heap.size)
    (h : ∀ v' w', w'.ownsRow base e size v' (n + m) (xs ++ news) → Apd w w' v v' → wpList P ops Q rest (a.put dst v') w') : wpList P ops Q (⟨dst, .call { callee := .builtin .append, args := #[s, x], argTypes := #[t, t] }, type, pos, after, none⟩ :: rest) a w := by
  refine wpList_plain rfl fun _ hK => ?_
  obtain ⟨v', w', hr, h2, h3⟩ := run_append_two (P := P) w base t type e i z size bytes ht hi hz hsize hby hzs hsz v n xs hown ad m c news hl hnews h1 h63 hbytes hbase
  unfold Oper.wp execOp
  simp only [resolve, invoke, builtin, Sem.run_bind, Sem.run_pure, Result.andThen_ok, List.map_toArray, List.map_cons, List.map_nil, hs, hx, hr]
  exact hK _ _ (h v' w' h2 h3)
end Go.Proofs.Ytgkfhppmopmgjaa
