/- A world that is a known one with blocks laid behind it and draws done: how the walk reads it and writes it. -/
import Derived.Test.YtgkfhppmopmgjaaBase
import Derived.Test.YtgkfhppmopmgjaaTail
import Derived.Sort.Grow
set_option linter.all false
namespace Go.Proofs.Ytgkfhppmopmgjaa
open Go.RowKit

/-- W with the count of draws d and the blocks os behind its own. -/
def junk (W : World) (d : Nat) (os : Array Obj) : World := { W with heap := W.heap ++ os, drawn := d }

theorem junk_of_below {W w : World} (h : RowKit.Below W.heap.size W w) : ∃ d os, w = junk W d os := by
  obtain ⟨p, hp⟩ := regrown_of_below h
  exact ⟨p.d, p.os, by rw [hp]; rfl⟩
theorem below_junk (W : World) (d : Nat) (os : Array Obj) : RowKit.Below W.heap.size W (junk W d os) := by
  refine ⟨rfl, rfl, rfl, by simp [junk], fun k hk => ?_⟩
  simp only [junk]
  rw [Array.getElem?_append_left hk]
theorem below_junk0 {B : Nat} {w W : World} (h : RowKit.Below B w W) (hB : B ≤ W.heap.size) (d : Nat) (os : Array Obj) : RowKit.Below B w (junk W d os) := Below.from0 h hB (below_junk W d os)

@[go_sem] theorem size_junk (W : World) (d : Nat) (os : Array Obj) : (junk W d os).heap.size = W.heap.size + os.size := by simp [junk]
@[go_sem] theorem cell?_junk (W : World) (d : Nat) (os : Array Obj) (b o : Nat) (h : b < W.heap.size) : (junk W d os).cell? ⟨b, o, none⟩ = W.cell? ⟨b, o, none⟩ :=
  (below_junk W d os).cell (p := ⟨b, o, none⟩) h
@[go_sem] theorem frozen?_junk (W : World) (d : Nat) (os : Array Obj) (b o : Nat) (h : b < W.heap.size) : (junk W d os).frozen? ⟨b, o, none⟩ = W.frozen? ⟨b, o, none⟩ :=
  (below_junk W d os).frozen (p := ⟨b, o, none⟩) h
@[go_sem] theorem setCell_junk (W : World) (d : Nat) (os : Array Obj) (b o : Nat) (v : Value) (h : b < W.heap.size) : (junk W d os).setCell ⟨b, o, none⟩ v = junk (W.setCell ⟨b, o, none⟩ v) d os := by
  simp only [junk, World.setCell]
  congr 1
  apply Array.ext_getElem?
  intro k
  simp only [Array.getElem?_modify, Array.getElem?_append, Array.size_modify]
  by_cases hk : b = k
  · subst hk; rw [if_pos rfl, if_pos h, if_pos h, if_pos rfl]
  · rw [if_neg hk]
    by_cases hs : k < W.heap.size
    · rw [if_pos hs, if_pos hs, if_neg hk]
    · rw [if_neg hs, if_neg hs]
@[go_sem] theorem drew_junk (W : World) (d : Nat) (os : Array Obj) : (junk W d os).drew = junk W (d + 1) os := rfl
@[go_sem] theorem drewN_junk (W : World) (d n : Nat) (os : Array Obj) : (junk W d os).drewN n = junk W (d + n) os := rfl
@[go_sem] theorem junk_junk (W : World) (d d' : Nat) (os os' : Array Obj) : junk (junk W d os) d' os' = junk W d' (os ++ os') := by
  simp [junk, Array.append_assoc]
theorem alloc_junk (W : World) (d : Nat) (os : Array Obj) (o : Obj) : (junk W d os).alloc o = junk W d (os.push o) := by
  simp [junk, World.alloc]

structure Jk where
  d : Nat
  os : Array Obj
  deriving Inhabited

/-- A callee's contract that ends in 'Below', met in a world of the class. -/
theorem Calls.junk_of {P : Program} {f : FuncId} {args : Array Value} {W : World} {d : Nat} {os : Array Obj} {v : Value}
    (h : Calls P f args (junk W d os) fun e w' => e = .returned v ∧ RowKit.Below (junk W d os).heap.size (junk W d os) w') :
    Calls P f args (junk W d os) fun e w'' => e = .returned v ∧ ∃ p : Jk, w'' = junk W p.d p.os :=
  h.mono fun _ _ ⟨he, hb⟩ => ⟨he, by obtain ⟨d', os', h'⟩ := junk_of_below hb; exact ⟨⟨d', os ++ os'⟩, by rw [h', junk_junk]⟩⟩
theorem Calls.junk_of_same {P : Program} {f : FuncId} {args : Array Value} {W : World} {d : Nat} {os : Array Obj} {v : Value}
    (h : Calls P f args (junk W d os) fun e w' => e = .returned v ∧ junk W d os = w') :
    Calls P f args (junk W d os) fun e w'' => e = .returned v ∧ ∃ p : Jk, w'' = junk W p.d p.os :=
  h.mono fun _ _ ⟨he, hb⟩ => ⟨he, ⟨⟨d, os⟩, hb.symm⟩⟩

/-- A callee's contract that ends in 'Below', met in a world of whatever class holds behind it. -/
theorem Calls.junk_to {P : Program} {f : FuncId} {args : Array Value} {W0 : World} {v : Value} {C : World → Prop}
    (h : Calls P f args W0 fun e w' => e = .returned v ∧ RowKit.Below W0.heap.size W0 w') (hC : ∀ d os, C (junk W0 d os)) : Calls P f args W0 fun e w'' => e = .returned v ∧ C w'' :=
  h.mono fun _ _ ⟨he, hb⟩ => ⟨he, by obtain ⟨d', os', h'⟩ := junk_of_below hb; rw [h']; exact hC _ _⟩

theorem wp_region_tail_junk {P : Program} {id : Nat} {Q : Exit → Act → World → Prop} {a : Act} {w : World} {l : List Oper} (n : Nat) (hm : P.follows .mixedOrders = true) (hB : Region.lexTailB .any l.toArray n = true)
    (h : wpQuiet P l.toArray (fun w' => ∃ p : Jk, w' = junk w p.d p.os) (fun a' => ∀ w', (∃ p : Jk, w' = junk w p.d p.os) → wpList P l.toArray Q (l.drop n) a' w') (l.take n) a) : (Code.region id l.toArray true).wp P Q a w :=
  wp_region_quiet_tail (C := fun w' => ∃ p : Jk, w' = junk w p.d p.os) n hm hB ⟨⟨w.drawn + 1, #[]⟩, by simp [junk]⟩ h
theorem wp_region_quiet_junk {P : Program} {id : Nat} {Q : Exit → Act → World → Prop} {a : Act} {w : World} {l : List Oper} (hm : P.follows .mixedOrders = true) (hB : Region.lexB .any l.toArray = true)
    (h : wpQuiet P l.toArray (fun w' => ∃ p : Jk, w' = junk w p.d p.os) (fun a' => ∀ w', (∃ p : Jk, w' = junk w p.d p.os) → Q .normal a' w') l a) : (Code.region id l.toArray true).wp P Q a w :=
  wp_region_quiet (C := fun w' => ∃ p : Jk, w' = junk w p.d p.os) hm hB ⟨⟨w.drawn + 1, #[]⟩, by simp [junk]⟩ (by simpa using h)

end Go.Proofs.Ytgkfhppmopmgjaa
