/-
  MAPS THAT A CALL HAS MADE, as lists of keys and values, in the order in which the keys came. Of no program.
  MAPS THAT COUNT: 'm[x]++' through a list. Of no program.
  MAPS WHOSE ENTRIES BEAR STAMPS: what 'm[x] op= y' does where the model lays the entry first and stores into it then. Of no program.
  vec.Dist.
  slices.Index, Contains, IndexFunc, ContainsFunc at []int; edges.Has, edges.Most, edges.Right.
  slices.IndexFunc, slices.ContainsFunc at []int, for whatever predicate that leaves what is there alone.
-/
import Derived.Test.YtajbimmfkbgcpaaGreatKBase
import Derived.MapKept
import Derived.WideKeyEntry
import Derived.Shelf.Spec.BitsCarry
/- MAPS THAT A CALL HAS MADE, as lists of keys and values, in the order in which the keys came. Of no program. -/
namespace Go.Proofs.YtajbimmfkbgcpaaGreat
open Go.RowKit

section plain
variable {α : Type} [DecidableEq α]
def lookFrom (x : α) : List (α × Value) → Nat → Option (Nat × Value)
  | [], _ => none
  | p :: m, i => if x = p.1 then some (i, p.2) else lookFrom x m (i + 1)
def getM (m : List (α × Value)) (x : α) : Option Value := (m.find? fun p => decide (x = p.1)).map (·.2)
def putM (m : List (α × Value)) (x : α) (v : Value) : List (α × Value) :=
  match m with
  | [] => [(x, v)]
  | p :: m => if x = p.1 then (x, v) :: m else p :: putM m x v
def delM (m : List (α × Value)) (x : α) : List (α × Value) :=
  match m with
  | [] => []
  | p :: m => if x = p.1 then m else p :: delM m x

theorem lookFrom_get (x : α) (m : List (α × Value)) : ∀ i, (lookFrom x m i).map (·.2) = getM m x := by
  induction m with
  | nil => intro i; rfl
  | cons p m ih =>
    intro i
    unfold lookFrom getM
    by_cases h : x = p.1
    · simp [h]
    · simp only [h, if_false]
      rw [ih]
      simp [getM, h]
theorem getM_put (m : List (α × Value)) (x y : α) (v : Value) : getM (putM m x v) y = if y = x then some v else getM m y := by
  induction m with
  | nil => by_cases h : y = x <;> simp [putM, getM, h]
  | cons p m ih =>
    unfold putM
    by_cases h : x = p.1
    · simp only [h, if_true]
      by_cases hy : y = p.1
      · simp [getM, hy]
      · simp [getM, hy]
    · simp only [h, if_false]
      by_cases hy : y = p.1
      · have : ¬ y = x := fun e => h (e ▸ hy)
        have hx : ¬ p.1 = x := fun e => h e.symm
        simp [getM, hy, hx]
      · by_cases hyx : y = x
        · subst hyx
          have := ih
          simp only [getM, if_true] at this ⊢
          simp only [List.find?_cons, h, decide_false]
          exact this
        · rw [if_neg hyx] at ih ⊢
          simp only [getM] at ih ⊢
          simp only [List.find?_cons, hy, decide_false]
          exact ih
theorem keys_put (m : List (α × Value)) (x : α) (v : Value) : (putM m x v).map (·.1) = if x ∈ m.map (·.1) then m.map (·.1) else m.map (·.1) ++ [x] := by
  induction m with
  | nil => simp [putM]
  | cons p m ih =>
    unfold putM
    by_cases h : x = p.1
    · simp [h]
    · simp only [h, if_false, List.map_cons, ih, List.mem_cons, false_or]
      split <;> simp
theorem getM_none {m : List (α × Value)} {x : α} : getM m x = none ↔ x ∉ m.map (·.1) := by
  unfold getM
  rw [Option.map_eq_none_iff, List.find?_eq_none]
  simp only [decide_eq_true_eq, List.mem_map, not_exists, not_and]
  constructor
  · intro h p hp e; exact h p hp e.symm
  · intro h p hp e; exact h p hp e.symm
theorem putM_len_le (m : List (α × Value)) (x : α) (v : Value) : (putM m x v).length ≤ m.length + 1 := by
  induction m with
  | nil => simp [putM]
  | cons p m ih =>
    unfold putM
    split
    · simp
    · simp only [List.length_cons]; omega
theorem lookFrom_put {x : α} {v : Value} : ∀ (m : List (α × Value)) (i j : Nat) (u : Value), lookFrom x m i = some (j, u) → i ≤ j ∧ j - i < m.length ∧ putM m x v = m.set (j - i) (x, v) ∧ (m[j - i]?).map (·.1) = some x
  | [], i, j, u, h => by simp [lookFrom] at h
  | p :: m, i, j, u, h => by
    unfold lookFrom at h
    by_cases hx : x = p.1
    · simp only [hx, if_true, Option.some.injEq, Prod.mk.injEq] at h
      obtain ⟨rfl, _⟩ := h
      simp [putM, hx]
    · simp only [hx, if_false] at h
      obtain ⟨h1, h2, h3, h4⟩ := lookFrom_put (v := v) m (i + 1) j u h
      have e : j - i = (j - (i + 1)) + 1 := by omega
      refine ⟨by omega, by simp; omega, ?_, ?_⟩
      · rw [e]; simp [putM, hx, h3]
      · rw [e]; simpa using h4
theorem lookFrom_none {x : α} {v : Value} : ∀ (m : List (α × Value)) (i : Nat), lookFrom x m i = none → putM m x v = m ++ [(x, v)] ∧ delM m x = m
  | [], i, h => by simp [putM, delM]
  | p :: m, i, h => by
    unfold lookFrom at h
    by_cases hx : x = p.1
    · simp [hx] at h
    · simp only [hx, if_false] at h
      have := lookFrom_none (v := v) m (i + 1) h
      simp [putM, delM, hx, this]
theorem lookFrom_del {x : α} : ∀ (m : List (α × Value)) (i j : Nat) (u : Value), lookFrom x m i = some (j, u) → i ≤ j ∧ j - i < m.length ∧ delM m x = m.eraseIdx (j - i)
  | [], i, j, u, h => by simp [lookFrom] at h
  | p :: m, i, j, u, h => by
    unfold lookFrom at h
    by_cases hx : x = p.1
    · simp only [hx, if_true, Option.some.injEq, Prod.mk.injEq] at h
      obtain ⟨rfl, _⟩ := h
      simp [delM, hx]
    · simp only [hx, if_false] at h
      obtain ⟨h1, h2, h3⟩ := lookFrom_del m (i + 1) j u h
      have e : j - i = (j - (i + 1)) + 1 := by omega
      refine ⟨by omega, by simp; omega, ?_⟩
      rw [e]; simp [delM, hx, h3]
end plain

theorem getObj_map_run {P : Program} {w : World} {r : Nat} {es : Array MapEntry} {clock : Nat} (hb : w.heap[r]? = some (.map es clock)) : (getObj r).run P w = .ok (.map es clock) w := by
  simp [getObj, Sem.run, hb]
theorem setObj_map_run {P : Program} {w : World} {r : Nat} {es : Array MapEntry} {clock : Nat} (o : Obj) (hb : w.heap[r]? = some (.map es clock)) : (setObj r o).run P w = .ok () { w with heap := w.heap.setIfInBounds r o } := by
  simp [setObj, Sem.run, hb]

/-- What the model does with keys of a type. -/
structure KeyT {α : Type} [DecidableEq α] (P : Program) (k : TypeId) (enc : α → Value) : Prop where
  check : ∀ (empty : Bool) (x : α) (w : World), (Instr.checkKey empty 10000 k (enc x)).run P w = .ok () w
  find : ∀ (x : α) (m : List (α × Value)) (es : List MapEntry), es.map (fun e => (e.key, e.val)) = m.map (fun p => (enc p.1, p.2)) → ∀ w : World, (Instr.findKey k (enc x) es).run P w = .ok (lookFrom x m 0) w
  same : ∀ x, Instr.sameBits 10000 (enc x) (enc x) = true

theorem findNow_int {k : IntKind} (x : Int) : ∀ (m : List (Int × Value)) (es : List MapEntry) (i : Nat), es.map (fun e => (e.key, e.val)) = m.map (fun p => (Value.int k p.1, p.2)) → Instr.findNow (.int k) (.int k x) es i = some (lookFrom x m i)
  | [], [], i, _ => rfl
  | [], _ :: _, i, h => by simp at h
  | _ :: _, [], i, h => by simp at h
  | p :: m, e :: es, i, h => by
    simp only [List.map_cons, List.cons.injEq, Prod.mk.injEq] at h
    obtain ⟨⟨h1, h2⟩, h3⟩ := h
    unfold Instr.findNow lookFrom
    rw [h1]
    by_cases hx : x = p.1
    · simp [Instr.sameNow, hx, h2]
    · have hb : (x == p.1) = false := by simpa using hx
      simp only [Instr.sameNow, if_true, hb, hx, if_false]
      exact findNow_int x m es (i + 1) h3

theorem keyT_int {P : Program} {k : TypeId} {q : IntKind} (h : P.underlying k = some (.int q)) : KeyT P k (Value.int q) where
  check empty x w := by
    have : ∀ n, (Instr.checkKey empty (n + 1) k (Value.int q x)).run P w = .ok () w := fun n => by simp [Instr.checkKey, run_underlying h]
    exact this 9999
  find x m es he w := by simp [Instr.findKey, run_underlying h, findNow_int x m es 0 he]
  same x := by
    have : ∀ n, Instr.sameBits n (Value.int q x) (Value.int q x) = true := fun n => by unfold Instr.sameBits; simp
    exact this 10000

/-- Block b is a map that holds just this. -/
def MapIs {α : Type} (w : World) (b : Nat) (enc : α → Value) (m : List (α × Value)) : Prop :=
  ∃ es clock, w.heap[b]? = some (.map es clock) ∧ es.toList.map (fun e => (e.key, e.val)) = m.map (fun p => (enc p.1, p.2))

section
variable {α : Type} {w w' : World} {b : Nat} {enc : α → Value} {m : List (α × Value)}
theorem MapIs.lt (h : MapIs w b enc m) : b < w.heap.size := by
  obtain ⟨es, clock, hb, _⟩ := h
  exact (Array.getElem?_eq_some_iff.1 hb).1
theorem MapIs.of_block (h : MapIs w b enc m) (hb : w'.heap[b]? = w.heap[b]?) : MapIs w' b enc m := by
  obtain ⟨es, clock, h1, h2⟩ := h
  exact ⟨es, clock, hb.trans h1, h2⟩
theorem MapIs.keep (h : MapIs w b enc m) (hb : Kept w w') : MapIs w' b enc m := h.of_block (hb.block b h.lt)
theorem MapIs.new (w : World) (enc : α → Value) : MapIs (w.alloc (.map #[] 0)) w.heap.size enc [] :=
  ⟨#[], 0, by show (w.heap.push _)[w.heap.size]? = _; simp, rfl⟩

/-- What a store into a map leaves: that block has turned, nothing else. -/
structure Only (b : Nat) (w w' : World) : Prop where
  os : w'.os = w.os
  tape : w'.tape = w.tape
  output : w'.output = w.output
  size : w'.heap.size = w.heap.size
  block : ∀ k, k ≠ b → w'.heap[k]? = w.heap[k]?
theorem Only.below {w w' : World} {b B : Nat} (h : Only b w w') (hb : B ≤ b) : Below B w w' :=
  ⟨h.os, h.tape, h.output, by rw [h.size]; exact Nat.le_refl _, fun k hk => h.block k (by omega)⟩

variable [DecidableEq α] {P : Program} {k e t : TypeId}
theorem run_lookup_m (K : KeyT P k enc) (ht : P.underlying t = some (.map k e)) {z : Value} (hz : (zeroValue e).run P w = .ok z w) (h : MapIs w b enc m) (x : α) :
    (Instr.lookup t (.map (some b)) (enc x) false).run P w = .ok ((getM m x).getD z) w := by
  obtain ⟨es, clock, hb, he⟩ := h
  unfold Instr.lookup
  have hf := K.find x m es.toList he w
  simp only [Sem.run_bind, run_underlying ht, Result.andThen_ok, getObj_map_run hb, K.check, Sem.run_pure]
  rw [hf, Result.andThen_ok, ← lookFrom_get x m 0]
  cases hl : lookFrom x m 0 with
  | none => simp [hz]
  | some p => simp
theorem run_lookup_m_ok (K : KeyT P k enc) (ht : P.underlying t = some (.map k e)) {z : Value} (hz : (zeroValue e).run P w = .ok z w) (h : MapIs w b enc m) (x : α) :
    (Instr.lookup t (.map (some b)) (enc x) true).run P w = .ok (.tuple #[(getM m x).getD z, .bool (getM m x).isSome]) w := by
  obtain ⟨es, clock, hb, he⟩ := h
  unfold Instr.lookup
  have hf := K.find x m es.toList he w
  simp only [Sem.run_bind, run_underlying ht, Result.andThen_ok, getObj_map_run hb, K.check, Sem.run_pure]
  rw [hf, Result.andThen_ok, ← lookFrom_get x m 0]
  cases hl : lookFrom x m 0 with
  | none => simp [hz]
  | some p => simp
theorem run_update_m (K : KeyT P k enc) (ht : P.underlying t = some (.map k e)) (h : MapIs w b enc m) (x : α) (v : Value) :
    ∃ w', (Instr.mapUpdate t (.map (some b)) (enc x) v).run P w = .ok () w' ∧ MapIs w' b enc (putM m x v) ∧ Only b w w' := by
  have hlt := h.lt
  obtain ⟨es, clock, hb, he⟩ := h
  have hsame : ∀ o : Obj, Only b w { w with heap := w.heap.setIfInBounds b o } := fun o =>
    ⟨rfl, rfl, rfl, by simp, fun j hj => by show (w.heap.setIfInBounds b o)[j]? = _; rw [Array.getElem?_setIfInBounds_ne (Ne.symm hj)]⟩
  have hlook : ∀ es' clock', ({ w with heap := w.heap.setIfInBounds b (.map es' clock') } : World).heap[b]? = some (.map es' clock') := fun es' clock' => by
    show (w.heap.setIfInBounds b _)[b]? = _
    rw [Array.getElem?_setIfInBounds_self_of_lt hlt]
  unfold Instr.mapUpdate
  have hf := K.find x m es.toList he w
  simp only [Sem.run_bind, run_underlying ht, Result.andThen_ok, getObj_map_run hb, K.check]
  rw [hf, Result.andThen_ok]
  cases hl : lookFrom x m 0 with
  | none =>
    simp only [setObj_map_run _ hb]
    refine ⟨_, rfl, ⟨_, _, hlook _ _, ?_⟩, hsame _⟩
    rw [(lookFrom_none m 0 hl).1]
    simp [he]
  | some p =>
    obtain ⟨j, u⟩ := p
    obtain ⟨_, hjl, hput, hk⟩ := lookFrom_put (v := v) m 0 j u hl
    simp only [Nat.sub_zero] at hjl hput hk
    have hlen : es.size = m.length := by simpa using congrArg List.length he
    have hej : (es[j]?).map (·.key) = some (enc x) := by
      have h1 := congrArg (fun l => (l[j]?).map (·.1)) he
      simp only [List.getElem?_map, Array.getElem?_toList, Option.map_map] at h1
      have h2 : (es[j]?).map ((fun x => x.1) ∘ fun e : MapEntry => (e.key, e.val)) = (es[j]?).map (·.key) := rfl
      rw [h2] at h1
      rw [h1]
      have h3 : (m[j]?).map ((fun x => x.1) ∘ fun p : α × Value => (enc p.1, p.2)) = ((m[j]?).map (·.1)).map enc := by rw [Option.map_map]; rfl
      rw [h3, hk]; rfl
    simp only [hej, Option.getD_some, Instr.keyThatStays, K.same, if_true, Sem.run_bind, Sem.run_pure, Result.andThen_ok, setObj_map_run _ hb]
    refine ⟨_, rfl, ⟨_, _, hlook _ _, ?_⟩, hsame _⟩
    rw [hput, List.map_set, ← he]
    apply List.ext_getElem?
    intro i
    simp only [List.getElem?_map, Array.getElem?_toList, Array.getElem?_modify, List.getElem?_set, List.length_map, Array.length_toList]
    by_cases hij : j = i
    · subst hij
      have : j < es.size := by omega
      simp [this]
    · simp [hij]

theorem wpList_update_m {ops : Array Oper} {rest : List Oper} {o : Oper} {a : Act} {Q : Exit → Act → World → Prop} (K : KeyT P k enc) (ht : P.underlying t = some (.map k e))
    (hg : o.guard = none) (mo xo vo : Operand) (hop : o.op = Op.mapUpdate t mo xo vo) (hm : a.eval mo = .map (some b)) (h : MapIs w b enc m) (x : α) (hx : a.eval xo = enc x) (v : Value) (hv : a.eval vo = v)
    (hK : ∀ w', MapIs w' b enc (putM m x v) → Only b w w' → wpList P ops Q rest (a.put o.dst undef) w') : wpList P ops Q (o :: rest) a w := by
  refine wpList_plain hg fun K' hK' => ?_
  obtain ⟨w', hrun, h1, h2⟩ := run_update_m K ht h x v
  unfold Oper.wp
  simp [execOp, hop, hm, hx, hv, hrun, Result.andThen]
  exact hK' _ _ (hK w' h1 h2)
end
end Go.Proofs.YtajbimmfkbgcpaaGreat

/- MAPS THAT COUNT: 'm[x]++' through a list. Of no program. -/
namespace Go.Proofs.YtajbimmfkbgcpaaGreat
open Go.RowKit
section
variable {α : Type} [DecidableEq α]

/-- What a list has, each once, in the order in which it comes first. -/
def firsts : List α → List α → List α
  | acc, [] => acc
  | acc, x :: l => firsts (if x ∈ acc then acc else acc ++ [x]) l
theorem firsts_append (l k : List α) : ∀ acc, firsts acc (l ++ k) = firsts (firsts acc l) k := by
  induction l with
  | nil => intro acc; rfl
  | cons x l ih => intro acc; exact ih _
theorem mem_firsts (l : List α) : ∀ (acc : List α) (y : α), y ∈ firsts acc l ↔ y ∈ acc ∨ y ∈ l := by
  induction l with
  | nil => intro acc y; simp [firsts]
  | cons x l ih =>
    intro acc y
    unfold firsts
    rw [ih]
    by_cases h : x ∈ acc
    · simp only [h, if_true, List.mem_cons]
      constructor
      · rintro (h1 | h1)
        · exact .inl h1
        · exact .inr (.inr h1)
      · rintro (h1 | h1 | h1)
        · exact .inl h1
        · exact .inl (h1 ▸ h)
        · exact .inr h1
    · simp only [h, if_false, List.mem_append, List.mem_cons, List.not_mem_nil, or_false]
      constructor
      · rintro ((h1 | h1) | h1)
        · exact .inl h1
        · exact .inr (.inl h1)
        · exact .inr (.inr h1)
      · rintro (h1 | h1 | h1)
        · exact .inl (.inl h1)
        · exact .inl (.inr h1)
        · exact .inr h1
theorem nodup_firsts (l : List α) : ∀ acc : List α, acc.Nodup → (firsts acc l).Nodup := by
  induction l with
  | nil => intro acc h; exact h
  | cons x l ih =>
    intro acc h
    unfold firsts
    apply ih
    split
    · exact h
    · rename_i hx
      rw [List.nodup_append]
      refine ⟨h, by simp, ?_⟩
      intro a ha b hb
      simp only [List.mem_singleton] at hb
      subst hb
      exact fun e => hx (e ▸ ha)
theorem length_firsts_le (l : List α) : ∀ acc : List α, (firsts acc l).length ≤ acc.length + l.length := by
  induction l with
  | nil => intro acc; simp [firsts]
  | cons x l ih =>
    intro acc
    unfold firsts
    by_cases hx : x ∈ acc
    · have := ih acc
      simp only [hx, if_true, List.length_cons]; omega
    · have := ih (acc ++ [x])
      simp only [hx, if_false, List.length_cons]
      simp only [List.length_append, List.length_singleton] at this
      omega
theorem length_firsts_iff (l : List α) : ∀ acc : List α, acc.Nodup → ((firsts acc l).length = acc.length + l.length ↔ (acc ++ l).Nodup) := by
  induction l with
  | nil => intro acc h; simp [firsts, h]
  | cons x l ih =>
    intro acc h
    unfold firsts
    by_cases hx : x ∈ acc
    · simp only [hx, if_true]
      have := length_firsts_le l acc
      constructor
      · intro e; simp at e; omega
      · intro hn
        rw [List.nodup_append] at hn
        exact absurd rfl (hn.2.2 x hx x (by simp))
    · simp only [hx, if_false]
      have hn' : (acc ++ [x]).Nodup := by
        rw [List.nodup_append]
        refine ⟨h, by simp, ?_⟩
        intro a ha b hb
        simp only [List.mem_singleton] at hb
        subst hb
        exact fun e => hx (e ▸ ha)
      have := ih (acc ++ [x]) hn'
      rw [List.append_assoc] at this
      simp only [List.length_append, List.length_singleton, List.singleton_append] at this
      rw [← this]
      simp only [List.length_cons]
      omega

/-- The map that has counted a list. -/
def cntM (l : List α) : List (α × Value) := (firsts [] l).map fun x => (x, .int .i64 (l.count x : Int))
theorem getM_map (ks : List α) (f : α → Value) (x : α) : getM (ks.map fun k => (k, f k)) x = if x ∈ ks then some (f x) else none := by
  induction ks with
  | nil => rfl
  | cons k ks ih =>
    by_cases h : x = k
    · subst h; simp [getM]
    · have hk : ¬ k = x := fun e => h e.symm
      simp only [List.map_cons, List.mem_cons, h, false_or]
      rw [← ih]
      simp [getM, h]
theorem putM_map (ks : List α) (f : α → Value) (x : α) (v : Value) (hn : ks.Nodup) : putM (ks.map fun k => (k, f k)) x v = (if x ∈ ks then ks else ks ++ [x]).map fun k => (k, if k = x then v else f k) := by
  induction ks with
  | nil => simp [putM]
  | cons k ks ih =>
    rw [List.nodup_cons] at hn
    unfold putM
    simp only [List.map_cons]
    by_cases h : x = k
    · subst h
      simp only [if_true, List.mem_cons, true_or, List.map_cons]
      congr 1
      apply List.map_congr_left
      intro a ha
      have : ¬ a = x := fun e => hn.1 (e ▸ ha)
      simp [this]
    · have hk : ¬ k = x := fun e => h e.symm
      simp only [h, if_false, List.mem_cons, false_or]
      rw [ih hn.2]
      by_cases hx : x ∈ ks <;> simp [hx, hk]
theorem cntM_get (l : List α) (x : α) : (getM (cntM l) x).getD (.int .i64 0) = .int .i64 (l.count x : Int) := by
  unfold cntM
  rw [getM_map (firsts [] l) (fun x => .int .i64 (l.count x : Int)) x]
  by_cases h : x ∈ l
  · have : x ∈ firsts [] l := (mem_firsts l [] x).2 (.inr h)
    simp [this]
  · have : ¬ x ∈ firsts [] l := fun e => by rcases (mem_firsts l [] x).1 e with h' | h'; cases h'; exact h h'
    simp [this, List.count_eq_zero_of_not_mem h]
theorem cntM_put (l : List α) (x : α) : putM (cntM l) x (.int .i64 ((l.count x : Int) + 1)) = cntM (l ++ [x]) := by
  unfold cntM
  have e : firsts [] (l ++ [x]) = if x ∈ firsts [] l then firsts [] l else firsts [] l ++ [x] := by rw [firsts_append]; rfl
  rw [putM_map (firsts [] l) (fun y => .int .i64 (l.count y : Int)) x _ (nodup_firsts l [] List.nodup_nil), e]
  apply List.map_congr_left
  intro a _
  by_cases h : a = x
  · subst h; simp
  · simp [h, Ne.symm (fun e : a = x => h e)]
theorem cntM_length (l : List α) : (cntM l).length = l.length ↔ l.Nodup := by
  have := length_firsts_iff l [] List.nodup_nil
  simpa [cntM] using this
theorem cntM_len_le (l : List α) : (cntM l).length ≤ l.length := by
  have := length_firsts_le l ([] : List α)
  simpa [cntM] using this
theorem cntM_nil : cntM ([] : List α) = [] := rfl
end
theorem run_len_m {α : Type} {P : Program} {w : World} {b : Nat} {enc : α → Value} {m : List (α × Value)} {t k e : TypeId} (ht : P.underlying t = some (.map k e)) (h : MapIs w b enc m) (ty : TypeId) :
    (Builtin.len_ #[t] ty #[.map (some b)]).run P w = .ok (.int .i64 (m.length : Int)) w := by
  obtain ⟨es, clock, hb, he⟩ := h
  have hl : es.size = m.length := by simpa using congrArg List.length he
  simp [Builtin.len_, run_underlying ht, getObj_map_run hb, goInt, hl, Result.andThen]
end Go.Proofs.YtajbimmfkbgcpaaGreat

/- MAPS WHOSE ENTRIES BEAR STAMPS: what 'm[x] op= y' does where the model lays the entry first and stores into it then. Of no program. -/
namespace Go.Proofs.YtajbimmfkbgcpaaGreat
open Go.RowKit

/-- Block b is a map that holds just this; its entries' stamps are unlike, and all below the clock. -/
def MapSt {α : Type} (w : World) (b : Nat) (enc : α → Value) (m : List (α × Value)) : Prop :=
  ∃ es clock, w.heap[b]? = some (.map es clock) ∧ es.toList.map (fun e => (e.key, e.val)) = m.map (fun p => (enc p.1, p.2)) ∧ (∀ x ∈ es.toList, x.born < clock) ∧ (es.toList.map (·.born)).Nodup

section
variable {α : Type} {w w' : World} {b : Nat} {enc : α → Value} {m : List (α × Value)}
theorem MapSt.is (h : MapSt w b enc m) : MapIs w b enc m := by
  obtain ⟨es, clock, h1, h2, _, _⟩ := h
  exact ⟨es, clock, h1, h2⟩
theorem MapSt.of_block (h : MapSt w b enc m) (hb : w'.heap[b]? = w.heap[b]?) : MapSt w' b enc m := by
  obtain ⟨es, clock, h1, h2⟩ := h
  exact ⟨es, clock, hb.trans h1, h2⟩
theorem MapSt.keep (h : MapSt w b enc m) (hb : Kept w w') : MapSt w' b enc m := h.of_block (hb.block b h.is.lt)
theorem MapSt.new (w : World) (enc : α → Value) : MapSt (w.alloc (.map #[] 0)) w.heap.size enc [] :=
  ⟨#[], 0, by show (w.heap.push _)[w.heap.size]? = _; simp, rfl, by simp, by simp⟩

theorem only_setBlock (w : World) (b : Nat) (o : Obj) : Only b w { w with heap := w.heap.setIfInBounds b o } :=
  ⟨rfl, rfl, rfl, by simp, fun j hj => by show (w.heap.setIfInBounds b o)[j]? = _; rw [Array.getElem?_setIfInBounds_ne (Ne.symm hj)]⟩
theorem setBlock_at {w : World} {b : Nat} (hlt : b < w.heap.size) (o : Obj) : ({ w with heap := w.heap.setIfInBounds b o } : World).heap[b]? = some o := by
  show (w.heap.setIfInBounds b _)[b]? = _
  rw [Array.getElem?_setIfInBounds_self_of_lt hlt]

variable [DecidableEq α] {P : Program} {k e t : TypeId}
theorem run_entryStore_at {w : World} {b : Nat} {es : Array MapEntry} {clock j : Nat} {e0 : MapEntry} (hb : w.heap[b]? = some (.map es clock)) (hn : (es.toList.map (·.born)).Nodup) (hj : es[j]? = some e0) (v : Value) :
    (Instr.entryStore t (.map (some b)) (goInt e0.born) v).run P w = .ok () { w with heap := w.heap.setIfInBounds b (.map (es.modify j fun e => { e with val := v }) clock) } := by
  have hidx : es.findIdx? (fun e => ((e.born : Nat) : Int) == ((e0.born : Nat) : Int)) = some j := by
    rw [Go.WideElems.findIdx_arr]
    exact Go.WideElems.findIdx_born hn (by simpa using hj)
  simp [Instr.entryStore, getObj_map_run hb, asInt, asIntOf, goInt, hidx, setObj_map_run _ hb, Result.andThen]

theorem run_entry_m (K : KeyT P k enc) (ht : P.underlying t = some (.map k e)) {z : Value} (hz : ∀ u : World, (zeroValue e).run P u = .ok z u) (h : MapSt w b enc m) (x : α) (v : Value) :
    ∃ (st : Nat) (w1 w2 : World), (Instr.mapEntry t (.map (some b)) (enc x)).run P w = .ok (.tuple #[(getM m x).getD z, goInt st]) w1 ∧ (Instr.lookup t (.map (some b)) (enc x) false).run P w1 = .ok ((getM m x).getD z) w1 ∧
      (Instr.entryStore t (.map (some b)) (goInt st) v).run P w1 = .ok () w2 ∧ MapSt w2 b enc (putM m x v) ∧ Only b w w1 ∧ Only b w1 w2 := by
  have hlt := h.is.lt
  obtain ⟨es, clock, hb, he, hs, hn⟩ := h
  have hf := K.find x m es.toList he w
  have hlen : es.size = m.length := by simpa using congrArg List.length he
  cases hl : lookFrom x m 0 with
  | none =>
    have hput := fun u => (lookFrom_none (v := u) m 0 hl).1
    have hg : getM m x = none := by rw [← lookFrom_get x m 0, hl]; rfl
    refine ⟨clock, { w with heap := w.heap.setIfInBounds b (.map (es.push ⟨enc x, z, clock⟩) (clock + 1)) }, _, ?_, ?_, run_entryStore_at (j := es.size) (e0 := ⟨enc x, z, clock⟩) (setBlock_at hlt _) ?_ (by simp) v, ?_, only_setBlock _ _ _, only_setBlock _ _ _⟩
    · unfold Instr.mapEntry
      simp only [Sem.run_bind, run_underlying ht, Result.andThen_ok, getObj_map_run hb, K.check]
      rw [hf, hl, Result.andThen_ok, hg]
      simp [hz, setObj_map_run _ hb]
    · have h1 : MapIs { w with heap := w.heap.setIfInBounds b (.map (es.push ⟨enc x, z, clock⟩) (clock + 1)) } b enc (putM m x z) := ⟨_, _, setBlock_at hlt _, by rw [hput]; simp [he]⟩
      have h2 := run_lookup_m K ht (hz _) h1 x
      rw [getM_put] at h2
      rw [h2, hg]
      simp
    · simp only [Array.toList_push, List.map_append, List.map_cons, List.map_nil]
      refine List.nodup_append.2 ⟨hn, by simp, fun a ha c hc e1 => ?_⟩
      simp only [List.mem_singleton] at hc
      obtain ⟨y, hy, rfl⟩ := List.mem_map.1 ha
      have := hs y hy
      omega
    · have hmod : (es.push ⟨enc x, z, clock⟩).modify es.size (fun e => { e with val := v }) = es.push ⟨enc x, v, clock⟩ := by
        apply Array.ext'
        rw [Array.toList_modify, Array.toList_push, Array.toList_push, ← Array.length_toList, Go.WideElems.modify_last]
      rw [hmod]
      refine ⟨_, _, setBlock_at (by simpa using hlt) _, ?_, ?_, ?_⟩
      · rw [hput]; simp [he]
      · intro y hy
        simp only [Array.toList_push, List.mem_append, List.mem_singleton] at hy
        rcases hy with hy | rfl
        · have := hs y hy; omega
        · simp
      · simp only [Array.toList_push, List.map_append, List.map_cons, List.map_nil]
        refine List.nodup_append.2 ⟨hn, by simp, fun a ha c hc e1 => ?_⟩
        simp only [List.mem_singleton] at hc
        obtain ⟨y, hy, rfl⟩ := List.mem_map.1 ha
        have := hs y hy
        omega
  | some p =>
    obtain ⟨j, u⟩ := p
    obtain ⟨_, hjl, hput, hk⟩ := lookFrom_put (v := v) m 0 j u hl
    simp only [Nat.sub_zero] at hjl hput hk
    have hg : getM m x = some u := by rw [← lookFrom_get x m 0, hl]; rfl
    have hjs : j < es.size := by omega
    have hej : (es[j]?).map (·.key) = some (enc x) := by
      have h1 := congrArg (fun l => (l[j]?).map (·.1)) he
      simp only [List.getElem?_map, Array.getElem?_toList, Option.map_map] at h1
      have h2 : (es[j]?).map ((fun x => x.1) ∘ fun e : MapEntry => (e.key, e.val)) = (es[j]?).map (·.key) := rfl
      rw [h2] at h1
      rw [h1]
      have h3 : (m[j]?).map ((fun x => x.1) ∘ fun p : α × Value => (enc p.1, p.2)) = ((m[j]?).map (·.1)).map enc := by rw [Option.map_map]; rfl
      rw [h3, hk]; rfl
    have he0 : es[j]? = some es[j] := Array.getElem?_eq_getElem hjs
    have hkey : es[j].key = enc x := by rw [he0] at hej; simpa using hej
    have hsame : es.modify j (fun e => { e with key := enc x }) = es := by
      apply Array.ext'
      rw [Array.toList_modify]
      apply List.ext_getElem?
      intro i
      rw [List.getElem?_modify]
      by_cases hij : j = i
      · subst hij
        have h0 : es.toList[j]? = some es[j] := by simp
        rw [h0]
        simp [← hkey]
      · simp [hij]
    refine ⟨es[j].born, { w with heap := w.heap.setIfInBounds b (.map es clock) }, _, ?_, ?_, run_entryStore_at (j := j) (e0 := es[j]) (setBlock_at hlt _) hn he0 v, ?_, only_setBlock _ _ _, only_setBlock _ _ _⟩
    · unfold Instr.mapEntry
      simp only [Sem.run_bind, run_underlying ht, Result.andThen_ok, getObj_map_run hb, K.check]
      rw [hf, hl, Result.andThen_ok, hg]
      simp only [he0, Option.map_some, hkey, Option.getD_some, Instr.keyThatStays, K.same, if_true, Sem.run_bind, Sem.run_pure, Result.andThen_ok, setObj_map_run _ hb, hsame]
    · have h1 : MapIs { w with heap := w.heap.setIfInBounds b (.map es clock) } b enc m := ⟨_, _, setBlock_at hlt _, he⟩
      exact run_lookup_m K ht (hz _) h1 x
    · refine ⟨_, _, setBlock_at (by simpa using hlt) _, ?_, ?_, ?_⟩
      · rw [hput, List.map_set, ← he]
        apply List.ext_getElem?
        intro i
        simp only [List.getElem?_map, Array.getElem?_toList, Array.getElem?_modify, List.getElem?_set, List.length_map, Array.length_toList]
        by_cases hij : j = i
        · subst hij
          simp [hjs, ← hkey]
        · simp [hij]
      · intro y hy
        rw [Array.toList_modify] at hy
        obtain ⟨i, hi⟩ := List.getElem?_of_mem hy
        rw [List.getElem?_modify] at hi
        cases hz' : es.toList[i]? with
        | none => rw [hz'] at hi; simp at hi
        | some y0 =>
          rw [hz'] at hi
          have hm := hs y0 (List.mem_of_getElem? hz')
          by_cases hij : j = i
          · simp [hij] at hi; rw [← hi]; exact hm
          · simp [hij] at hi; rw [← hi]; exact hm
      · have : ((es.modify j fun e => { e with val := v }).toList.map (·.born)) = es.toList.map (·.born) := by
          rw [Array.toList_modify]
          apply List.ext_getElem?
          intro i
          simp only [List.getElem?_map, List.getElem?_modify]
          by_cases hij : j = i <;> cases es.toList[i]? <;> simp [hij]
        rw [this]
        exact hn
end
end Go.Proofs.YtajbimmfkbgcpaaGreat

/- vec.Dist. -/
namespace Go.Proofs.YtajbimmfkbgcpaaGreat
open Go.RowKit

def M64 : Int := 18446744073709551616
def addS (x y : Int) : Int := (x + y) % M64
def addC (x y : Int) : Int := (x + y) / M64

theorem run_add64_any (x y : Int) (hx : 0 ≤ x) (hx1 : x < M64) (hy : 0 ≤ y) (hy1 : y < M64) (w : World) :
    (callFunc 27 #[.int .u64 x, .int .u64 y, .int .u64 0]).run Tryz.prog w = .ok (.value (.tuple #[.int .u64 (addS x y), .int .u64 (addC x y)])) w := by
  unfold addS addC M64 at *
  obtain ⟨a, rfl⟩ := Int.eq_ofNat_of_zero_le hx
  obtain ⟨b, rfl⟩ := Int.eq_ofNat_of_zero_le hy
  rw [run_callFunc_extern Tryz.func27 (by kernel_rfl) (by kernel_rfl) (by kernel_rfl) (e := add64Entry) (by kernel_rfl)]
  have h := run_add64 (P := Tryz.prog) a b 0 (by omega) (by omega) (by omega) (by omega) w
  rw [h]
  simp only [Result.andThen, Int.add_zero]

theorem sqr_range (x y : Int) : 0 ≤ sqr x y ∧ sqr x y < M64 := by
  unfold sqr M64
  rw [IntKind.wrap_u64]
  exact ⟨Int.emod_nonneg _ (by omega), Int.emod_lt_of_pos _ (by omega)⟩

/-- A squared distance, held at the greatest number; the first list is not the shorter one. -/
def distFrom : List Int → List Int → Int → Int
  | [], _, s => s
  | x :: a, b, s => if M64 ≤ s + sqr x (b.headD 0) then M64 - 1 else distFrom a b.tail (s + sqr x (b.headD 0))
def dist (a b : List Int) : Int := if a.length < b.length then distFrom b a 0 else distFrom a b 0

theorem distFrom_range (a : List Int) : ∀ (b : List Int) (s : Int), 0 ≤ s → s < M64 → 0 ≤ distFrom a b s ∧ distFrom a b s < M64 := by
  induction a with
  | nil => intro b s h0 h1; exact ⟨h0, h1⟩
  | cons x a ih =>
    intro b s h0 h1
    have := sqr_range x (b.headD 0)
    unfold distFrom
    split
    · unfold M64; omega
    · exact ih _ _ (by omega) (by omega)
theorem dist_range (a b : List Int) : 0 ≤ dist a b ∧ dist a b < M64 := by
  unfold dist
  split <;> exact distFrom_range _ _ 0 (by omega) (by unfold M64; omega)

theorem distFrom_step {xs ys : List Int} {k : Nat} {s : Int} (hk : k < xs.length) :
    distFrom (xs.drop k) (ys.drop k) s = if M64 ≤ s + sqr (xs.getD k 0) (ys.getD k 0) then M64 - 1 else distFrom (xs.drop (k + 1)) (ys.drop (k + 1)) (s + sqr (xs.getD k 0) (ys.getD k 0)) := by
  rw [List.drop_eq_getElem_cons hk]
  have e1 : xs.getD k 0 = xs[k] := by simp [hk]
  have e2 : (ys.drop k).headD 0 = ys.getD k 0 := by simp [List.head?_drop]
  have e3 : (ys.drop k).tail = ys.drop (k + 1) := by simp
  rw [distFrom, e1, e2, e3]

theorem dist_over {s t : Int} (h : M64 ≤ s + t) : 0 < addC s t := by
  unfold addC M64 at *; omega
theorem dist_fits {s t : Int} (h0 : 0 ≤ s) (h2 : 0 ≤ t) (h : ¬ M64 ≤ s + t) : ¬ 0 < addC s t ∧ addS s t = s + t := by
  unfold addC addS M64 at *; omega

def I32s (xs : List Int) : Prop := ∀ x ∈ xs, -2147483648 ≤ x ∧ x ≤ 2147483647
theorem I32s.getD {xs : List Int} (h : I32s xs) (k : Nat) : -2147483648 ≤ xs.getD k 0 ∧ xs.getD k 0 ≤ 2147483647 := by
  rcases Nat.lt_or_ge k xs.length with hk | hk
  · have : xs.getD k 0 = xs[k] := by simp [hk]
    rw [this]; exact h _ (List.getElem_mem hk)
  · have : xs.getD k 0 = 0 := by simp [hk]
    omega
theorem IntsAt.getD {k : IntKind} {w : World} {a : Option Addr} {xs : List Int} (h : IntsAt k w a xs) {i : Nat} (hi : i < xs.length) :
    ∃ b o, a = some ⟨b, o, none⟩ ∧ w.cell? ⟨b, o + i, none⟩ = some (.int k (xs.getD i 0)) := by
  obtain ⟨b, o, ha, _, hc⟩ := h.at_ hi
  refine ⟨b, o, ha, ?_⟩
  have : xs.getD i 0 = xs[i] := by simp [hi]
  rw [this]; exact hc
theorem ret_u64 {a b : Int} (h : a = b) : Ending.returned (.int .u64 a) = Ending.returned (.int .u64 b) := by rw [h]
theorem M64_eq : M64 - 1 = 18446744073709551615 := rfl


set_option maxRecDepth 100000 in
set_option maxHeartbeats 1000000 in
theorem Dist_lt (ax ay : Option Addr) (cx cy : Nat) (xs ys : List Int) (w : World) (hl : ys.length ≤ 35184372088832) (hX : IntsAt .i32 w ax xs) (hY : IntsAt .i32 w ay ys) (iX : I32s xs) (iY : I32s ys) (hlt : xs.length < ys.length) :
    Calls Tryz.prog 39 #[.slice ax xs.length cx, .slice ay ys.length cy] w fun e w' => e = .returned (.int .u64 (dist xs ys)) ∧ w = w' := by
  have hfin : dist xs ys = distFrom (ys.drop 0) (xs.drop 0) 0 := by unfold dist; rw [if_pos hlt]; rfl
  have Hfin := Lib.hid hfin
  clear hfin
  have HX := Lib.hid hX; have HY := Lib.hid hY; have IX := Lib.hid iX; have IY := Lib.hid iY
  clear hX hY iX iY
  go_enter Tryz.func39, Tryz.ntmps39
  go_wp2_with fail
  go_loop [5, 19] (fun s i => ∃ (k : Nat) (t : Int), k ≤ ys.length ∧ i = .int .i64 (k : Int) ∧ s = .int .u64 t ∧ Hid (0 ≤ t ∧ t < M64 ∧ dist xs ys = distFrom (ys.drop k) (xs.drop k) t)) (fun _ i => ys.length - (intOf i).toNat)
  case atStart => exact ⟨0, 0, Nat.zero_le _, rfl, rfl, by omega, by unfold M64; omega, Hfin.out⟩
  case round =>
    obtain ⟨k, t, hk, rfl, rfl, H⟩ := hrel
    clear Hfin
    by_cases hlk : k < ys.length
    · obtain ⟨bx, ox, hbx, hcx⟩ := HY.out.getD hlk
      have r1 := IY.out.getD k
      have r2 := IX.out.getD k
      obtain ⟨t0, t1, h3⟩ := H.out
      have hst := distFrom_step (ys := xs) (s := t) hlk
      have hsr := sqr_range (ys.getD k 0) (xs.getD k 0)
      have hcy : k < xs.length → ∃ b o, ax = some ⟨b, o, none⟩ ∧ w.cell? ⟨b, o + k, none⟩ = some (.int .i32 (xs.getD k 0)) := fun h => HX.out.getD h
      have hcy0 : ¬ k < xs.length → xs.getD k 0 = 0 := fun h => by simp [Nat.le_of_not_lt h]
      generalize hgx : ys.getD k 0 = gx at *
      generalize hgy : xs.getD k 0 = gy at *
      have hadd := fun W => run_add64_any t (sqr gx gy) t0 t1 hsr.1 hsr.2 W
      subst hbx
      clear HX HY IX IY hgx hgy H
      have Hst := Lib.hid hst; clear hst
      have H3 := Lib.hid h3; clear h3
      have T0 := Lib.hid t0; have T1 := Lib.hid t1; have Hsr := Lib.hid hsr; clear t0 t1 hsr
      by_cases hov : M64 ≤ t + sqr gx gy
      · have ho := dist_over hov
        have Hov := Lib.hid hov; clear hov
        by_cases hky : k < xs.length
        · obtain ⟨by_, oy, rfl, hcy⟩ := hcy hky
          clear hcy0
          go_wp2_with (first | (go_at_call 52; refine (square_any gx gy _ (by omega) (by omega) (by omega) (by omega)).mono ?_; rintro e w' ⟨rfl, rfl⟩))
          go_ret
          exact ⟨ret_u64 (by rw [H3.out, Hst.out, if_pos Hov.out, M64_eq]), rfl⟩
        · have Hgy := Lib.hid (hcy0 hky)
          clear hcy hcy0
          obtain rfl := Hgy.out
          clear Hgy
          go_wp2_with (first | (go_at_call 52; refine (square_any gx 0 _ (by omega) (by omega) (by omega) (by omega)).mono ?_; rintro e w' ⟨rfl, rfl⟩))
          go_ret
          exact ⟨ret_u64 (by rw [H3.out, Hst.out, if_pos Hov.out, M64_eq]), rfl⟩
      · obtain ⟨ho, hs⟩ := dist_fits T0.out Hsr.out.1 hov
        have Hs := Lib.hid hs; clear hs
        have Hov := Lib.hid hov; clear hov
        have hrel : Hid (0 ≤ addS t (sqr gx gy) ∧ addS t (sqr gx gy) < M64 ∧ dist xs ys = distFrom (ys.drop (k + 1)) (xs.drop (k + 1)) (addS t (sqr gx gy))) := by
          have a1 := T0.out; have a2 := Hsr.out; have a3 := Hov.out
          rw [Hs.out]; exact ⟨by omega, by omega, by rw [H3.out, Hst.out, if_neg Hov.out]⟩
        by_cases hky : k < xs.length
        · obtain ⟨by_, oy, rfl, hcy⟩ := hcy hky
          clear hcy0
          go_wp2_with (first | (go_at_call 52; refine (square_any gx gy _ (by omega) (by omega) (by omega) (by omega)).mono ?_; rintro e w' ⟨rfl, rfl⟩))
          go_round
          case rel => exact ⟨k + 1, _, by omega, by go_num, rfl, hrel⟩
          case measure => simp [intOf]; omega
        · have Hgy := Lib.hid (hcy0 hky)
          clear hcy hcy0
          obtain rfl := Hgy.out
          clear Hgy
          go_wp2_with (first | (go_at_call 52; refine (square_any gx 0 _ (by omega) (by omega) (by omega) (by omega)).mono ?_; rintro e w' ⟨rfl, rfl⟩))
          go_round
          case rel => exact ⟨k + 1, _, by omega, by go_num, rfl, hrel⟩
          case measure => simp [intOf]; omega
    · obtain rfl : k = ys.length := by omega
      go_wp2
      go_ret
      exact ⟨ret_u64 (by rw [H.out.2.2]; simp [distFrom]), rfl⟩

set_option maxRecDepth 100000 in
set_option maxHeartbeats 1000000 in
theorem Dist_ge (ax ay : Option Addr) (cx cy : Nat) (xs ys : List Int) (w : World) (hl : xs.length ≤ 35184372088832) (hX : IntsAt .i32 w ax xs) (hY : IntsAt .i32 w ay ys) (iX : I32s xs) (iY : I32s ys) (hlt : ¬ xs.length < ys.length) :
    Calls Tryz.prog 39 #[.slice ax xs.length cx, .slice ay ys.length cy] w fun e w' => e = .returned (.int .u64 (dist xs ys)) ∧ w = w' := by
  have hfin : dist xs ys = distFrom (xs.drop 0) (ys.drop 0) 0 := by unfold dist; rw [if_neg hlt]; rfl
  have Hfin := Lib.hid hfin
  clear hfin
  have HX := Lib.hid hX; have HY := Lib.hid hY; have IX := Lib.hid iX; have IY := Lib.hid iY
  clear hX hY iX iY
  go_enter Tryz.func39, Tryz.ntmps39
  go_wp2_with fail
  go_loop [5, 19] (fun s i => ∃ (k : Nat) (t : Int), k ≤ xs.length ∧ i = .int .i64 (k : Int) ∧ s = .int .u64 t ∧ Hid (0 ≤ t ∧ t < M64 ∧ dist xs ys = distFrom (xs.drop k) (ys.drop k) t)) (fun _ i => xs.length - (intOf i).toNat)
  case atStart => exact ⟨0, 0, Nat.zero_le _, rfl, rfl, by omega, by unfold M64; omega, Hfin.out⟩
  case round =>
    obtain ⟨k, t, hk, rfl, rfl, H⟩ := hrel
    clear Hfin
    by_cases hlk : k < xs.length
    · obtain ⟨bx, ox, hbx, hcx⟩ := HX.out.getD hlk
      have r1 := IX.out.getD k
      have r2 := IY.out.getD k
      obtain ⟨t0, t1, h3⟩ := H.out
      have hst := distFrom_step (ys := ys) (s := t) hlk
      have hsr := sqr_range (xs.getD k 0) (ys.getD k 0)
      have hcy : k < ys.length → ∃ b o, ay = some ⟨b, o, none⟩ ∧ w.cell? ⟨b, o + k, none⟩ = some (.int .i32 (ys.getD k 0)) := fun h => HY.out.getD h
      have hcy0 : ¬ k < ys.length → ys.getD k 0 = 0 := fun h => by simp [Nat.le_of_not_lt h]
      generalize hgx : xs.getD k 0 = gx at *
      generalize hgy : ys.getD k 0 = gy at *
      have hadd := fun W => run_add64_any t (sqr gx gy) t0 t1 hsr.1 hsr.2 W
      subst hbx
      clear HX HY IX IY hgx hgy H
      have Hst := Lib.hid hst; clear hst
      have H3 := Lib.hid h3; clear h3
      have T0 := Lib.hid t0; have T1 := Lib.hid t1; have Hsr := Lib.hid hsr; clear t0 t1 hsr
      by_cases hov : M64 ≤ t + sqr gx gy
      · have ho := dist_over hov
        have Hov := Lib.hid hov; clear hov
        by_cases hky : k < ys.length
        · obtain ⟨by_, oy, rfl, hcy⟩ := hcy hky
          clear hcy0
          go_wp2_with (first | (go_at_call 52; refine (square_any gx gy _ (by omega) (by omega) (by omega) (by omega)).mono ?_; rintro e w' ⟨rfl, rfl⟩))
          go_ret
          exact ⟨ret_u64 (by rw [H3.out, Hst.out, if_pos Hov.out, M64_eq]), rfl⟩
        · have Hgy := Lib.hid (hcy0 hky)
          clear hcy hcy0
          obtain rfl := Hgy.out
          clear Hgy
          go_wp2_with (first | (go_at_call 52; refine (square_any gx 0 _ (by omega) (by omega) (by omega) (by omega)).mono ?_; rintro e w' ⟨rfl, rfl⟩))
          go_ret
          exact ⟨ret_u64 (by rw [H3.out, Hst.out, if_pos Hov.out, M64_eq]), rfl⟩
      · obtain ⟨ho, hs⟩ := dist_fits T0.out Hsr.out.1 hov
        have Hs := Lib.hid hs; clear hs
        have Hov := Lib.hid hov; clear hov
        have hrel : Hid (0 ≤ addS t (sqr gx gy) ∧ addS t (sqr gx gy) < M64 ∧ dist xs ys = distFrom (xs.drop (k + 1)) (ys.drop (k + 1)) (addS t (sqr gx gy))) := by
          have a1 := T0.out; have a2 := Hsr.out; have a3 := Hov.out
          rw [Hs.out]; exact ⟨by omega, by omega, by rw [H3.out, Hst.out, if_neg Hov.out]⟩
        by_cases hky : k < ys.length
        · obtain ⟨by_, oy, rfl, hcy⟩ := hcy hky
          clear hcy0
          go_wp2_with (first | (go_at_call 52; refine (square_any gx gy _ (by omega) (by omega) (by omega) (by omega)).mono ?_; rintro e w' ⟨rfl, rfl⟩))
          go_round
          case rel => exact ⟨k + 1, _, by omega, by go_num, rfl, hrel⟩
          case measure => simp [intOf]; omega
        · have Hgy := Lib.hid (hcy0 hky)
          clear hcy hcy0
          obtain rfl := Hgy.out
          clear Hgy
          go_wp2_with (first | (go_at_call 52; refine (square_any gx 0 _ (by omega) (by omega) (by omega) (by omega)).mono ?_; rintro e w' ⟨rfl, rfl⟩))
          go_round
          case rel => exact ⟨k + 1, _, by omega, by go_num, rfl, hrel⟩
          case measure => simp [intOf]; omega
    · obtain rfl : k = xs.length := by omega
      go_wp2
      go_ret
      exact ⟨ret_u64 (by rw [H.out.2.2]; simp [distFrom]), rfl⟩

theorem Dist_any (ax ay : Option Addr) (cx cy : Nat) (xs ys : List Int) (w : World) (hlx : xs.length ≤ 35184372088832) (hly : ys.length ≤ 35184372088832) (hX : IntsAt .i32 w ax xs) (hY : IntsAt .i32 w ay ys) (iX : I32s xs) (iY : I32s ys) :
    Calls Tryz.prog 39 #[.slice ax xs.length cx, .slice ay ys.length cy] w fun e w' => e = .returned (.int .u64 (dist xs ys)) ∧ w = w' := by
  by_cases hlt : xs.length < ys.length
  · exact Dist_lt ax ay cx cy xs ys w hly hX hY iX iY hlt
  · exact Dist_ge ax ay cx cy xs ys w hlx hX hY iX iY hlt
end Go.Proofs.YtajbimmfkbgcpaaGreat

/- slices.Index, Contains, IndexFunc, ContainsFunc at []int; edges.Has, edges.Most, edges.Right. -/
namespace Go.Proofs.YtajbimmfkbgcpaaGreat
open Go.RowKit

def posF (p : Int → Bool) (xs : List Int) : Int := match xs.findIdx? p with | some i => (i : Int) | none => -1
theorem posF_hit {p : Int → Bool} {xs : List Int} {k : Nat} (hk : k < xs.length) (hn : ∀ j, j < k → p (xs.getD j 0) = false) (hp : p (xs.getD k 0) = true) : posF p xs = (k : Int) := by
  unfold posF
  have : xs.findIdx? p = some k := by
    rw [List.findIdx?_eq_some_iff_getElem]
    refine ⟨hk, by simpa [hk] using hp, fun j hj => ?_⟩
    have := hn j hj
    have hj' : j < xs.length := by omega
    simpa [hj'] using this
  rw [this]
theorem posF_none {p : Int → Bool} {xs : List Int} (hn : ∀ j, j < xs.length → p (xs.getD j 0) = false) : posF p xs = -1 := by
  unfold posF
  have : xs.findIdx? p = none := by
    rw [List.findIdx?_eq_none_iff]
    intro x hx
    obtain ⟨j, hj, rfl⟩ := List.getElem_of_mem hx
    simpa [hj] using hn j hj
  rw [this]
theorem posF_any (p : Int → Bool) (xs : List Int) : decide (0 ≤ posF p xs) = xs.any p := by
  unfold posF
  cases h : xs.findIdx? p with
  | none =>
    rw [List.findIdx?_eq_none_iff] at h
    have : xs.any p = false := by rw [List.any_eq_false]; intro x hx; simp [h x hx]
    simp [this]
  | some i =>
    rw [List.findIdx?_eq_some_iff_getElem] at h
    obtain ⟨hi, hp, _⟩ := h
    have : xs.any p = true := List.any_eq_true.2 ⟨_, List.getElem_mem hi, hp⟩
    simp [this]

set_option maxRecDepth 100000 in
set_option maxHeartbeats 400000 in
theorem Index_int (a : Option Addr) (c : Nat) (xs : List Int) (v : Int) (w : World) (hl : xs.length ≤ 35184372088832) (hX : IntsAt .i64 w a xs) :
    Calls Tryz.prog 64 #[.slice a xs.length c, .int .i64 v] w fun e w' => e = .returned (.int .i64 (posF (v == ·) xs)) ∧ w = w' := by
  have HX := Lib.hid hX; clear hX
  go_enter Tryz.func64, Tryz.ntmps64
  go_wp2_with fail
  go_loop [8] (fun i => ∃ k : Nat, k ≤ xs.length ∧ i = .int .i64 (k : Int) ∧ Hid (∀ j, j < k → (v == xs.getD j 0) = false)) (fun i => xs.length - (intOf i).toNat)
  case atStart => exact ⟨0, Nat.zero_le _, rfl, fun j hj => absurd hj (by omega)⟩
  case round =>
    obtain ⟨k, hk, rfl, H⟩ := hrel
    by_cases hlk : k < xs.length
    · obtain ⟨b, o, rfl, hc⟩ := HX.out.getD hlk
      have hhit := fun h => Lib.hid (posF_hit (p := (v == ·)) hlk H.out h)
      have hmiss : (v == xs.getD k 0) = false → Hid (∀ j, j < k + 1 → (v == xs.getD j 0) = false) := fun h j hj => by
        by_cases e : j = k
        · subst e; exact h
        · exact H.out j (by omega)
      generalize hg : xs.getD k 0 = g at *
      clear HX hg
      by_cases hv : v = g
      · have Hv := hhit (by simpa using hv)
        subst hv
        clear hhit hmiss
        go_wp2
        go_ret
        exact ⟨ret_int Hv.out.symm, rfl⟩
      · have hb : (v == g) = false := by simpa using hv
        have Hm := hmiss hb
        clear hhit hmiss
        go_wp2
        go_round
        case rel => exact ⟨k + 1, by omega, by go_num, Hm⟩
        case measure => simp [intOf]; omega
    · obtain rfl : k = xs.length := by omega
      go_wp2
      go_ret
      exact ⟨ret_int (posF_none H.out).symm, rfl⟩

def hasI (xs : List Int) (v : Int) : Bool := xs.any (v == ·)
theorem Contains_int (a : Option Addr) (c : Nat) (xs : List Int) (v : Int) (w : World) (hl : xs.length ≤ 35184372088832) (hX : IntsAt .i64 w a xs) :
    Calls Tryz.prog 51 #[.slice a xs.length c, .int .i64 v] w fun e w' => e = .returned (.bool (hasI xs v)) ∧ w = w' := by
  have H := Lib.hid (posF_any (v == ·) xs)
  have hI := fun W => Index_int a c xs v W hl
  have HX := Lib.hid hX; clear hX
  go_enter Tryz.func51, Tryz.ntmps51
  go_wp2_with (first | (go_at_call 64; refine (hI _ HX.out).mono ?_; rintro e w' ⟨rfl, rfl⟩))
  go_ret
  exact ⟨ret_bool H.out, rfl⟩
theorem Has_any (a : Option Addr) (c : Nat) (xs : List Int) (v : Int) (w : World) (hl : xs.length ≤ 35184372088832) (hX : IntsAt .i64 w a xs) :
    Calls Tryz.prog 37 #[.slice a xs.length c, .int .i64 v] w fun e w' => e = .returned (.bool (hasI xs v)) ∧ w = w' := by
  have hI := fun W => Contains_int a c xs v W hl
  have HX := Lib.hid hX; clear hX
  go_enter Tryz.func37, Tryz.ntmps37
  go_wp2_with (first | (go_at_call 51; refine (hI _ HX.out).mono ?_; rintro e w' ⟨rfl, rfl⟩))
  go_ret
  exact ⟨rfl, rfl⟩

def mostI (links level : Int) : Int := if level = 0 then 2 * min (max links 1) 32 else min (max links 1) 32
theorem Most_any (links level : Int) (w : World) :
    Calls Tryz.prog 49 #[.int .i64 links, .int .i64 level] w fun e w' => e = .returned (.int .i64 (mostI links level)) ∧ w = w' := by
  by_cases h : level = 0
  · have H : Hid (mostI links level = 2 * min (max links 1) 32) := by unfold mostI; rw [if_pos h]; rfl
    subst h
    go_enter Tryz.func49, Tryz.ntmps49
    go_wp2
    all_goals (go_ret; exact ⟨ret_int (by rw [H.out]; omega), rfl⟩)
  · have H : Hid (mostI links level = min (max links 1) 32) := by unfold mostI; rw [if_neg h]; rfl
    have hb : (level == 0) = false := by simpa using h
    go_enter Tryz.func49, Tryz.ntmps49
    go_wp2
    all_goals (go_ret; exact ⟨ret_int (by rw [H.out]; omega), rfl⟩)

/-- Whether a number of a list of neighbours may not be there. -/
def badE (n self slots : Int) : Bool := decide (n = self) || decide (n < 1) || decide (slots < n)
def rightE (l : List Int) (self links level slots : Int) : Bool := l.all (fun n => !badE n self slots) && decide (l.Nodup) && decide ((l.length : Int) ≤ mostI links level)
theorem right_bad {l : List Int} {self links level slots : Int} {k : Nat} (hk : k < l.length) (h : badE (l.getD k 0) self slots = true) : rightE l self links level slots = false := by
  have : l.all (fun n => !badE n self slots) = false := by
    rw [List.all_eq_false]
    refine ⟨l[k], List.getElem_mem hk, ?_⟩
    have e : l.getD k 0 = l[k] := by simp [hk]
    rw [e] at h
    simp [h]
  simp [rightE, this]
theorem right_end {l : List Int} {self links level slots : Int} (h : ∀ j, j < l.length → badE (l.getD j 0) self slots = false) : rightE l self links level slots = (decide ((cntM l).length = l.length) && decide ((l.length : Int) ≤ mostI links level)) := by
  have : l.all (fun n => !badE n self slots) = true := by
    rw [List.all_eq_true]
    intro x hx
    obtain ⟨j, hj, rfl⟩ := List.getElem_of_mem hx
    have := h j hj
    simp [hj] at this
    simp [this]
  rw [rightE, this, Bool.true_and]
  congr 1
  exact decide_eq_decide.2 (cntM_length l).symm
theorem badE_1 {n self slots : Int} (h : n = self) : badE n self slots = true := by simp [badE, h]
theorem badE_2 {n self slots : Int} (h : n < 1) : badE n self slots = true := by simp [badE, h]
theorem badE_3 {n self slots : Int} (h : slots < n) : badE n self slots = true := by simp [badE, h]
theorem badE_4 {n self slots : Int} (h1 : ¬ n = self) (h2 : ¬ n < 1) (h3 : ¬ slots < n) : badE n self slots = false := by
  unfold badE; simp only [h1, h2, h3, decide_false, Bool.or_self]
theorem take_snoc_getD {l : List Int} {k : Nat} (h : k < l.length) : l.take (k + 1) = l.take k ++ [l.getD k 0] := by
  rw [List.take_succ_eq_append_getElem h]; simp [h]

theorem Tryz.keyInt : KeyT Tryz.prog 3 (Value.int .i64) := keyT_int Tryz.underlying3
theorem Tryz.zeroInt (w : World) : (zeroValue 3).run Tryz.prog w = .ok (.int .i64 0) w := by kernel_rfl

set_option maxRecDepth 100000 in
set_option maxHeartbeats 1000000 in
theorem Right_any (a : Option Addr) (c : Nat) (l : List Int) (self links level slots : Int) (w : World) (hl : l.length ≤ 35184372088832) (hX : IntsAt .i64 w a l) :
    Calls Tryz.prog 34 #[.slice a l.length c, .int .i64 self, .int .i64 links, .int .i64 level, .int .i64 slots] w fun e w' => e = .returned (.bool (rightE l self links level slots)) ∧ Kept w w' := by
  have HX := Lib.hid hX; clear hX
  have hmm := @run_makeMap Tryz.prog
  go_enter Tryz.func34, Tryz.ntmps34
  go_wp2_with fail
  clear hmm
  go_loopw [17] (fun i wr => ∃ k : Nat, k ≤ l.length ∧ i = .int .i64 (k : Int) ∧ Hid ((∀ j, j < k → badE (l.getD j 0) self slots = false) ∧ MapIs wr w.heap.size (Value.int .i64) (cntM (l.take k)) ∧ Kept w wr)) (fun i _ => l.length - (intOf i).toNat)
  case atStart => exact ⟨0, Nat.zero_le _, rfl, fun j hj => absurd hj (by omega), MapIs.new w _, (Kept.rfl' w).alloc (Nat.le_refl _) _⟩
  case round =>
    obtain ⟨k, hk, rfl, H⟩ := hrel
    by_cases hlk : k < l.length
    · obtain ⟨b, o, rfl, hc⟩ := (HX.out.keep H.out.2.2).getD hlk
      have hbad := fun h => Lib.hid (right_bad (links := links) (level := level) (self := self) (slots := slots) hlk h)
      have hts := take_snoc_getD hlk
      have hgood : badE (l.getD k 0) self slots = false → Hid (∀ j, j < k + 1 → badE (l.getD j 0) self slots = false) := fun h j hj => by
        by_cases e : j = k
        · subst e; exact h
        · exact H.out.1 j (by omega)
      generalize hg : l.getD k 0 = g at *
      have Hts := Lib.hid hts; clear hts
      have hcount : (l.take k).count g ≤ k := Nat.le_trans List.count_le_length (List.length_take_le _ _)
      have hlook := run_lookup_m (P := Tryz.prog) (t := 94) Tryz.keyInt Tryz.underlying94 (Tryz.zeroInt wr) H.out.2.1 g
      rw [cntM_get] at hlook
      clear hg HX
      by_cases h1 : g = self
      · have Hf := hbad (badE_1 h1)
        have hd : (g == self) = true := by simpa using h1
        clear hbad hgood hlook
        go_wp2
        go_ret
        exact ⟨ret_bool Hf.out.symm, H.out.2.2⟩
      · have hd : (g == self) = false := by simpa using h1
        by_cases h2 : g < 1
        · have Hf := hbad (badE_2 h2)
          clear hbad hgood hlook
          go_wp2
          go_ret
          exact ⟨ret_bool Hf.out.symm, H.out.2.2⟩
        · by_cases h3 : slots < g
          · have Hf := hbad (badE_3 h3)
            clear hbad hgood hlook
            go_wp2
            go_ret
            exact ⟨ret_bool Hf.out.symm, H.out.2.2⟩
          · have Hg := hgood (badE_4 h1 h2 h3)
            clear hbad hgood
            go_wp2_with (first | (at_mapUpdate; refine wpList_update_m Tryz.keyInt Tryz.underlying94 rfl _ _ _ rfl rfl H.out.2.1 g rfl (.int .i64 (((l.take k).count g : Int) + 1)) rfl ?_))
            intro w2 hm2 ho2
            have Hm2 : Hid (MapIs w2 w.heap.size (Value.int .i64) (cntM (l.take (k + 1))) ∧ Kept w w2) := ⟨by rw [Hts.out, ← cntM_put]; exact hm2, Below.trans H.out.2.2 (ho2.below (Nat.le_refl _))⟩
            clear hm2 ho2 H
            go_wp2
            go_roundw
            case rel => exact ⟨k + 1, by omega, by go_num, Hg.out, Hm2.out.1, Hm2.out.2⟩
            case measure => simp [intOf]; omega
    · obtain rfl : k = l.length := by omega
      have hfin := right_end (links := links) (level := level) H.out.1
      have hm := H.out.2.1
      rw [List.take_length] at hm
      have hlen := run_len_m (P := Tryz.prog) (t := 94) Tryz.underlying94 hm
      have hle := cntM_len_le l
      have Hk := Lib.hid H.out.2.2
      clear H hm
      have Hfin := Lib.hid hfin; clear hfin
      generalize (cntM l).length = cl at *
      by_cases he : cl = l.length
      · subst he
        go_wp2_with (first | (go_at_call 49; refine (Most_any links level _).mono ?_; rintro e w' ⟨rfl, rfl⟩))
        go_ret
        exact ⟨ret_bool (by rw [Hfin.out]; simp), Hk.out⟩
      · have hd : ((cl : Int) == (l.length : Int)) = false := by rw [beq_eq_false_iff_ne]; omega
        go_wp2_with (first | (go_at_call 49; refine (Most_any links level _).mono ?_; rintro e w' ⟨rfl, rfl⟩))
        go_ret
        exact ⟨ret_bool (by rw [Hfin.out]; simp [he]), Hk.out⟩
end Go.Proofs.YtajbimmfkbgcpaaGreat

/- slices.IndexFunc, slices.ContainsFunc at []int, for whatever predicate that leaves what is there alone. -/
namespace Go.Proofs.YtajbimmfkbgcpaaGreat
open Go.RowKit

/-- What a function value answers at a number, in every world that has come of w by growth. -/
def PredI (g : FuncId) (cap : Array Value) (p : Int → Bool) (w : World) (x : Int) : Prop :=
  ∀ W, Kept w W → Calls Tryz.prog g (#[.int .i64 x] ++ cap) W fun e W' => e = .returned (.bool (p x)) ∧ Kept W W'

set_option maxRecDepth 100000 in
set_option maxHeartbeats 400000 in
theorem IndexFunc_int (g : FuncId) (cap : Array Value) (p : Int → Bool) (a : Option Addr) (c : Nat) (xs : List Int) (w : World) (hl : xs.length ≤ 35184372088832) (hX : IntsAt .i64 w a xs)
    (eg : ∀ args W, (callFunc g args).run Tryz.prog W = .ok (.enter g args) W) (hp : ∀ x ∈ xs, PredI g cap p w x) :
    Calls Tryz.prog 50 #[.slice a xs.length c, .func (.func g) #[] cap] w fun e w' => e = .returned (.int .i64 (posF p xs)) ∧ Kept w w' := by
  have HX := Lib.hid hX; clear hX
  have HP := Lib.hid hp; clear hp
  go_enter Tryz.func50, Tryz.ntmps50
  go_wp2_with fail
  go_loopw [8] (fun i wr => ∃ k : Nat, k ≤ xs.length ∧ i = .int .i64 (k : Int) ∧ Hid ((∀ j, j < k → p (xs.getD j 0) = false) ∧ Kept w wr)) (fun i _ => xs.length - (intOf i).toNat)
  case atStart => exact ⟨0, Nat.zero_le _, rfl, fun j hj => absurd hj (by omega), Kept.rfl' w⟩
  case round =>
    obtain ⟨k, hk, rfl, H⟩ := hrel
    by_cases hlk : k < xs.length
    · obtain ⟨b, o, rfl, hc⟩ := (HX.out.keep H.out.2).getD hlk
      have hhit := fun h => Lib.hid (posF_hit (p := p) hlk H.out.1 h)
      have hmiss : p (xs.getD k 0) = false → Hid (∀ j, j < k + 1 → p (xs.getD j 0) = false) := fun h j hj => by
        by_cases e : j = k
        · subst e; exact h
        · exact H.out.1 j (by omega)
      have hmem : xs.getD k 0 ∈ xs := by simp [hlk]
      have hcall := HP.out _ hmem wr H.out.2
      generalize hg : xs.getD k 0 = x at *
      have Hcall := Lib.hid hcall
      clear HX HP hg hmem hcall
      cases hpx : p x with
      | true =>
        have Hv := hhit hpx
        clear hhit hmiss
        rw [hpx] at Hcall
        clear hpx
        go_wp2_with (first | (go_at_fn g; refine Hcall.out.mono ?_; rintro e w1 ⟨rfl, hk1⟩))
        go_ret
        exact ⟨ret_int Hv.out.symm, Kept.trans H.out.2 hk1⟩
      | false =>
        have Hm := hmiss hpx
        clear hhit hmiss
        rw [hpx] at Hcall
        clear hpx
        go_wp2_with (first | (go_at_fn g; refine Hcall.out.mono ?_; rintro e w1 ⟨rfl, hk1⟩))
        go_roundw
        case rel => exact ⟨k + 1, by omega, by go_num, Hm.out, Kept.trans H.out.2 hk1⟩
        case measure => simp [intOf]; omega
    · obtain rfl : k = xs.length := by omega
      go_wp2
      go_ret
      exact ⟨ret_int (posF_none H.out.1).symm, H.out.2⟩

theorem ContainsFunc_int (g : FuncId) (cap : Array Value) (p : Int → Bool) (a : Option Addr) (c : Nat) (xs : List Int) (w : World) (hl : xs.length ≤ 35184372088832) (hX : IntsAt .i64 w a xs)
    (eg : ∀ args W, (callFunc g args).run Tryz.prog W = .ok (.enter g args) W) (hp : ∀ x ∈ xs, PredI g cap p w x) :
    Calls Tryz.prog 35 #[.slice a xs.length c, .func (.func g) #[] cap] w fun e w' => e = .returned (.bool (xs.any p)) ∧ Kept w w' := by
  have H := Lib.hid (posF_any p xs)
  have hI := Lib.hid (IndexFunc_int g cap p a c xs w hl hX eg hp)
  clear hX hp eg
  go_enter Tryz.func35, Tryz.ntmps35
  go_wp2_with (first | (go_at_call 50; refine hI.out.mono ?_; rintro e w1 ⟨rfl, hk1⟩))
  go_ret
  exact ⟨ret_bool H.out, hk1⟩
end Go.Proofs.YtajbimmfkbgcpaaGreat
