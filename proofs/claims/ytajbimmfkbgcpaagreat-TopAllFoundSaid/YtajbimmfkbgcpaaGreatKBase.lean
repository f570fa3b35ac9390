/-
  WORDS FOR MEMORY, of no program: numbers, vectors, lists and nodes of a plane as they lie in cells; what 'Below' keeps of them.
  A REGION THAT DRAWS ITS ORDER AND WHOSE OPERATIONS LEAVE WHAT IS THERE ALONE (callees may lay blocks and draw), walked once in the order of the text, in the class of the worlds that have come of w by growth; and the same with a tail in one forced order. Of no program.
  cmp.Compare, cmp.Or, rank.order, rank.place, rank.Spot, tag.Has, vec.square, edges.Most.
  plane.There, plane.Live.
-/
import Derived.WalkKit
import Derived.WalkSpells
import Derived.WalkLawsBesides
import Derived.Lib.Hide
import Derived.Deep.Draws
import Derived.StillTail
import Derived.Deep.QuietTactic
import Derived.BigQuiet
import Derived.Deep.RegionWith
import Derived.Test.YtajbimmfkbgcpaaGreatRows
import Derived.Outline
/- WORDS FOR MEMORY, of no program: numbers, vectors, lists and nodes of a plane as they lie in cells; what 'Below' keeps of them. -/
namespace Go.Proofs.YtajbimmfkbgcpaaGreat
open Go.RowKit

/-- Numbers of a kind, one a cell, from an address on (of whatever address, where there are none). -/
def IntsAt (k : IntKind) (w : World) (a : Option Addr) (xs : List Int) : Prop :=
  ∀ i x, xs[i]? = some x → ∃ b o, a = some ⟨b, o, none⟩ ∧ b < w.heap.size ∧ w.cell? ⟨b, o + i, none⟩ = some (.int k x)

theorem lt_of_cell {w : World} {b o : Nat} {v : Value} (h : w.cell? ⟨b, o, none⟩ = some v) : b < w.heap.size := by
  rcases Nat.lt_or_ge b w.heap.size with h' | h'
  · exact h'
  · simp [World.cell?, Array.getElem?_eq_none h'] at h

theorem IntsAt.nil (k : IntKind) (w : World) (a : Option Addr) : IntsAt k w a [] := by
  intro i x h; simp at h
theorem IntsAt.keep {k : IntKind} {w w' : World} {a : Option Addr} {xs : List Int} (h : IntsAt k w a xs) (hb : Below w.heap.size w w') : IntsAt k w' a xs := by
  intro i x hx
  obtain ⟨b, o, ha, hlt, hc⟩ := h i x hx
  exact ⟨b, o, ha, Nat.lt_of_lt_of_le hlt hb.size, (hb.cell (p := ⟨b, o + i, none⟩) hlt).trans hc⟩
theorem IntsAt.at_ {k : IntKind} {w : World} {a : Option Addr} {xs : List Int} (h : IntsAt k w a xs) {i : Nat} (hi : i < xs.length) :
    ∃ b o, a = some ⟨b, o, none⟩ ∧ b < w.heap.size ∧ w.cell? ⟨b, o + i, none⟩ = some (.int k xs[i]) :=
  h i xs[i] (List.getElem?_eq_getElem hi)

/-- Lists of numbers: a slice value a cell. -/
def ListsAt (w : World) (a : Option Addr) (ls : List (List Int)) : Prop :=
  ∀ i l, ls[i]? = some l → ∃ b o la lc, a = some ⟨b, o, none⟩ ∧ b < w.heap.size ∧ w.cell? ⟨b, o + i, none⟩ = some (.slice la l.length lc) ∧ l.length ≤ lc ∧ IntsAt .i64 w la l
theorem ListsAt.keep {w w' : World} {a : Option Addr} {ls : List (List Int)} (h : ListsAt w a ls) (hb : Below w.heap.size w w') : ListsAt w' a ls := by
  intro i l hl
  obtain ⟨b, o, la, lc, ha, hlt, hc, hcap, hi⟩ := h i l hl
  exact ⟨b, o, la, lc, ha, Nat.lt_of_lt_of_le hlt hb.size, (hb.cell (p := ⟨b, o + i, none⟩) hlt).trans hc, hcap, hi.keep hb⟩

/-- A node, and where its vector and its lists lie. -/
structure Nd where
  id : Int
  va : Option Addr
  vc : Nat
  vec : List Int
  tags : Int
  level : Int
  la : Option Addr
  lc : Nat
  lists : List (List Int)
  next : Int
  prev : Int

def Nd.cells (n : Nd) : List Value := [.int .u64 n.id, .slice n.va n.vec.length n.vc, .int .u64 n.tags, .int .i64 n.level, .slice n.la n.lists.length n.lc, .int .i64 n.next, .int .i64 n.prev]

/-- The numbers of a node are such as their kinds hold. -/
structure Nd.Fits (n : Nd) : Prop where
  id0 : 0 ≤ n.id
  id1 : n.id ≤ 18446744073709551615
  tags0 : 0 ≤ n.tags
  tags1 : n.tags ≤ 18446744073709551615
  level0 : -9223372036854775808 ≤ n.level
  level1 : n.level ≤ 9223372036854775807
  next0 : -9223372036854775808 ≤ n.next
  next1 : n.next ≤ 9223372036854775807
  prev0 : -9223372036854775808 ≤ n.prev
  prev1 : n.prev ≤ 9223372036854775807
  veclen : n.vec.length ≤ 35184372088832
  veccap : n.vec.length ≤ n.vc
  vec : ∀ x ∈ n.vec, -2147483648 ≤ x ∧ x ≤ 2147483647
  listlen : n.lists.length ≤ 35184372088832
  listcap : n.lists.length ≤ n.lc
  listlens : ∀ l ∈ n.lists, l.length ≤ 35184372088832
  lists : ∀ l ∈ n.lists, ∀ x ∈ l, -9223372036854775808 ≤ x ∧ x ≤ 9223372036854775807

/-- Nodes, seven cells each. -/
def NodesAt (w : World) (a : Option Addr) (ns : List Nd) : Prop :=
  ∀ i n, ns[i]? = some n → ∃ b o, a = some ⟨b, o, none⟩ ∧ b < w.heap.size ∧ (∀ j v, n.cells[j]? = some v → w.cell? ⟨b, o + i * 7 + j, none⟩ = some v) ∧ IntsAt .i32 w n.va n.vec ∧ ListsAt w n.la n.lists ∧ n.Fits
theorem NodesAt.keep {w w' : World} {a : Option Addr} {ns : List Nd} (h : NodesAt w a ns) (hb : Below w.heap.size w w') : NodesAt w' a ns := by
  intro i n hn
  obtain ⟨b, o, ha, hlt, hc, hv, hl, hf⟩ := h i n hn
  exact ⟨b, o, ha, Nat.lt_of_lt_of_le hlt hb.size, fun j v hj => (hb.cell (p := ⟨b, o + i * 7 + j, none⟩) hlt).trans (hc j v hj), hv.keep hb, hl.keep hb, hf⟩

/-- What a call of a function without effects leaves: all that was there. -/
abbrev Kept (w w' : World) : Prop := Below w.heap.size w w'
theorem Kept.trans {a b c : World} (h : Kept a b) (k : Kept b c) : Kept a c := Below.trans h (Below.mono k h.size)
theorem Kept.rfl' (w : World) : Kept w w := Below.refl _ _

/-- What the tables say of a slice's type and of its elements'. -/
structure Elem (P : Program) (T e : TypeId) (z : Value) (size bytes : Nat) : Prop where
  under : P.underlying T = some (.slice e)
  info : (P.info? e).map (fun i => (i.zero, i.size, i.bytes)) = some (some z, size, bytes)
  zs : z.cells.size = size
  pos : 0 < size

theorem own_below {w w' : World} {base : Nat} {e : TypeId} {size n : Nat} {v : Value} {xs : List Value} (hown : w.ownsRow base e size v n xs) (hg : w.grownBy w' v.ownBlock) (hb : base ≤ w.heap.size) : Below base w w' :=
  (Below.refl base w).grown hg hb (fun k hk => (hown.lt k hk).1)
theorem own_weaken {w : World} {base base' : Nat} {e : TypeId} {size n : Nat} {v : Value} {xs : List Value} (h : w.ownsRow base e size v n xs) (hb : base' ≤ base) : w.ownsRow base' e size v n xs := by
  refine ⟨h.1, ?_⟩
  rcases h.2 with h2 | ⟨g, cap, cur, hv, hg, r⟩
  · exact .inl h2
  · exact .inr ⟨g, cap, cur, hv, Nat.le_trans hb hg, r⟩
theorem own_kept {w w' : World} {base : Nat} {e : TypeId} {size n : Nat} {v : Value} {xs : List Value} (h : w.ownsRow base e size v n xs) (hb : Kept w w') : w'.ownsRow base e size v n xs := by
  refine ⟨h.1, ?_⟩
  rcases h.2 with h2 | ⟨g, cap, cur, hv, hg, hh, r⟩
  · exact .inl h2
  · refine .inr ⟨g, cap, cur, hv, hg, ?_, r⟩
    rw [hb.block g (Array.getElem?_eq_some_iff.1 hh).1]
    exact hh
theorem cells_new (w : World) (arr : Array Value) (t : TypeId) : ∀ j u, arr.toList[j]? = some u → (w.alloc (.cells arr t)).cell? ((⟨w.heap.size, 0, none⟩ : Addr).add j) = some u := by
  intro j u hj
  have h0 : ((⟨w.heap.size, 0, none⟩ : Addr).add j) = ⟨w.heap.size, j, none⟩ := by
    unfold Addr.add; split
    · subst_vars; rfl
    · simp
  rw [h0]
  show (w.alloc _).cell? _ = _
  simp only [World.cell?, World.alloc]
  simp only [Array.getElem?_push_size]
  simpa using hj

/-- 'out = append(out, x)', x of however many cells, just laid in a block of its own. -/
theorem wpList_push {P : Program} {T e : TypeId} {z : Value} {size bytes : Nat} (E : Elem P T e z size bytes) {w : World} {ops : Array Oper} {rest : List Oper} {o : Oper} {a : Act} {Q : Exit → Act → World → Prop}
    (hgd : o.guard = none) (s x : Operand) (ho : o.op = .call { callee := .builtin .append, args := #[s, x], argTypes := #[T, T] })
    (base : Nat) (v : Value) (n : Nat) (xs : List Value) (arr : Array Value) (hs : a.eval s = v) (hx : a.eval x = .slice (some ⟨w.heap.size, 0, none⟩) 1 1)
    (hown : w.ownsRow base e size v n xs) (harr : arr.size = size) (h1 : ∀ u ∈ arr.toList, u.oneCell' = true)
    (h63 : n + 1 ≤ maxLen) (hbytes : (n + 1) * bytes ≤ 140737488355328) (hbase : base ≤ w.heap.size)
    (hK : ∀ v' w', w'.ownsRow base e size v' (n + 1) (xs ++ arr.toList) → Below base w w' → wpList P ops Q rest (a.put o.dst v') w') :
    wpList P ops Q (o :: rest) a (w.alloc (.cells arr e)) := by
  obtain ⟨i, hi, hz0, hz1, hz2⟩ := info_parts E.info
  have hb1 : Below base w (w.alloc (.cells arr e)) := (Below.refl base w).alloc hbase _
  refine wpList_append_own (w.alloc (.cells arr e)) hgd s x T ho base e i z size bytes E.under hi hz0 hz1 hz2 E.zs E.pos v n xs hs (hown.alloc _) ⟨w.heap.size, 0, none⟩ 1 1 arr.toList hx (by simp [harr]) (cells_new w arr e) h1 h63 hbytes (Nat.le_trans hbase hb1.size) ?_
  intro v' w' hown' hg _
  exact hK v' w' hown' (hb1.trans (own_below (hown.alloc _) hg (Nat.le_trans hbase hb1.size)))

/-- Numbers of a kind as values. -/
def ints (k : IntKind) (xs : List Int) : List Value := xs.map (.int k)
theorem ints_of_own {k : IntKind} {w : World} {base : Nat} {e : TypeId} {n : Nat} {v : Value} {xs : List Int} (h : w.ownsRow base e 1 v n (ints k xs)) : ∃ a c, v = .slice a xs.length c ∧ xs.length ≤ c ∧ IntsAt k w a xs := by
  have hl : xs.length = n := by have := h.1; simp [ints] at this; omega
  subst hl
  rcases h.2 with ⟨rfl, h0⟩ | ⟨g, cap, cur, rfl, hg, hh, hc, hm, hs, ht⟩
  · exact ⟨none, 0, by rw [h0], by omega, by intro i x hi; have : i < xs.length := (List.getElem?_eq_some_iff.1 hi).1; omega⟩
  · refine ⟨_, cap, rfl, hc, fun i x hi => ⟨g, 0, rfl, (Array.getElem?_eq_some_iff.1 hh).1, ?_⟩⟩
    have hi' : i < xs.length := (List.getElem?_eq_some_iff.1 hi).1
    have hx : (cur.toList.take (xs.length * 1))[i]? = some (.int k x) := by rw [ht, ints, List.getElem?_map, hi]; rfl
    rw [List.getElem?_take_of_lt (by omega)] at hx
    simp only [World.cell?, hh]
    simpa using hx
end Go.Proofs.YtajbimmfkbgcpaaGreat

/- A REGION THAT DRAWS ITS ORDER AND WHOSE OPERATIONS LEAVE WHAT IS THERE ALONE (callees may lay blocks and draw), walked once in the order of the text, in the class of the worlds that have come of w by growth; and the same with a tail in one forced order. Of no program. -/
namespace Go.Proofs.YtajbimmfkbgcpaaGreat
open Go.RowKit

/-- How far a world has come: its count of draws, the blocks behind. -/
structure Gr where
  d : Nat
  os : Array Obj
  deriving Inhabited
def gr (w : World) (d : Nat) (os : Array Obj) : World := { w with heap := w.heap ++ os, drawn := d }

theorem gr_block {w : World} {d : Nat} {os : Array Obj} {k : Nat} (h : k < w.heap.size) : (gr w d os).heap[k]? = w.heap[k]? := by
  unfold gr; simp only; rw [Array.getElem?_append_left h]
theorem gr_cell {w : World} {d : Nat} {os : Array Obj} {a : Addr} (h : a.block < w.heap.size) : (gr w d os).cell? a = w.cell? a := World.cell?_of_block (gr_block h)
theorem gr_frozen {w : World} {d : Nat} {os : Array Obj} {a : Addr} (h : a.block < w.heap.size) : (gr w d os).frozen? a = w.frozen? a := World.frozen?_of_block (gr_block h)
theorem gr_size (w : World) (d : Nat) (os : Array Obj) : (gr w d os).heap.size = w.heap.size + os.size := by unfold gr; simp
theorem gr_kept (w : World) (d : Nat) (os : Array Obj) : Kept w (gr w d os) :=
  ⟨rfl, rfl, rfl, by rw [gr_size]; omega, fun k hk => gr_block hk⟩
theorem kept_gr {w w' : World} (h : Kept w w') : ∃ p : Gr, w' = gr w p.d p.os := by
  refine ⟨⟨w'.drawn, w'.heap.extract w.heap.size w'.heap.size⟩, ?_⟩
  have hh : w'.heap = w.heap ++ w'.heap.extract w.heap.size w'.heap.size := by
    apply Array.ext_getElem?
    intro i
    rw [Array.getElem?_append]
    split
    · exact h.block i ‹_›
    · rename_i hi
      rw [Array.getElem?_extract]
      have hs := h.size
      rcases Nat.lt_or_ge i w'.heap.size with h1 | h1
      · rw [if_pos (by omega)]; congr 1; omega
      · rw [if_neg (by omega), Array.getElem?_eq_none h1]
  have e1 := h.os
  have e2 := h.tape
  have e3 := h.output
  obtain ⟨hp, tp, dr, o, out⟩ := w'
  simp only at *
  subst e1; subst e2; subst e3
  unfold gr
  simp only [World.mk.injEq, and_true]
  exact hh
theorem gr_gr (w : World) (d e : Nat) (os ps : Array Obj) : gr (gr w d os) e ps = gr w e (os ++ ps) := by unfold gr; simp [Array.append_assoc]
theorem gr_of_drew (w : World) : ({ w with drawn := w.drawn + 1 } : World) = gr w (w.drawn + 1) #[] := by unfold gr; simp
attribute [go_sem] gr_cell gr_size

/-- A callee's contract, met in a world of the class. -/
theorem Calls.kept_of {P : Program} {f : FuncId} {args : Array Value} {w : World} {d : Nat} {os : Array Obj} {v : Value}
    (h : Calls P f args (gr w d os) fun e w' => e = .returned v ∧ Kept (gr w d os) w') : Calls P f args (gr w d os) fun e w'' => e = .returned v ∧ ∃ p : Gr, w'' = gr w p.d p.os :=
  h.mono fun _ _ ⟨he, hk⟩ => ⟨he, by obtain ⟨p, rfl⟩ := kept_gr hk; exact ⟨⟨p.d, os ++ p.os⟩, gr_gr _ _ _ _ _⟩⟩

theorem wp_region_kept {P : Program} {id : Nat} {Q : Exit → Act → World → Prop} {a : Act} {w : World} {l : List Oper} (hm : P.follows .mixedOrders = true) (hB : Region.lexB .any l.toArray = true)
    (h : wpQuiet P l.toArray (fun w' => ∃ p : Gr, w' = gr w p.d p.os) (fun a' => ∀ w', (∃ p : Gr, w' = gr w p.d p.os) → Q .normal a' w') l a) : (Code.region id l.toArray true).wp P Q a w :=
  wp_region_quiet (C := fun w' => ∃ p : Gr, w' = gr w p.d p.os) hm hB ⟨⟨w.drawn + 1, #[]⟩, gr_of_drew w⟩ (by simpa using h)

section
variable {P : Program} {ops : Array Oper} {md : Region.Mode} {C : World → Prop}

def wpAnyT (P : Program) (md : Region.Mode) (ops : Array Oper) (C : World → Prop) (n : Nat) (L : Array Bool → Act → Prop) : Nat → Array Bool → Act → Prop
  | 0, listed, a => L listed a
  | f + 1, listed, a =>
    Region.ready md ops listed ≠ [] ∧ ∀ i ∈ Region.ready md ops listed, i < n ∧ qOp P ops C i (wpAnyT P md ops C n L f (listed.setIfInBounds i true)) a

theorem wpAny_of_headT {n g : Nat} {L : Array Bool → Act → Prop} {Q' : Exit → Act → World → Prop} (hL : ∀ listed a w, C w → L listed a → wpAny P md ops Q' g listed a w) :
    ∀ (f : Nat) (listed : Array Bool) (a : Act) (w : World), C w → wpAnyT P md ops C n L f listed a → wpAny P md ops Q' (f + g) listed a w
  | 0, listed, a, w, hw, h => by rw [Nat.zero_add]; exact hL _ _ _ hw h
  | f + 1, listed, a, w, hw, h => by
    rw [show f + 1 + g = (f + g) + 1 by omega]
    exact ⟨fun h0 => absurd h0 h.1, fun i hi => wpOp_of_qOp hw (fun a' w' hw' h' => wpAny_of_headT hL f _ a' w' hw' h') (h.2 i hi).2⟩

theorem wpAnyT_first {n i : Nat} {oi : Oper} {v : Value} {L : Array Bool → Act → Prop} (hi : ops[i]? = some oi) (hsel : ∀ (j : Nat) (o : Oper) cs b, ops[j]? = some o → o.op ≠ .select cs b)
    (hs : Region.sinkB md ops n = true) (hc : Region.chainB md ops n = true) (hn : n < ops.size) (hin : i < n)
    (hdone : ∀ listed a, L listed a → ∀ j ∈ Region.ready md ops listed, n ≤ j) :
    ∀ (f : Nat) (listed : Array Bool) (a : Act), HeadInv md ops n listed →
      (∀ j oj, ops[j]? = some oj → j ≠ i → listed.getD j true = false → (∀ e ∈ oj.after, Region.binds md e = true → e.on ≠ i) → oi.apart ops oj = true) →
      i ∈ Region.ready md ops listed → YieldsIn P ops C oi v a →
      wpAnyT P md ops C n L f (listed.setIfInBounds i true) (a.put oi.dst v) → wpAnyT P md ops C n L (f + 1) listed a := by
  intro f
  induction f with
  | zero =>
    intro listed a inv _ hr hy H
    have hun := (mem_ready.1 hr).1
    refine ⟨fun h => (by rw [h] at hr; cases hr), fun j hj => ?_⟩
    have hjn : j < n := by
      rcases Nat.lt_or_ge j n with h | h
      · exact h
      · exact absurd hj (tail_waits hs hc hn inv _ i rfl hin hun j h)
    refine ⟨hjn, ?_⟩
    by_cases hji : j = i
    · subst hji; exact hy.qOp hi H
    · have := hdone _ _ H j (ready_mono hj hji)
      omega
  | succ f ih =>
    intro listed a inv hfree hr hy H
    have hun := (mem_ready.1 hr).1
    refine ⟨fun h => (by rw [h] at hr; cases hr), fun j hj => ?_⟩
    have hjn : j < n := by
      rcases Nat.lt_or_ge j n with h | h
      · exact h
      · exact absurd hj (tail_waits hs hc hn inv _ i rfl hin hun j h)
    refine ⟨hjn, ?_⟩
    by_cases hji : j = i
    · subst hji; exact hy.qOp hi H
    · have h1 := (H.2 j (ready_mono hj hji)).2
      obtain ⟨hjun, oj, hoj, hall⟩ := mem_ready.1 hj
      have hnot : ∀ e ∈ oj.after, Region.binds md e = true → e.on ≠ i := fun e he hb heq => by
        have h1 := hall e he hb
        rw [heq, getD_both hun] at h1
        cases h1
      have h2 := qOp_put hoj (hfree j oj hoj hji hjun hnot) (fun cs b => hsel i oi cs b hi) (fun cs b => hsel j oj cs b hoj) hy h1
      have hfree' : ∀ k ok, ops[k]? = some ok → k ≠ i → (listed.setIfInBounds j true).getD k true = false →
          (∀ e ∈ ok.after, Region.binds md e = true → e.on ≠ i) → oi.apart ops ok = true := fun k ok hk hki hun hno => by
        refine hfree k ok hk hki ?_ hno
        by_cases hjk : j = k
        · subst hjk; exact hjun
        · rw [getD_set_ne true hjk] at hun; exact hun
      refine qOp_mono (fun a' h3 => ih (listed.setIfInBounds j true) a' (inv.set hj hjn) hfree' (ready_mono hr (Ne.symm hji)) h3.1 ?_) h2
      rw [Array.setIfInBounds_comm _ _ hji]
      exact h3.2

theorem wpAnyT_lex {n g : Nat} {Lq : Act → Prop} (hsel : Region.noSelect ops = true) (hs : Region.sinkB md ops n = true) (hc : Region.chainB md ops n = true) (hn : n < ops.size) :
    ∀ (l : List Oper) (k : Nat) (listed : Array Bool) (a : Act), (∀ j, j < l.length → l[j]? = ops[k + j]?) → k + l.length = n → HeadInv md ops n listed →
    Region.lexHead md ops g l.length k listed = true → wpQuiet P ops C Lq l a →
    wpAnyT P md ops C n (fun listed' a' => Region.seqB md ops g n listed' = true ∧ Lq a') l.length listed a
  | [], k, listed, a, _, hk, _, hB, h => by
    have : k = n := by simpa using hk
    subst this
    exact ⟨by simpa [Region.lexHead] using hB, h⟩
  | o :: l, k, listed, a, hl, hk, inv, hB, h => by
    have h0 : ops[k]? = some o := by simpa using (hl 0 (by simp)).symm
    simp only [List.length_cons, Region.lexHead, Bool.and_eq_true] at hB
    obtain ⟨⟨hr, hf⟩, hB'⟩ := hB
    have hkn : k < n := by simp only [List.length_cons] at hk; omega
    have hr' : k ∈ Region.ready md ops listed := by simpa using hr
    have hst : qOp P ops C k (wpQuiet P ops C Lq l) a := by unfold qOp; simp only [h0]; exact h
    obtain ⟨v, hy, hK⟩ := yieldsIn_of_qOp h0 hst
    exact wpAnyT_first h0 (Region.noSelect_spec hsel) hs hc hn hkn (fun listed' a' hL => seqB_ready hL.1) l.length listed a inv (Region.free_spec h0 hf) hr' hy
      (wpAnyT_lex hsel hs hc hn l (k + 1) _ _ (fun j hj => by have := hl (j + 1) (by simp; omega); simpa [Nat.add_assoc, Nat.add_comm 1 j] using this) (by simp only [List.length_cons] at hk; omega) (inv.set hr' hkn) hB' hK)

/-- The first n operations in any order, each with one value in every world of the class; the others behind them, in their one order. -/
theorem wp_region_tail_C {id : Nat} {Q : Exit → Act → World → Prop} {a : Act} {w : World} {l : List Oper} (n : Nat) (hm : P.follows .mixedOrders = true) (hB : Region.lexTailB .any l.toArray n = true) (hC : C { w with drawn := w.drawn + 1 })
    (h : wpQuiet P l.toArray C (fun a' => ∀ w', C w' → wpList P l.toArray Q (l.drop n) a' w') (l.take n) a) : (Code.region id l.toArray true).wp P Q a w := by
  simp only [Region.lexTailB, Bool.and_eq_true, decide_eq_true_eq] at hB
  obtain ⟨⟨⟨⟨hsel, hn⟩, hs⟩, hc⟩, hlex⟩ := hB
  have hn' : n < l.length := by simpa using hn
  have htl : (l.take n).length = n := by simp; omega
  have hdl : (l.drop n).length = l.toArray.size - n := by simp
  have inv0 : HeadInv .any l.toArray n (Array.replicate l.toArray.size false) :=
    ⟨by simp, fun j oj _ hl => (by rw [getD_replicate_false] at hl; cases hl), fun t _ ht => getD_in (by simpa using ht) (getD_replicate_false _ _)⟩
  have H := wpAnyT_lex (md := .any) (g := l.toArray.size - n) hsel hs hc hn (l.take n) 0 _ a (fun j hj => by
    have hj' : j < n := by rw [htl] at hj; exact hj
    simp [hj']) (by simpa using htl) inv0 (by rw [htl]; exact hlex) h
  refine wp_region_any hm ?_
  have := wpAny_of_headT (Q' := Q) (g := l.toArray.size - n) (fun listed a' w' hw' hL => by
    have := wpAny_of_seq (md := .any) (Q' := Q) (l.drop n) n listed a' w' (fun j => by simp [List.getElem?_drop]) (by rw [hdl]; exact hL.1) (hL.2 w' hw')
    rwa [hdl] at this) _ _ _ _ hC H
  rw [htl, show n + (l.toArray.size - n) = l.toArray.size by omega] at this
  exact this
end

theorem wp_region_kept_tail {P : Program} {id : Nat} {Q : Exit → Act → World → Prop} {a : Act} {w : World} {l : List Oper} (n : Nat) (hm : P.follows .mixedOrders = true) (hB : Region.lexTailB .any l.toArray n = true)
    (h : wpQuiet P l.toArray (fun w' => ∃ p : Gr, w' = gr w p.d p.os) (fun a' => ∀ w', (∃ p : Gr, w' = gr w p.d p.os) → wpList P l.toArray Q (l.drop n) a' w') (l.take n) a) : (Code.region id l.toArray true).wp P Q a w :=
  wp_region_tail_C (C := fun w' => ∃ p : Gr, w' = gr w p.d p.os) n hm hB ⟨⟨w.drawn + 1, #[]⟩, gr_of_drew w⟩ h
end Go.Proofs.YtajbimmfkbgcpaaGreat

/- cmp.Compare, cmp.Or, rank.order, rank.place, rank.Spot, tag.Has, vec.square, edges.Most. -/
namespace Go.Proofs.YtajbimmfkbgcpaaGreat
open Go.RowKit

theorem ret_int {k : IntKind} {a b : Int} (h : a = b) : Ending.returned (.int k a) = Ending.returned (.int k b) := by rw [h]
theorem ret_bool {a b : Bool} (h : a = b) : Ending.returned (.bool a) = Ending.returned (.bool b) := by rw [h]

theorem isNaN_int (x : Int) (w : World) : Calls Tryz.prog 90 #[.int .i64 x] w fun e w' => e = .returned (.bool false) ∧ w = w' := by
  go_enter Tryz.func90, Tryz.ntmps90
  go_wp2
  go_ret
  exact ⟨ret_bool (by simp), rfl⟩
theorem isNaN_u64 (x : Int) (w : World) : Calls Tryz.prog 103 #[.int .u64 x] w fun e w' => e = .returned (.bool false) ∧ w = w' := by
  go_enter Tryz.func103, Tryz.ntmps103
  go_wp2
  go_ret
  exact ⟨ret_bool (by simp), rfl⟩

def cmpI (x y : Int) : Int := if x < y then -1 else if y < x then 1 else 0
def orI (x y : Int) : Int := if x = 0 then y else x

theorem cmp_lt {x y : Int} (h : x < y) : -1 = cmpI x y := by simp [cmpI, h]
theorem cmp_gt {x y : Int} (h : y < x) : 1 = cmpI x y := by unfold cmpI; rw [if_neg (by omega), if_pos h]
theorem cmp_eq {x y : Int} (h : ¬ x < y) (h' : ¬ y < x) : 0 = cmpI x y := by simp [cmpI, h, h']

theorem Compare_int (x y : Int) (w : World) : Calls Tryz.prog 69 #[.int .i64 x, .int .i64 y] w fun e w' => e = .returned (.int .i64 (cmpI x y)) ∧ w = w' := by
  rcases Int.lt_trichotomy x y with h | h | h
  · have H := Lib.hid (cmp_lt h)
    go_enter Tryz.func69, Tryz.ntmps69
    go_wp2_with (first | (go_at_call 90; refine (isNaN_int _ _).mono ?_; rintro e w' ⟨rfl, rfl⟩))
    go_ret
    exact ⟨ret_int H.out, rfl⟩
  · have h1 : ¬ x < y := by omega
    have h2 : ¬ y < x := by omega
    have H := Lib.hid (cmp_eq h1 h2)
    clear h
    go_enter Tryz.func69, Tryz.ntmps69
    go_wp2_with (first | (go_at_call 90; refine (isNaN_int _ _).mono ?_; rintro e w' ⟨rfl, rfl⟩))
    go_ret
    exact ⟨ret_int H.out, rfl⟩
  · have H := Lib.hid (cmp_gt h)
    have h1 : ¬ x < y := by omega
    go_enter Tryz.func69, Tryz.ntmps69
    go_wp2_with (first | (go_at_call 90; refine (isNaN_int _ _).mono ?_; rintro e w' ⟨rfl, rfl⟩))
    go_ret
    exact ⟨ret_int H.out, rfl⟩

theorem Compare_u64 (x y : Int) (w : World) : Calls Tryz.prog 89 #[.int .u64 x, .int .u64 y] w fun e w' => e = .returned (.int .i64 (cmpI x y)) ∧ w = w' := by
  rcases Int.lt_trichotomy x y with h | h | h
  · have H := Lib.hid (cmp_lt h)
    go_enter Tryz.func89, Tryz.ntmps89
    go_wp2_with (first | (go_at_call 103; refine (isNaN_u64 _ _).mono ?_; rintro e w' ⟨rfl, rfl⟩))
    go_ret
    exact ⟨ret_int H.out, rfl⟩
  · have h1 : ¬ x < y := by omega
    have h2 : ¬ y < x := by omega
    have H := Lib.hid (cmp_eq h1 h2)
    clear h
    go_enter Tryz.func89, Tryz.ntmps89
    go_wp2_with (first | (go_at_call 103; refine (isNaN_u64 _ _).mono ?_; rintro e w' ⟨rfl, rfl⟩))
    go_ret
    exact ⟨ret_int H.out, rfl⟩
  · have H := Lib.hid (cmp_gt h)
    have h1 : ¬ x < y := by omega
    go_enter Tryz.func89, Tryz.ntmps89
    go_wp2_with (first | (go_at_call 103; refine (isNaN_u64 _ _).mono ?_; rintro e w' ⟨rfl, rfl⟩))
    go_ret
    exact ⟨ret_int H.out, rfl⟩

theorem or_1 {x y : Int} (h : x ≠ 0) : x = orI x y := by simp [orI, h]
theorem or_2 {x y : Int} (h : x = 0) : y = orI x y := by simp [orI, h]
theorem or_3 {x y : Int} (h : x = 0) (h' : y = 0) : 0 = orI x y := by simp [orI, h, h']

set_option maxRecDepth 100000 in
set_option maxHeartbeats 400000 in
theorem Or_two (b : Nat) (x y : Int) (w : World) (h0 : w.cell? ⟨b, 0, none⟩ = some (.int .i64 x)) (h1 : w.cell? ⟨b, 1, none⟩ = some (.int .i64 y)) :
    Calls Tryz.prog 67 #[.slice (some ⟨b, 0, none⟩) 2 2] w fun e w' => e = .returned (.int .i64 (orI x y)) ∧ w = w' := by
  by_cases hx : x = 0
  · by_cases hy : y = 0
    · have H := Lib.hid (or_3 hx hy)
      subst hx; subst hy
      go_enter Tryz.func67, Tryz.ntmps67
      go_wp2_with fail
      refine wp_loop_rounds 3 ?_
      rw [rounds_succ]
      go_wp2
      rw [rounds_succ]
      go_wp2
      rw [rounds_succ]
      go_wp2
      go_ret
      exact ⟨ret_int H.out, rfl⟩
    · have H := Lib.hid (or_2 (y := y) hx)
      subst hx
      have hy' : (y == 0) = false := by simpa using hy
      go_enter Tryz.func67, Tryz.ntmps67
      go_wp2_with fail
      refine wp_loop_rounds 3 ?_
      rw [rounds_succ]
      go_wp2
      rw [rounds_succ]
      go_wp2
      go_ret
      exact ⟨ret_int H.out, rfl⟩
  · have H := Lib.hid (or_1 (y := y) hx)
    have hx' : (x == 0) = false := by simpa using hx
    go_enter Tryz.func67, Tryz.ntmps67
    go_wp2_with fail
    refine wp_loop_rounds 3 ?_
    rw [rounds_succ]
    go_wp2
    go_ret
    exact ⟨ret_int H.out, rfl⟩

/-- How two hits stand: below 0, if the first one is ahead. -/
def ordI (d1 i1 d2 i2 : Int) : Int := orI (cmpI d1 d2) (cmpI i1 i2)
def plcI (d1 i1 s1 d2 i2 s2 : Int) : Int := orI (ordI d1 i1 d2 i2) (cmpI s1 s2)

set_option maxRecDepth 100000 in
set_option maxHeartbeats 400000 in
theorem order_any (d1 i1 d2 i2 : Int) (w : World) : Calls Tryz.prog 68 #[.agg #[.int .u64 d1, .int .u64 i1], .agg #[.int .u64 d2, .int .u64 i2]] w fun e w' => e = .returned (.int .i64 (ordI d1 i1 d2 i2)) ∧ Kept w w' := by
  unfold ordI
  generalize hx : cmpI d1 d2 = x
  generalize hy : cmpI i1 i2 = y
  have c1 : ∀ W : World, Calls Tryz.prog 89 #[.int .u64 d1, .int .u64 d2] W fun e w' => e = .returned (.int .i64 x) ∧ w' = W := fun W => (Compare_u64 d1 d2 W).mono fun e w' h => ⟨by rw [← hx]; exact h.1, h.2.symm⟩
  have c2 : ∀ W : World, Calls Tryz.prog 89 #[.int .u64 i1, .int .u64 i2] W fun e w' => e = .returned (.int .i64 y) ∧ w' = W := fun W => (Compare_u64 i1 i2 W).mono fun e w' h => ⟨by rw [← hy]; exact h.1, h.2.symm⟩
  clear hx hy
  have C1 := Lib.hid c1; clear c1
  have C2 := Lib.hid c2; clear c2
  go_enter Tryz.func68, Tryz.ntmps68
  go_wp2_with fail
  refine wp_region_kept_tail 10 (by kernel_rfl) (by kernel_rfl) ?_
  simp only [List.take_succ_cons, List.take_zero, List.drop_succ_cons, List.drop_zero]
  repeat (quiet_step (first | (go_at_call_of 89 (Value.int .u64 d1); refine Calls.kept_of ((C1.out _).mono fun _ _ h => ⟨h.1, h.2 ▸ Kept.rfl' _⟩)) | (go_at_call_of 89 (Value.int .u64 i1); refine Calls.kept_of ((C2.out _).mono fun _ _ h => ⟨h.1, h.2 ▸ Kept.rfl' _⟩))))
  refine wpQuiet_nil ?_
  intro w1 hw1
  have hk1 : Kept ((w.alloc (.cells #[.int .u64 d1, .int .u64 i1] 42)).alloc (.cells #[.int .u64 d2, .int .u64 i2] 42)) w1 := by obtain ⟨p, rfl⟩ := hw1; exact gr_kept _ _ _
  clear hw1
  go_wp2_with (first | (go_at_call 67; refine (Or_two _ x y _ (by simp) (by simp)).mono ?_; rintro e w' ⟨rfl, rfl⟩))
  go_ret
  exact ⟨rfl, ((((Kept.rfl' w).alloc (Nat.le_refl _) _).alloc (by simp) _).trans (hk1.mono (by simp; omega))).alloc (by have := hk1.size; simp at this; omega) _⟩

set_option maxRecDepth 100000 in
set_option maxHeartbeats 400000 in
theorem place_any (d1 i1 s1 d2 i2 s2 : Int) (w : World) : Calls Tryz.prog 55 #[.agg #[.int .u64 d1, .int .u64 i1, .int .i64 s1], .agg #[.int .u64 d2, .int .u64 i2, .int .i64 s2]] w fun e w' => e = .returned (.int .i64 (plcI d1 i1 s1 d2 i2 s2)) ∧ Kept w w' := by
  unfold plcI
  generalize hx : ordI d1 i1 d2 i2 = x
  generalize hy : cmpI s1 s2 = y
  have c1 : ∀ W : World, Calls Tryz.prog 68 #[.agg #[.int .u64 d1, .int .u64 i1], .agg #[.int .u64 d2, .int .u64 i2]] W fun e w' => e = .returned (.int .i64 x) ∧ Kept W w' := fun W => (order_any d1 i1 d2 i2 W).mono fun e w' h => ⟨by rw [← hx]; exact h.1, h.2⟩
  have c2 : ∀ W : World, Calls Tryz.prog 69 #[.int .i64 s1, .int .i64 s2] W fun e w' => e = .returned (.int .i64 y) ∧ Kept W w' := fun W => (Compare_int s1 s2 W).mono fun e w' h => ⟨by rw [← hy]; exact h.1, h.2 ▸ Kept.rfl' _⟩
  clear hx hy
  have C1 := Lib.hid c1; clear c1
  have C2 := Lib.hid c2; clear c2
  go_enter Tryz.func55, Tryz.ntmps55
  go_wp2_with fail
  refine wp_region_kept_tail 10 (by kernel_rfl) (by kernel_rfl) ?_
  simp only [List.take_succ_cons, List.take_zero, List.drop_succ_cons, List.drop_zero]
  repeat (quiet_step (first | (go_at_call 68; exact Calls.kept_of (C1.out _)) | (go_at_call 69; exact Calls.kept_of (C2.out _))))
  refine wpQuiet_nil ?_
  intro w1 hw1
  have hk1 : Kept ((w.alloc (.cells #[.int .u64 d1, .int .u64 i1, .int .i64 s1] 60)).alloc (.cells #[.int .u64 d2, .int .u64 i2, .int .i64 s2] 60)) w1 := by obtain ⟨p, rfl⟩ := hw1; exact gr_kept _ _ _
  clear hw1
  go_wp2_with (first | (go_at_call 67; refine (Or_two _ x y _ (by simp) (by simp)).mono ?_; rintro e w' ⟨rfl, rfl⟩))
  go_ret
  exact ⟨rfl, ((((Kept.rfl' w).alloc (Nat.le_refl _) _).alloc (by simp) _).trans (hk1.mono (by simp; omega))).alloc (by have := hk1.size; simp at this; omega) _⟩

/-- Whether a spot is ahead of another one. -/
def plcB (d1 i1 s1 d2 i2 s2 : Int) : Bool := decide (plcI d1 i1 s1 d2 i2 s2 < 0)

set_option maxRecDepth 100000 in
set_option maxHeartbeats 400000 in
theorem Spot_any (d1 i1 s1 d2 i2 s2 : Int) (w : World) : Calls Tryz.prog 91 #[.agg #[.int .u64 d1, .int .u64 i1, .int .i64 s1], .agg #[.int .u64 d2, .int .u64 i2, .int .i64 s2]] w fun e w' => e = .returned (.bool (plcB d1 i1 s1 d2 i2 s2)) ∧ Kept w w' := by
  go_enter Tryz.func91, Tryz.ntmps91
  go_wp2_with (first | (go_at_call 55; refine (place_any d1 i1 s1 d2 i2 s2 _).mono ?_; rintro e w1 ⟨rfl, hk1⟩))
  go_ret
  exact ⟨rfl, (((Kept.rfl' w).alloc (Nat.le_refl _) _).alloc (by simp) _).trans (hk1.mono (by simp; omega))⟩

/-- Whether all bits of a mask are among some. -/
def hasB (tags mask : Int) : Bool := bits .andNot .u64 mask tags == 0
theorem tagHas_any (tags mask : Int) (w : World) : Calls Tryz.prog 38 #[.int .u64 tags, .int .u64 mask] w fun e w' => e = .returned (.bool (hasB tags mask)) ∧ w = w' := by
  go_enter Tryz.func38, Tryz.ntmps38
  go_wp2
  go_ret
  exact ⟨rfl, rfl⟩

/-- What two components differ by, times itself, in 64 bits. -/
def sqr (x y : Int) : Int := IntKind.u64.wrap (IntKind.u64.wrap (x - y) * IntKind.u64.wrap (x - y))
theorem square_any (x y : Int) (w : World) (hx0 : -2147483648 ≤ x) (hx1 : x ≤ 2147483647) (hy0 : -2147483648 ≤ y) (hy1 : y ≤ 2147483647) : Calls Tryz.prog 52 #[.int .i32 x, .int .i32 y] w fun e w' => e = .returned (.int .u64 (sqr x y)) ∧ w = w' := by
  go_enter Tryz.func52, Tryz.ntmps52
  go_wp2
  go_ret
  exact ⟨rfl, rfl⟩
end Go.Proofs.YtajbimmfkbgcpaaGreat

/- plane.There, plane.Live. -/
namespace Go.Proofs.YtajbimmfkbgcpaaGreat
open Go.RowKit

/-- Whether a slot is there. -/
def there (ns : List Nd) (s : Int) : Bool := decide (0 < s) && (match ns[s.toNat]? with | some n => decide (0 ≤ n.next) | none => false)

abbrev PlaneV (a : Option Addr) (len cap : Nat) (en tp : Int) : Value := .agg #[.slice a len cap, .int .i64 en, .int .i64 tp]

theorem there_no {ns : List Nd} {s : Int} (h : ¬ 0 < s) : there ns s = false := by simp [there, h]
theorem there_far {ns : List Nd} {s : Int} (h : ¬ s < ns.length) : there ns s = false := by
  unfold there
  rw [List.getElem?_eq_none (by omega)]
  simp
theorem there_in {ns : List Nd} {s : Nat} {n : Nd} (h0 : 0 < s) (hn : ns[s]? = some n) : there ns (s : Int) = decide (0 ≤ n.next) := by
  unfold there
  simp [hn, h0]

set_option maxHeartbeats 400000 in
theorem There_any (a : Option Addr) (ns : List Nd) (cap : Nat) (en tp s : Int) (w : World) (hN : NodesAt w a ns) :
    Calls Tryz.prog 17 #[PlaneV a ns.length cap en tp, .int .i64 s] w fun e w' => e = .returned (.bool (there ns s)) ∧ Kept w w' := by
  by_cases hs : 0 < s
  · by_cases hl : s < ns.length
    · obtain ⟨k, rfl⟩ := Int.eq_ofNat_of_zero_le (Int.le_of_lt hs)
      obtain ⟨n, hn⟩ : ∃ n, ns[k]? = some n := ⟨ns[k]'(by omega), List.getElem?_eq_getElem (by omega)⟩
      obtain ⟨b, o, rfl, hlt, hc, -, -, -⟩ := hN k n hn
      have hc5 := hc 5 (.int .i64 n.next) rfl
      have hfin := Lib.hid (there_in (by omega) hn)
      clear hN hn hc
      generalize ns.length = len at *
      go_enter Tryz.func17, Tryz.ntmps17
      go_wp2
      go_ret
      exact ⟨by rw [hfin.out]; simp, (Kept.rfl' w).alloc (Nat.le_refl _) _⟩
    · have hfin := Lib.hid (there_far hl)
      clear hN
      generalize ns.length = len at *
      go_enter Tryz.func17, Tryz.ntmps17
      go_wp2
      go_ret
      exact ⟨by rw [hfin.out]; rfl, (Kept.rfl' w).alloc (Nat.le_refl _) _⟩
  · have hfin := Lib.hid (there_no (ns := ns) hs)
    clear hN
    generalize ns.length = len at *
    go_enter Tryz.func17, Tryz.ntmps17
    go_wp2
    go_ret
    exact ⟨by rw [hfin.out]; rfl, (Kept.rfl' w).alloc (Nat.le_refl _) _⟩

theorem Tryz.elemInt : Elem Tryz.prog 47 3 (.int .i64 0) 1 8 := ⟨Tryz.underlying47, by kernel_rfl, rfl, by omega⟩

/-- The slots that are there, of the first k. -/
def liveTo (ns : List Nd) (k : Nat) : List Nat := (List.range k).filter fun i => there ns i
def live (ns : List Nd) : List Nat := liveTo ns ns.length
theorem liveTo_succ (ns : List Nd) (k : Nat) : liveTo ns (k + 1) = liveTo ns k ++ (if there ns (k : Int) then [k] else []) := by
  simp [liveTo, List.range_succ, List.filter_append, List.filter_cons]
theorem liveTo_len (ns : List Nd) (k : Nat) : (liveTo ns k).length ≤ k := by
  have := List.length_filter_le (fun i : Nat => there ns i) (List.range k)
  simpa [liveTo] using this
def nats (l : List Nat) : List Int := l.map fun (n : Nat) => (n : Int)
theorem ints_snoc (k : IntKind) (xs : List Int) (x : Int) : ints k (xs ++ [x]) = ints k xs ++ [.int k x] := by simp [ints]
theorem nats_snoc (l : List Nat) (n : Nat) : nats (l ++ [n]) = nats l ++ [(n : Int)] := by simp [nats]

set_option maxHeartbeats 400000 in
set_option maxRecDepth 100000 in
theorem Live_any (a : Option Addr) (ns : List Nd) (cap : Nat) (en tp : Int) (w : World) (hm : ns.length ≤ 4398046511104) (hN : NodesAt w a ns) :
    Calls Tryz.prog 15 #[PlaneV a ns.length cap en tp] w fun e w' => ∃ v, e = .returned v ∧ w'.ownsRow w.heap.size 3 1 v (live ns).length (ints .i64 (nats (live ns))) ∧ Kept w w' := by
  go_enter Tryz.func15, Tryz.ntmps15
  go_wp2_with fail
  have hN1 := hN.keep (Below.alloc (Below.refl _ w) (Nat.le_refl _) (.cells #[.slice a ns.length cap, .int .i64 en, .int .i64 tp] 24))
  go_loopw [3, 8] (fun v i wr => ∃ k : Nat, k ≤ ns.length ∧ i = .int .i64 (k : Int) ∧ wr.ownsRow (w.heap.size + 1) 3 1 v (liveTo ns k).length (ints .i64 (nats (liveTo ns k))) ∧ Below (w.heap.size + 1) (w.alloc (.cells #[.slice a ns.length cap, .int .i64 en, .int .i64 tp] 24)) wr)
    (fun _ i _ => ns.length - (intOf i).toNat)
  case atStart => exact ⟨0, Nat.zero_le _, rfl, World.ownsRow_nil _ _ _ _, Below.refl _ _⟩
  case round =>
    obtain ⟨k, hk, rfl, hown, hb⟩ := hrel
    have hbox : wr.cell? ⟨w.heap.size, 0, none⟩ = some (.slice a ns.length cap) := (hb.cell (p := ⟨w.heap.size, 0, none⟩) (by simp)).trans (by simp)
    have hbox1 : wr.cell? ⟨w.heap.size, 1, none⟩ = some (.int .i64 en) := (hb.cell (p := ⟨w.heap.size, 1, none⟩) (by simp)).trans (by simp)
    have hbox2 : wr.cell? ⟨w.heap.size, 2, none⟩ = some (.int .i64 tp) := (hb.cell (p := ⟨w.heap.size, 2, none⟩) (by simp)).trans (by simp)
    have hNr : Hid (NodesAt wr a ns) := hN1.keep (hb.mono (by simp))
    have hll := liveTo_len ns k
    clear hN hN1
    have hs := liveTo_succ ns k
    have Hs := Lib.hid hs
    clear hs
    by_cases hlt : k < ns.length
    · go_wp2_with (first
        | (go_at_call 17; refine (There_any a ns cap en tp k wr hNr.out).mono ?_; rintro e w1 ⟨rfl, hw1⟩)
        | (at_builtin; refine wpList_push Tryz.elemInt rfl _ _ rfl (w.heap.size + 1) _ _ _ #[.int .i64 (k : Int)] rfl rfl (own_kept hown hw1) rfl ?c1 ?c2 ?c3 ?c4 ?_))
      case c1 => simp [Value.oneCell']
      case c2 => unfold maxLen; omega
      case c3 => omega
      case c4 => have := hb.size; have := hw1.size; simp at *; omega
      · intro v' w2 hown2 hb2
        have ht : there ns k = true := by assumption
        have R : w2.ownsRow (w.heap.size + 1) 3 1 v' (liveTo ns (k + 1)).length (ints .i64 (nats (liveTo ns (k + 1)))) := by
          rw [Hs.out, if_pos ht, List.length_append, nats_snoc, ints_snoc]; exact hown2
        have hb3 := (hb.trans (hw1.mono (by have := hb.size; simp at this; omega))).trans hb2
        clear hown2 hb2 hown hb
        go_wp2
        go_roundw
        case rel => exact ⟨k + 1, by omega, by go_num, R, hb3⟩
        case measure => simp [intOf]; omega
      · have ht : there ns k = false := by assumption
        go_roundw
        case rel =>
          refine ⟨k + 1, by omega, by go_num, ?_, hb.trans (hw1.mono (by have := hb.size; simp at this; omega))⟩
          rw [Hs.out, ht]
          simpa using own_kept hown hw1
        case measure => simp [intOf]; omega
    · obtain rfl : k = ns.length := by omega
      go_wp2
      go_ret
      exact ⟨u3, rfl, own_weaken hown (by omega), ((Below.refl _ w).alloc (Nat.le_refl _) _).trans (hb.mono (by omega))⟩
end Go.Proofs.YtajbimmfkbgcpaaGreat
