/-
  walk.Spot.
  What plane.Near holds; walk.Step.
  walk.Step.
  walk.Level, walk.Down.
-/
import Derived.Test.YtajbimmfkbgcpaaGreatKSort
import Derived.Test.YtajbimmfkbgcpaaGreatKNear
import Derived.Test.YtajbimmfkbgcpaaGreatKMaps
/- walk.Spot. -/
namespace Go.Proofs.YtajbimmfkbgcpaaGreat
open Go.RowKit

/-- A slot's spot, for a vector. -/
def spOf (q : List Int) (n : Nd) (k : Nat) : Sp := ⟨dist q n.vec, n.id, k⟩

set_option maxRecDepth 100000 in
set_option maxHeartbeats 1000000 in
theorem WSpot_any (a : Option Addr) (ns : List Nd) (cap : Nat) (en tp : Int) (aq : Option Addr) (cq : Nat) (q : List Int) (k : Nat) (n : Nd) (w : World) (hN : NodesAt w a ns) (hn : ns[k]? = some n) (hq : IntsAt .i32 w aq q) (iq : I32s q) (hql : q.length ≤ 35184372088832) :
    Calls Tryz.prog 104 #[PlaneV a ns.length cap en tp, .slice aq q.length cq, .int .i64 (k : Int)] w fun e w' => e = .returned (.agg #[.int .u64 (dist q n.vec), .int .u64 n.id, .int .i64 (k : Int)]) ∧ Kept w w' := by
  obtain ⟨b, o, rfl, hlt, hc, hv, -, hf⟩ := hN k n hn
  have hkl : k < ns.length := (List.getElem?_eq_some_iff.1 hn).1
  have q0 : w.cell? ⟨b, o + k * 7, none⟩ = some (.int .u64 n.id) := hc 0 _ rfl
  have q1 : w.cell? ⟨b, o + k * 7 + 1, none⟩ = some (.slice n.va n.vec.length n.vc) := hc 1 _ rfl
  have q2 : w.cell? ⟨b, o + k * 7 + 2, none⟩ = some (.int .u64 n.tags) := hc 2 _ rfl
  have D : Hid (∀ W, Kept w W → Calls Tryz.prog 39 #[.slice aq q.length cq, .slice n.va n.vec.length n.vc] W fun e w' => e = .returned (.int .u64 (dist q n.vec)) ∧ Kept W w') := fun W hk =>
    (Dist_any aq n.va cq n.vc q n.vec W hql hf.veclen (hq.keep hk) (hv.keep hk) iq hf.vec).mono fun e w' h => ⟨h.1, h.2 ▸ Kept.rfl' _⟩
  clear hN hn hc hq hv hf
  have hkl' : (k : Int) < (ns.length : Int) := by omega
  generalize dist q n.vec = dd at *
  generalize ns.length = len at *
  generalize n.vec.length = vl at *
  generalize q.length = ql at *
  obtain ⟨nid, nva, nvc, nvec, ntags, nlev, nla, nlc, nls, nnext, nprev⟩ := n
  simp only at *
  have B3 : ∀ i v, w.cell? ⟨b, i, none⟩ = some v → (((w.alloc (.cells #[.slice (some ⟨b, o, none⟩) len cap, .int .i64 en, .int .i64 tp] 24)).alloc (.cells #[.int .u64 0, .int .u64 0, .int .i64 0] 60)).alloc (.cells #[.int .u64 0, .slice none 0 0, .int .u64 0] 50)).cell? ⟨b, i, none⟩ = some v := fun i v h => cell_old (cell_old (cell_old h))
  have p0 := B3 _ _ q0
  have p1 := B3 _ _ q1
  have p2 := B3 _ _ q2
  clear B3 q0 q1 q2
  go_enter Tryz.func104, Tryz.ntmps104
  go_wp2_with fail
  have r0 : (((w.alloc (.cells #[.slice (some ⟨b, o, none⟩) len cap, .int .i64 en, .int .i64 tp] 24)).alloc (.cells #[.int .u64 0, .int .u64 0, .int .i64 0] 60)).alloc (.cells #[.int .u64 nid, .slice nva vl nvc, .int .u64 ntags] 50)).cell? ⟨w.heap.size + 1 + 1, 0, none⟩ = some (.int .u64 nid) := cell_new (by simp) rfl
  have r1 : (((w.alloc (.cells #[.slice (some ⟨b, o, none⟩) len cap, .int .i64 en, .int .i64 tp] 24)).alloc (.cells #[.int .u64 0, .int .u64 0, .int .i64 0] 60)).alloc (.cells #[.int .u64 nid, .slice nva vl nvc, .int .u64 ntags] 50)).cell? ⟨w.heap.size + 1 + 1, 1, none⟩ = some (.slice nva vl nvc) := cell_new (by simp) rfl
  have K0 : Hid (Kept w (((w.alloc (.cells #[.slice (some ⟨b, o, none⟩) len cap, .int .i64 en, .int .i64 tp] 24)).alloc (.cells #[.int .u64 0, .int .u64 0, .int .i64 0] 60)).alloc (.cells #[.int .u64 nid, .slice nva vl nvc, .int .u64 ntags] 50))) := Kept.trans (kept_alloc _ _) (Kept.trans (kept_alloc _ _) (kept_alloc _ _))
  have BX := Lib.hid (fun w1 (hk : Kept (((w.alloc (.cells #[.slice (some ⟨b, o, none⟩) len cap, .int .i64 en, .int .i64 tp] 24)).alloc (.cells #[.int .u64 0, .int .u64 0, .int .i64 0] 60)).alloc (.cells #[.int .u64 nid, .slice nva vl nvc, .int .u64 ntags] 50)) w1) => box3 (B := w.heap.size + 1) (Kept.trans (kept_alloc _ _) hk) (by simp))
  have hs0 : (((w.alloc (.cells #[.slice (some ⟨b, o, none⟩) len cap, .int .i64 en, .int .i64 tp] 24)).alloc (.cells #[.int .u64 0, .int .u64 0, .int .i64 0] 60)).alloc (.cells #[.int .u64 nid, .slice nva vl nvc, .int .u64 ntags] 50)).heap.size = w.heap.size + 3 := by simp
  generalize (((w.alloc (.cells #[.slice (some ⟨b, o, none⟩) len cap, .int .i64 en, .int .i64 tp] 24)).alloc (.cells #[.int .u64 0, .int .u64 0, .int .i64 0] 60)).alloc (.cells #[.int .u64 nid, .slice nva vl nvc, .int .u64 ntags] 50)) = W0 at r0 r1 K0 BX hs0 ⊢
  have hs1 : w.heap.size + 1 + 1 < W0.heap.size := by omega
  have hs2 : w.heap.size + 1 < W0.heap.size := by omega
  have HS0 := Lib.hid hs0
  clear hs0 p0 p1 p2
  refine wp_region_kept_tail 9 (by kernel_rfl) (by kernel_rfl) ?_
  simp only [List.take_succ_cons, List.take_zero, List.drop_succ_cons, List.drop_zero]
  repeat (go_big_quiet_step (first | (go_at_call 39; exact Calls.kept_of (D.out _ (Kept.trans K0.out (gr_kept _ _ _))))))
  refine wpQuiet_nil ?_
  intro w1 hw1
  have hk1 : Kept W0 w1 := by obtain ⟨p, rfl⟩ := hw1; exact gr_kept _ _ _
  obtain ⟨⟨d0, d1, d2⟩, ⟨g0, g1, g2⟩, l2⟩ := BX.out w1 hk1
  have HK := Lib.hid (Kept.trans K0.out hk1)
  clear hw1 hk1 r0 r1
  go_wp2
  obtain ⟨e0, e1, e2⟩ := put3 d0 d1 d2 (.int .u64 dd) (.int .u64 nid) (.int .i64 k)
  exact bodyPost_ret (v := .agg #[.int .u64 dd, .int .u64 nid, .int .i64 k]) (by simp [results, Tryz.results104, go_sem, e0, e1, e2]) rfl ⟨rfl, ((HK.out.setCell (by simp) _).setCell (by simp) _).setCell (by simp) _⟩
end Go.Proofs.YtajbimmfkbgcpaaGreat

/- What plane.Near holds; walk.Step. -/
namespace Go.Proofs.YtajbimmfkbgcpaaGreat
open Go.RowKit

theorem wpList_push_far {P : Program} {T e : TypeId} {z : Value} {size bytes : Nat} (E : Elem P T e z size bytes) {w : World} {ops : Array Oper} {rest : List Oper} {o : Oper} {a : Act} {Q : Exit → Act → World → Prop}
    (hgd : o.guard = none) (s x : Operand) (ho : o.op = .call { callee := .builtin .append, args := #[s, x], argTypes := #[T, T] })
    (base : Nat) (v : Value) (n : Nat) (xs : List Value) (arr : Array Value) (B : Nat) (hB : B = w.heap.size) (hs : a.eval s = v) (hx : a.eval x = .slice (some ⟨B, 0, none⟩) 1 1)
    (hown : w.ownsRow base e size v n xs) (harr : arr.size = size) (h1 : ∀ u ∈ arr.toList, u.oneCell' = true)
    (h63 : n + 1 ≤ maxLen) (hbytes : (n + 1) * bytes ≤ 140737488355328) (hbase : base ≤ w.heap.size)
    (hK : ∀ g cap w', w'.ownsRow base e size (.slice (some ⟨g, 0, none⟩) (n + 1) cap) (n + 1) (xs ++ arr.toList) → Far (fun b => v.ownBlock = some b) w w' → (v.ownBlock = some g ∨ w.heap.size ≤ g) → g < w'.heap.size → wpList P ops Q rest (a.put o.dst (.slice (some ⟨g, 0, none⟩) (n + 1) cap)) w') :
    wpList P ops Q (o :: rest) a (w.alloc (.cells arr e)) := by
  obtain ⟨i, hi, hz0, hz1, hz2⟩ := info_parts E.info
  subst hB
  refine wpList_append_lies (w.alloc (.cells arr e)) hgd s x T ho base e i z size bytes E.under hi hz0 hz1 hz2 E.zs E.pos v n xs hs (hown.alloc _) ⟨w.heap.size, 0, none⟩ 1 1 arr.toList hx (by simp [harr]) (cells_new w arr e) h1 (by omega) h63 hbytes (by simp; omega) _ rfl ?_
  intro g cap w' ho' hg hat hlt
  exact hK g cap w' ho' ((Far.of_kept _ (kept_alloc _ _)).trans (far_of_grown hg)) (hat.imp id (fun h => by simp at h; omega)) hlt

theorem getD_mem_take {xs : List Int} {k : Nat} (h : k < xs.length) (y : Int) : y ∈ xs.take (k + 1) ↔ y ∈ xs.take k ∨ y = xs.getD k 0 := by
  rw [take_snoc_getD h]
  simp

theorem keep_near (ns : List Nd) (xs : List Int) : ∀ k, k ≤ xs.length → (keepTo (nearP ns xs) xs k).Nodup ∧ ∀ y, y ∈ keepTo (nearP ns xs) xs k ↔ y ∈ xs.take k ∧ there ns y = true
  | 0, _ => by simp [keepTo]
  | k + 1, h => by
    obtain ⟨h1, h2⟩ := keep_near ns xs k (by omega)
    rw [keepTo_succ]
    have hm := getD_mem_take (k := k) (xs := xs) (by omega)
    cases hp : nearP ns xs k with
    | true =>
      simp only [if_true, List.append_nil]
      refine ⟨h1, fun y => ?_⟩
      rw [h2, hm]
      constructor
      · exact fun ⟨a, b⟩ => ⟨.inl a, b⟩
      · rintro ⟨a | rfl, b⟩
        · exact ⟨a, b⟩
        · unfold nearP outB at hp
          simp only [Bool.or_eq_true, decide_eq_true_eq, Bool.not_eq_true'] at hp
          rcases hp with hp | hp
          · exact ⟨hp, b⟩
          · rw [b] at hp; cases hp
    | false =>
      unfold nearP outB at hp
      simp only [Bool.or_eq_false_iff, decide_eq_false_iff_not, Bool.not_eq_false'] at hp
      simp only [Bool.false_eq_true, if_false]
      refine ⟨?_, fun y => ?_⟩
      · rw [List.nodup_append]
        refine ⟨h1, by simp, fun a ha b hb e => ?_⟩
        simp only [List.mem_singleton] at hb
        subst hb; subst e
        exact hp.1 ((h2 _).1 ha).1
      · rw [List.mem_append, h2, hm]
        simp only [List.mem_singleton]
        constructor
        · rintro (⟨a, b⟩ | rfl)
          · exact ⟨.inl a, b⟩
          · exact ⟨.inr rfl, hp.2⟩
        · rintro ⟨a | rfl, b⟩
          · exact .inl ⟨a, b⟩
          · exact .inr rfl
theorem mem_nearL {ns : List Nd} {slot level : Nat} (y : Int) : y ∈ nearL ns slot level ↔ y ∈ nearX ns slot level ∧ there ns y = true := by
  unfold nearL
  rw [(keep_near ns _ _ (Nat.le_refl _)).2, List.take_length]
theorem nodup_nearL (ns : List Nd) (slot level : Nat) : (nearL ns slot level).Nodup := (keep_near ns _ _ (Nat.le_refl _)).1

/-- The spot at a slot. -/
def spotAt (q : List Int) (ns : List Nd) (k : Nat) : Sp := match ns[k]? with | some n => spOf q n k | none => ⟨0, 0, k⟩
theorem spotAt_eq {q : List Int} {ns : List Nd} {k : Nat} {n : Nd} (h : ns[k]? = some n) : spotAt q ns k = spOf q n k := by unfold spotAt; rw [h]
theorem there_nat {ns : List Nd} {s : Int} (h : there ns s = true) : ∃ (k : Nat) (n : Nd), s = (k : Int) ∧ ns[k]? = some n ∧ 0 < k ∧ k < ns.length := by
  have := there_lt h
  refine ⟨s.toNat, ns[s.toNat]'(by omega), by omega, List.getElem?_eq_getElem (by omega), by omega, by omega⟩
theorem nearL_len (ns : List Nd) (slot level : Nat) : (nearL ns slot level).length ≤ ns.length := by
  have h := nodup_nearL ns slot level
  have hm : ∀ y ∈ nearL ns slot level, there ns y = true := fun y hy => ((mem_nearL y).1 hy).2
  generalize nearL ns slot level = l at *
  have h2 : (l.map Int.toNat).Nodup := by
    refine List.Pairwise.map _ ?_ (List.Pairwise.and_mem.1 h)
    rintro a b ⟨ha, hb, hab⟩ e
    have := there_lt (hm a ha); have := there_lt (hm b hb)
    exact hab (by omega)
  have h3 := List.Nodup.length_le_of_subset h2 (l₂ := List.range ns.length) (fun x hx => by
    rw [List.mem_map] at hx
    obtain ⟨y, hy, rfl⟩ := hx
    have := there_lt (hm y hy)
    rw [List.mem_range]; omega)
  simpa using h3
end Go.Proofs.YtajbimmfkbgcpaaGreat

/- walk.Step. -/
namespace Go.Proofs.YtajbimmfkbgcpaaGreat
open Go.RowKit Go.Sort

/-- A plane and a vector, as they lie. -/
structure PG (w : World) (a : Option Addr) (ns : List Nd) (aq : Option Addr) (q : List Int) : Prop where
  nodes : NodesAt w a ns
  qs : IntsAt .i32 w aq q
  iq : I32s q
  ql : q.length ≤ 35184372088832
  lists : ∀ k n, ns[k]? = some n → 0 < k → ∀ l ∈ n.lists, l.length ≤ 1099511627776
  len : ns.length ≤ 1000
theorem PG.keep {w w' : World} {a : Option Addr} {ns : List Nd} {aq : Option Addr} {q : List Int} (h : PG w a ns aq q) (hk : Kept w w') : PG w' a ns aq q :=
  ⟨h.nodes.keep hk, h.qs.keep hk, h.iq, h.ql, h.lists, h.len⟩
theorem PG.spot {w : World} {a : Option Addr} {ns : List Nd} {aq : Option Addr} {q : List Int} (h : PG w a ns aq q) (cap : Nat) (en tp : Int) (cq : Nat) {k : Nat} {n : Nd} (hn : ns[k]? = some n) :
    Calls Tryz.prog 104 #[PlaneV a ns.length cap en tp, .slice aq q.length cq, .int .i64 (k : Int)] w fun e w' => e = .returned (.agg #[.int .u64 (spotAt q ns k).d, .int .u64 (spotAt q ns k).i, .int .i64 (spotAt q ns k).s]) ∧ Kept w w' := by
  rw [spotAt_eq hn]
  exact WSpot_any a ns cap en tp aq cq q k n w h.nodes hn h.qs h.iq h.ql
theorem PG.near {w : World} {a : Option Addr} {ns : List Nd} {aq : Option Addr} {q : List Int} (h : PG w a ns aq q) (cap : Nat) (en tp : Int) {k : Nat} (level : Nat) {n : Nd} (hn : ns[k]? = some n) :
    Calls Tryz.prog 59 #[PlaneV a ns.length cap en tp, .int .i64 (k : Int), .int .i64 (level : Int)] w (NearPost ns k level w) :=
  Near_any a ns cap en tp k level n w h.nodes hn (fun h0 => h.lists k n hn h0)

theorem spotAt_s (q : List Int) (ns : List Nd) (k : Nat) : (spotAt q ns k).s = (k : Int) := by
  unfold spotAt spOf
  split <;> rfl
/-- The spots that a step looks at. -/
def stepTo (q : List Int) (ns : List Nd) (k : Nat) (L : List Int) (j : Nat) : List Sp := spotAt q ns k :: (L.take j).map fun y => spotAt q ns y.toNat
theorem stepTo_succ (q : List Int) (ns : List Nd) (k : Nat) (L : List Int) {j : Nat} (h : j < L.length) : stepTo q ns k L (j + 1) = stepTo q ns k L j ++ [spotAt q ns (L.getD j 0).toNat] := by
  unfold stepTo
  rw [take_snoc_getD h]
  simp
theorem stepTo_len (q : List Int) (ns : List Nd) (k : Nat) (L : List Int) {j : Nat} (h : j ≤ L.length) : (stepTo q ns k L j).length = j + 1 := by
  unfold stepTo
  simp
  omega

theorem sortSp_head {xs : List Sp} (h : 0 < xs.length) : headSp (sortSp xs) ∈ xs ∧ ∀ y ∈ xs, ltOf plcSp y (headSp (sortSp xs)) = false := by
  have hp : (sortSp xs).Perm xs := List.mergeSort_perm xs _
  have hs : (sortSp xs).Pairwise (fun x y => (!(ltOf plcSp) y x) = true) := List.pairwise_mergeSort (fun x y z h1 h2 => by
    simp only [Bool.not_eq_true'] at *
    exact swoSp.ntrans z y x h2 h1) (fun x y => by
    cases h1 : ltOf plcSp y x with
    | false => rfl
    | true =>
      cases h2 : ltOf plcSp x y with
      | false => rfl
      | true => have := swoSp.trans x y x h2 h1; rw [swoSp.irrefl] at this; cases this) xs
  generalize sortSp xs = ys at *
  cases ys with
  | nil => have := hp.length_eq; simp at this; omega
  | cons y ys =>
    refine ⟨hp.mem_iff.1 (by simp [headSp]), fun z hz => ?_⟩
    have hz' := hp.mem_iff.2 hz
    rw [List.pairwise_cons] at hs
    simp only [headSp]
    rcases List.mem_cons.1 hz' with rfl | h3
    · exact swoSp.irrefl _
    · simpa using hs.1 z h3

/-- Where a step goes. -/
theorem step_goes {q : List Int} {ns : List Nd} {k level : Nat} {k' : Int} (h : k' = (headSp (sortSp (stepTo q ns k (nearL ns k level) (nearL ns k level).length))).s) :
    ∃ j : Nat, k' = (j : Int) ∧ (j ≠ k → there ns (j : Int) = true ∧ ltOf plcSp (spotAt q ns j) (spotAt q ns k) = true) := by
  have hl : 0 < (stepTo q ns k (nearL ns k level) (nearL ns k level).length).length := by unfold stepTo; simp
  obtain ⟨h1, h2⟩ := sortSp_head hl
  generalize headSp (sortSp (stepTo q ns k (nearL ns k level) (nearL ns k level).length)) = y at *
  have hk := h2 (spotAt q ns k) (by unfold stepTo; simp)
  unfold stepTo at h1
  rw [List.take_length] at h1
  rcases List.mem_cons.1 h1 with rfl | h1
  · exact ⟨k, h.trans (spotAt_s _ _ _), fun hn => absurd rfl hn⟩
  · rw [List.mem_map] at h1
    obtain ⟨x, hx, rfl⟩ := h1
    have ht := ((mem_nearL x).1 hx).2
    obtain ⟨j, n, rfl, -, -, -⟩ := there_nat ht
    refine ⟨j, by rw [h, spotAt_s]; simp, fun hn => ⟨ht, ?_⟩⟩
    cases hlt : ltOf plcSp (spotAt q ns j) (spotAt q ns k) with
    | true => rfl
    | false =>
      have := eqSp _ _ hlt (by simpa using hk)
      have e := congrArg Sp.s this
      rw [spotAt_s, spotAt_s] at e
      omega

theorem own_made1 {w : World} {base : Nat} {e : TypeId} {size : Nat} {arr : Array Value} (hb : base ≤ w.heap.size) (hs : arr.size = size) : (w.alloc (.cells arr e)).ownsRow base e size (.slice (some ⟨w.heap.size, 0, none⟩) 1 1) 1 arr.toList :=
  ⟨by simp [hs], .inr ⟨w.heap.size, 1, arr, rfl, hb, by show (w.heap.push _)[w.heap.size]? = _; exact Array.getElem?_push_size, Nat.le_refl _, by unfold maxLen; omega, by omega, by rw [Nat.one_mul, ← hs, ← Array.length_toList, List.take_length]⟩⟩

def StepPost (q : List Int) (ns : List Nd) (k : Nat) (w : World) (e : Ending) (w' : World) : Prop :=
  ∃ j : Nat, e = .returned (.tuple #[.int .i64 (j : Int), .bool ((j : Int) != (k : Int))]) ∧ (j ≠ k → there ns (j : Int) = true ∧ ltOf plcSp (spotAt q ns j) (spotAt q ns k) = true) ∧ Kept w w'

def StepRel (q : List Int) (ns : List Nd) (k : Nat) (L : List Int) (vn : Value) (w W0 : World) (v i : Value) (wr : World) : Prop :=
  ∃ j g c : Nat, j ≤ L.length ∧ i = .int .i64 (j : Int) ∧ v = .slice (some ⟨g, 0, none⟩) (j + 1) c ∧ Hid (wr.ownsRow (w.heap.size + 1) 60 3 v (j + 1) (flat (stepTo q ns k L j)) ∧ (∀ b, vn.ownBlock = some b → b ≠ g) ∧ wr.ownsRow (w.heap.size + 1) 3 1 vn L.length (ints .i64 L) ∧ Below (w.heap.size + 1) W0 wr)

set_option maxRecDepth 100000 in
set_option maxHeartbeats 2000000 in
theorem Step_any (a : Option Addr) (ns : List Nd) (cap : Nat) (en tp : Int) (aq : Option Addr) (cq : Nat) (q : List Int) (k level : Nat) (n : Nd) (w : World) (hG : PG w a ns aq q) (hn : ns[k]? = some n) :
    Calls Tryz.prog 93 #[PlaneV a ns.length cap en tp, .slice aq q.length cq, .int .i64 (k : Int), .int .i64 (level : Int)] w (StepPost q ns k w) := by
  have G := Lib.hid hG
  have HN := Lib.hid hn
  have LN := Lib.hid (nearL_len ns k level)
  have l0 := hG.len
  have HL0 := Lib.hid l0
  clear hG hn l0
  go_enter Tryz.func93, Tryz.ntmps93
  go_wp2_with (first
    | (go_at_call 104; refine ((G.out.keep (kept_alloc _ _)).spot cap en tp cq HN.out).mono ?_; rintro e w1 ⟨rfl, hk1⟩
       have d0 := kcell hk1 (cell_new (w := w) (cs := #[.slice a ns.length cap, .int .i64 en, .int .i64 tp]) (t := 24) (b := w.heap.size) (i := 0) rfl rfl)
       have d1 := kcell hk1 (cell_new (w := w) (cs := #[.slice a ns.length cap, .int .i64 en, .int .i64 tp]) (t := 24) (b := w.heap.size) (i := 1) rfl rfl)
       have d2 := kcell hk1 (cell_new (w := w) (cs := #[.slice a ns.length cap, .int .i64 en, .int .i64 tp]) (t := 24) (b := w.heap.size) (i := 2) rfl rfl)
       have l1 := lt_of_cell d0
       have K1 := Lib.hid (Below.mono hk1 (show w.heap.size + 1 ≤ (w.alloc (.cells #[.slice a ns.length cap, .int .i64 en, .int .i64 tp] 24)).heap.size by simp))
       have KW1 := Lib.hid (Kept.trans (kept_alloc _ _) hk1)
       clear hk1)
    | (go_at_call 59; refine ((G.out.keep (Kept.trans KW1.out (kept_alloc _ _))).near cap en tp level HN.out).mono ?_; rintro e w2 ⟨vn, rfl, hown2, hk2⟩
       obtain ⟨an, cn, rfl, hnone, hsome⟩ := own_slice hown2
       clear hnone))
  generalize hL : nearL ns k level = L at *
  have hw12 : Below (w.heap.size + 1) (w.alloc (.cells #[.slice a ns.length cap, .int .i64 en, .int .i64 tp] 24)) w2 := K1.out.trans (Below.mono (show Kept w1 w2 from Kept.trans (kept_alloc w1 (.cells #[.int .u64 (spotAt q ns k).d, .int .u64 (spotAt q ns k).i, .int .i64 (spotAt q ns k).s] 60)) hk2) (by omega))
  have hnew : (w1.alloc (.cells #[.int .u64 (spotAt q ns k).d, .int .u64 (spotAt q ns k).i, .int .i64 (spotAt q ns k).s] 60)).ownsRow (w.heap.size + 1) 60 3 (.slice (some ⟨w1.heap.size, 0, none⟩) 1 1) 1 (flat (stepTo q ns k L 0)) :=
    own_made1 (arr := #[.int .u64 (spotAt q ns k).d, .int .u64 (spotAt q ns k).i, .int .i64 (spotAt q ns k).s]) (by omega) rfl
  have hat : StepRel q ns k L (.slice an L.length cn) w (w.alloc (.cells #[.slice a ns.length cap, .int .i64 en, .int .i64 tp] 24)) (.slice (some ⟨w1.heap.size, 0, none⟩) 1 1) (.int .i64 0) w2 :=
    ⟨0, w1.heap.size, 1, Nat.zero_le _, rfl, rfl, own_kept hnew hk2, fun b hb e => by
      have := hown2.lt b hb
      simp at this
      omega, own_weaken hown2 (by simp; omega), hw12⟩
  have HAT := Lib.hid hat
  have HLL := Lib.hid hL
  clear hown2 hk2 hsome hw12 hnew hat hL K1 KW1 d0 d1 d2
  go_loopw [10, 24] (StepRel q ns k L (.slice an L.length cn) w (w.alloc (.cells #[.slice a ns.length cap, .int .i64 en, .int .i64 tp] 24))) (fun _ i _ => L.length - (intOf i).toNat)
  case atStart => exact HAT.out
  case round =>
    obtain ⟨j, g, c, hj, rfl, rfl, hr⟩ := hrel
    have HR := Lib.hid hr.out.1
    have HNE := Lib.hid hr.out.2.1
    have HVN := Lib.hid hr.out.2.2.1
    have HB := Lib.hid hr.out.2.2.2
    have d0 : wr.cell? ⟨w.heap.size, 0, none⟩ = some (.slice a ns.length cap) := (HB.out.cell (p := ⟨w.heap.size, 0, none⟩) (by simp)).trans (cell_new rfl rfl)
    have d1 : wr.cell? ⟨w.heap.size, 1, none⟩ = some (.int .i64 en) := (HB.out.cell (p := ⟨w.heap.size, 1, none⟩) (by simp)).trans (cell_new rfl rfl)
    have d2 : wr.cell? ⟨w.heap.size, 2, none⟩ = some (.int .i64 tp) := (HB.out.cell (p := ⟨w.heap.size, 2, none⟩) (by simp)).trans (cell_new rfl rfl)
    have l1 := lt_of_cell d0
    have KR : Hid (Kept w wr) := Kept.trans (kept_alloc w (.cells #[.slice a ns.length cap, .int .i64 en, .int .i64 tp] 24)) (Below.mono HB.out (by simp)) |> fun h => h
    have hcap := own_cap2 HVN.out
    have hcap1 := own_cap2 HR.out
    clear hr HAT
    by_cases hlt : j < L.length
    · obtain ⟨_, _, hv, _, hI, hfar⟩ := ints_of_own' HVN.out
      injection hv with hva _ hvc
      subst hva
      obtain ⟨b, o, rfl, hbl, hc⟩ := hI.at_ hlt
      have ht : there ns (L[j]'hlt) = true := ((mem_nearL (level := level) (slot := k) _).1 (by rw [HLL.out]; exact List.getElem_mem hlt)).2
      obtain ⟨x, nx, hx, hnx, -, -⟩ := there_nat ht
      have HNX := Lib.hid hnx
      have HX := Lib.hid hx
      rw [hx] at hc
      have HS := Lib.hid (stepTo_succ q ns k L hlt)
      have hgd : L.getD j 0 = (x : Int) := by rw [← hx, List.getD_eq_getElem?_getD, List.getElem?_eq_getElem hlt]; rfl
      have HGD := Lib.hid hgd
      clear hI hfar ht hx hnx hgd hvc
      go_wp2_with (first
        | (go_at_call 104; refine ((G.out.keep KR.out).spot cap en tp cq HNX.out).mono ?_; rintro e w3 ⟨rfl, hk3⟩)
        | (at_builtin; refine wpList_push_far Tryz.elemSpot rfl _ _ rfl (w.heap.size + 1) _ _ _ #[.int .u64 (spotAt q ns x).d, .int .u64 (spotAt q ns x).i, .int .i64 (spotAt q ns x).s] _ rfl rfl rfl (own_kept HR.out hk3) rfl ?c1 ?c2 ?c3 ?c4 ?_))
      case c1 => simp [Value.oneCell']
      case c2 => unfold maxLen; have := HL0.out; have := LN.out; omega
      case c3 => have := HL0.out; have := LN.out; omega
      case c4 => have := hk3.size; omega
      intro g' c' w4 hown4 hf4 hg4 hl4
      have hrel : Hid (StepRel q ns k L (.slice (some ⟨b, o, none⟩) L.length cn) w (w.alloc (.cells #[.slice a ns.length cap, .int .i64 en, .int .i64 tp] 24)) (.slice (some ⟨g', 0, none⟩) (j + 1 + 1) c') (.int .i64 ((j + 1 : Nat) : Int)) w4) := by
        refine ⟨j + 1, g', c', hlt, rfl, rfl, ?_, ?_, ?_, ?_⟩
        · rw [HS.out, HGD.out, flat_append]; exact hown4
        · intro b' hb' e
          rcases hg4 with h | h
          · simp only [Value.ownBlock, Option.some.injEq] at h
            exact HNE.out b' hb' (by omega)
          · have := HVN.out.lt b' hb'
            have := hk3.size
            omega
        · exact own_far (own_kept HVN.out hk3) (fun b' hb' e => by simp only [Value.ownBlock, Option.some.injEq] at e; exact HNE.out b' hb' e.symm) hf4
        · have hgb := (HR.out.lt g rfl).1
          refine (HB.out.trans (Below.mono hk3 (by omega))).trans (hf4.below (fun b' e => by simp only [Value.ownBlock, Option.some.injEq] at e; omega) (by have := hk3.size; omega))
      clear hown4 hf4 hg4
      have hbj : j ≤ 1000 := by have := HL0.out; have := LN.out; omega
      go_wp2
      go_roundw
      case rel => exact (show ∀ i, i = Value.int .i64 ((j + 1 : Nat) : Int) → StepRel q ns k L (.slice (some ⟨b, o, none⟩) L.length cn) w (w.alloc (.cells #[.slice a ns.length cap, .int .i64 en, .int .i64 tp] 24)) (.slice (some ⟨g', 0, none⟩) (j + 1 + 1) c') i w4 from fun i h => h ▸ hrel.out) _ (by go_num)
      case measure => simp [intOf]; omega
    · obtain rfl : j = L.length := by omega
      have hsl := stepTo_len q ns k L (Nat.le_refl L.length)
      have LO := Lib.hid (Least_one (w.heap.size + 1) (.slice (some ⟨g, 0, none⟩) (L.length + 1) c) (stepTo q ns k L L.length) wr (by rw [hsl]; have := HL0.out; have := LN.out; omega) (by rw [hsl]; exact HR.out) (by rw [hsl]; omega))
      clear hsl
      go_wp2_with (first
        | (go_at_call 105; refine LO.out.mono ?_; rintro e w3 ⟨g', c', rfl, hc3, hg3, hk3⟩
           obtain ⟨j', hj', hj2⟩ := step_goes (q := q) (ns := ns) (k := k) (level := level) (k' := (headSp (sortSp (stepTo q ns k L L.length))).s) (by rw [HLL.out])
           rw [hj'] at hc3
           have HJ2 := Lib.hid hj2
           clear hj' hj2
           have l3 := lt_of_cell hc3
           have HK3 := Lib.hid (Kept.trans KR.out hk3)
           clear hk3))
      exact bodyPost_ret (v := .tuple #[.int .i64 (j' : Int), .bool ((j' : Int) != (k : Int))]) (by simp [results, Tryz.results93, go_sem]) rfl ⟨j', rfl, HJ2.out, HK3.out⟩
end Go.Proofs.YtajbimmfkbgcpaaGreat

/- walk.Level, walk.Down. -/
namespace Go.Proofs.YtajbimmfkbgcpaaGreat
open Go.RowKit Go.Sort

/-- How many slots are ahead of one. -/
def rkOf (q : List Int) (ns : List Nd) (k : Nat) : Nat := ((List.range ns.length).filter fun j => ltOf plcSp (spotAt q ns j) (spotAt q ns k)).length
theorem rkOf_le (q : List Int) (ns : List Nd) (k : Nat) : rkOf q ns k ≤ ns.length := by
  unfold rkOf
  have := List.length_filter_le (fun j => ltOf plcSp (spotAt q ns j) (spotAt q ns k)) (List.range ns.length)
  simpa using this
theorem rkOf_lt {q : List Int} {ns : List Nd} {j k : Nat} (hj : j < ns.length) (h : ltOf plcSp (spotAt q ns j) (spotAt q ns k) = true) : rkOf q ns j + 1 ≤ rkOf q ns k := by
  unfold rkOf
  have h1 : (((List.range ns.length).filter fun i => ltOf plcSp (spotAt q ns i) (spotAt q ns j)) ++ [j]).Nodup := by
    rw [List.nodup_append]
    refine ⟨(List.nodup_range).filter _, by simp, fun a ha b hb e => ?_⟩
    simp only [List.mem_singleton] at hb
    subst hb; subst e
    have := (List.mem_filter.1 ha).2
    rw [swoSp.irrefl] at this
    cases this
  have h2 := List.Nodup.length_le_of_subset h1 (l₂ := (List.range ns.length).filter fun i => ltOf plcSp (spotAt q ns i) (spotAt q ns k)) (fun x hx => by
    rw [List.mem_append] at hx
    rw [List.mem_filter]
    rcases hx with hx | hx
    · have := List.mem_filter.1 hx
      exact ⟨this.1, swoSp.trans _ _ _ this.2 h⟩
    · simp only [List.mem_singleton] at hx
      subst hx
      exact ⟨List.mem_range.2 hj, h⟩)
  simpa using h2

def lvM (q : List Int) (ns : List Nd) (nx is : Value) : Nat := match is with | .bool true => 1 + rkOf q ns (intOf nx).toNat | _ => 0
/-- A list of slots whose last one is there. -/
def LevelRel (q : List Int) (ns : List Nd) (w W0 : World) (v nx is : Value) (wr : World) : Prop :=
  ∃ (ys : List Int) (k j : Nat) (b : Bool), nx = .int .i64 (j : Int) ∧ is = .bool b ∧ Hid (there ns (k : Int) = true ∧ (b = true → there ns (j : Int) = true) ∧ ys.length + 1 + lvM q ns nx is ≤ ns.length + 1 ∧ wr.ownsRow (w.heap.size + 1) 3 1 v (ys.length + 1) (ints .i64 (ys ++ [(k : Int)])) ∧ Below (w.heap.size + 1) W0 wr)
def LevelPost (ns : List Nd) (w : World) (e : Ending) (w' : World) : Prop :=
  ∃ (v : Value) (ys : List Int) (k : Nat), e = .returned v ∧ there ns (k : Int) = true ∧ w'.ownsRow w.heap.size 3 1 v (ys.length + 1) (ints .i64 (ys ++ [(k : Int)])) ∧ Kept w w'

theorem own_max {w : World} {base : Nat} {e : TypeId} {size n : Nat} {v : Value} {xs : List Value} (h : w.ownsRow base e size v n xs) : n ≤ 9223372036854775807 := by
  rcases h.2 with ⟨_, h0⟩ | ⟨g, cap', cur, hv, hb, hg, hn, hm, _⟩
  · omega
  · unfold maxLen at hm; omega

theorem level_rel {q : List Int} {ns : List Nd} {k j : Nat} (hj2 : j ≠ k → there ns (j : Int) = true ∧ ltOf plcSp (spotAt q ns j) (spotAt q ns k) = true) :
    (((j : Int) != (k : Int)) = true → there ns (j : Int) = true) ∧ lvM q ns (.int .i64 (j : Int)) (.bool ((j : Int) != (k : Int))) ≤ rkOf q ns k := by
  by_cases h : j = k
  · subst h; simp [lvM]
  · obtain ⟨h1, h2⟩ := hj2 h
    refine ⟨fun _ => h1, ?_⟩
    have hne : ((j : Int) != (k : Int)) = true := by simp; omega
    rw [hne]
    obtain ⟨x, n, hx, -, -, hl⟩ := there_nat h1
    have := rkOf_lt (q := q) (ns := ns) (by omega) h2
    simp only [lvM, intOf, Int.toNat_natCast]
    omega

set_option maxRecDepth 100000 in
set_option maxHeartbeats 2000000 in
theorem Level_any (a : Option Addr) (ns : List Nd) (cap : Nat) (en tp : Int) (aq : Option Addr) (cq : Nat) (q : List Int) (k level : Nat) (w : World) (hG : PG w a ns aq q) (ht : there ns (k : Int) = true) :
    Calls Tryz.prog 73 #[PlaneV a ns.length cap en tp, .slice aq q.length cq, .int .i64 (k : Int), .int .i64 (level : Int)] w (LevelPost ns w) := by
  have G := Lib.hid hG
  have HT := Lib.hid ht
  obtain ⟨k0, n, hk0, hn, -, hkl⟩ := there_nat ht
  obtain rfl : k0 = k := by omega
  have HN := Lib.hid hn
  have HL0 := Lib.hid hG.len
  clear hG ht hk0 hn hkl
  go_enter Tryz.func73, Tryz.ntmps73
  go_wp2_with (first
    | (go_at_call 93; refine (Step_any a ns cap en tp aq cq q k0 level n _ (G.out.keep (Kept.trans (kept_alloc _ _) (kept_alloc _ _))) HN.out).mono ?_; rintro e w1 ⟨j, rfl, hj2, hk1⟩
       have HJ := Lib.hid (level_rel hj2); clear hj2))
  have hw1 : Below (w.heap.size + 1) (w.alloc (.cells #[.slice a ns.length cap, .int .i64 en, .int .i64 tp] 24)) w1 := Below.mono (show Kept (w.alloc (.cells #[.slice a ns.length cap, .int .i64 en, .int .i64 tp] 24)) w1 from Kept.trans (kept_alloc _ (.cells #[.int .i64 (k0 : Int)] 3)) hk1) (by simp)
  have hat : LevelRel q ns w (w.alloc (.cells #[.slice a ns.length cap, .int .i64 en, .int .i64 tp] 24)) (.slice (some ⟨w.heap.size + 1, 0, none⟩) 1 1) (.int .i64 (j : Int)) (.bool ((j : Int) != (k0 : Int))) w1 := by
    refine ⟨[], k0, j, _, rfl, rfl, HT.out, HJ.out.1, ?_, ?_, hw1⟩
    · have := HJ.out.2
      have := rkOf_le q ns k0
      simp only [List.length_nil]
      omega
    · have h0 : w.heap.size + 1 = (w.alloc (.cells #[.slice a ns.length cap, .int .i64 en, .int .i64 tp] 24)).heap.size := by simp
      have h1 := own_kept (own_made1 (w := w.alloc (.cells #[.slice a ns.length cap, .int .i64 en, .int .i64 tp] 24)) (arr := #[.int .i64 (k0 : Int)]) (e := 3) (size := 1) (base := w.heap.size + 1) (by simp) rfl) hk1
      rw [← h0] at h1
      exact h1
  have HAT := Lib.hid hat
  clear hw1 hat hk1
  go_loopw [9, 10, 11] (LevelRel q ns w (w.alloc (.cells #[.slice a ns.length cap, .int .i64 en, .int .i64 tp] 24))) (fun _ nx is _ => lvM q ns nx is)
  case atStart => exact HAT.out
  case round =>
    obtain ⟨ys, kc, jc, b, rfl, rfl, hr⟩ := hrel
    have HTK := Lib.hid hr.out.1
    have HTJ := Lib.hid hr.out.2.1
    have HM := Lib.hid hr.out.2.2.1
    have HO := Lib.hid hr.out.2.2.2.1
    have HB := Lib.hid hr.out.2.2.2.2
    clear hr HAT HJ
    cases b with
    | false =>
      go_wp2
      go_ret
      exact ⟨_, ys, kc, rfl, HTK.out, own_weaken HO.out (by omega), Kept.trans (kept_alloc w (.cells #[.slice a ns.length cap, .int .i64 en, .int .i64 tp] 24)) (Below.mono HB.out (by simp))⟩
    | true =>
      have d0 : wr.cell? ⟨w.heap.size, 0, none⟩ = some (.slice a ns.length cap) := (HB.out.cell (p := ⟨w.heap.size, 0, none⟩) (by simp)).trans (cell_new rfl rfl)
      have d1 : wr.cell? ⟨w.heap.size, 1, none⟩ = some (.int .i64 en) := (HB.out.cell (p := ⟨w.heap.size, 1, none⟩) (by simp)).trans (cell_new rfl rfl)
      have d2 : wr.cell? ⟨w.heap.size, 2, none⟩ = some (.int .i64 tp) := (HB.out.cell (p := ⟨w.heap.size, 2, none⟩) (by simp)).trans (cell_new rfl rfl)
      have l1 := lt_of_cell d0
      obtain ⟨x, nx, hx, hnx, -, -⟩ := there_nat (HTJ.out rfl)
      obtain rfl : x = jc := by omega
      have HNX := Lib.hid hnx
      have KR : Hid (Kept w wr) := Kept.trans (kept_alloc w (.cells #[.slice a ns.length cap, .int .i64 en, .int .i64 tp] 24)) (Below.mono HB.out (by simp))
      have hlen : ys.length + 1 ≤ 1001 := by have := HM.out; have := HL0.out; omega
      clear hx hnx
      go_wp2_with (first
        | (at_builtin; refine wpList_push Tryz.elemInt rfl _ _ rfl (w.heap.size + 1) _ _ _ #[.int .i64 (x : Int)] rfl rfl (by exact HO.out) rfl ?c1 ?c2 ?c3 ?c4 ?_))
      case c1 => simp [Value.oneCell']
      case c2 => unfold maxLen; omega
      case c3 => omega
      case c4 => omega
      intro v' w2 hown2 hb2
      have HO2 := Lib.hid hown2
      have KR2 : Hid (Kept w w2) := Kept.trans (kept_alloc w (.cells #[.slice a ns.length cap, .int .i64 en, .int .i64 tp] 24)) (Below.mono (HB.out.trans hb2) (by simp))
      have HB2 := Lib.hid (HB.out.trans hb2)
      have e0 : w2.cell? ⟨w.heap.size, 0, none⟩ = some (.slice a ns.length cap) := (hb2.cell (p := ⟨w.heap.size, 0, none⟩) (by simp)).trans d0
      have e1 : w2.cell? ⟨w.heap.size, 1, none⟩ = some (.int .i64 en) := (hb2.cell (p := ⟨w.heap.size, 1, none⟩) (by simp)).trans d1
      have e2 : w2.cell? ⟨w.heap.size, 2, none⟩ = some (.int .i64 tp) := (hb2.cell (p := ⟨w.heap.size, 2, none⟩) (by simp)).trans d2
      have l2 := lt_of_cell e0
      clear hown2 hb2 d0 d1 d2 l1
      go_wp2_with (first
        | (go_at_call 93; refine (Step_any a ns cap en tp aq cq q x level nx _ (G.out.keep KR2.out) HNX.out).mono ?_; rintro e w3 ⟨j, rfl, hj2, hk3⟩
           have HJ := Lib.hid (level_rel hj2); have HK3 := Lib.hid hk3; clear hj2 hk3))
      have hm1 : lvM q ns (.int .i64 (x : Int)) (.bool true) = 1 + rkOf q ns x := by simp [lvM, intOf]
      have hm2 := HM.out
      have hj2 := HJ.out.2
      rw [hm1] at hm2 ⊢
      refine ⟨⟨ys ++ [(kc : Int)], x, j, _, rfl, rfl, ⟨HTJ.out (by trivial), HJ.out.1, ?_, ?_, ?_⟩⟩, by omega⟩
      · simp only [List.length_append, List.length_singleton]
        omega
      · have h3 := own_kept HO2.out HK3.out
        rw [ints_snoc (xs := ys ++ [(kc : Int)])]
        simpa using h3
      · exact HB2.out.trans (Below.mono HK3.out (by omega))

def DownPost (ns : List Nd) (w : World) (e : Ending) (w' : World) : Prop :=
  ∃ (r : Int) (b : Bool), e = .returned (.tuple #[.int .i64 r, .bool b]) ∧ (b = true → there ns r = true) ∧ Kept w w'
def WDownRel (ns : List Nd) (w W0 : World) (at_ lv : Value) (wr : World) : Prop :=
  ∃ (k : Nat) (l : Int), at_ = .int .i64 (k : Int) ∧ lv = .int .i64 l ∧ l ≤ 7 ∧ Hid (there ns (k : Int) = true ∧ Below (w.heap.size + 1) W0 wr)

set_option maxRecDepth 100000 in
set_option maxHeartbeats 2000000 in
theorem Down_any (a : Option Addr) (ns : List Nd) (cap : Nat) (en tp : Int) (aq : Option Addr) (cq : Nat) (q : List Int) (w : World) (hG : PG w a ns aq q) :
    Calls Tryz.prog 57 #[PlaneV a ns.length cap en tp, .slice aq q.length cq] w (DownPost ns w) := by
  have G := Lib.hid hG
  clear hG
  have c1 : ∀ W, Kept w W → Calls Tryz.prog 17 #[PlaneV a ns.length cap en tp, .int .i64 en] W fun e w' => e = .returned (.bool (there ns en)) ∧ Kept W w' := fun W hk => There_any a ns cap en tp en W (G.out.keep hk).nodes
  have C1 := Lib.hid c1
  clear c1
  have hr : ∀ r, r = there ns en → Hid (r = there ns en) := fun r h => Lib.hid h
  cases hte : there ns en with
  | false =>
    rw [hte] at C1
    go_enter Tryz.func57, Tryz.ntmps57
    go_wp2_with (first
      | (go_at_call 17; refine (C1.out _ (kept_alloc _ _)).mono ?_; rintro e w1 ⟨rfl, hk1⟩; have HK1 := Lib.hid (Kept.trans (kept_alloc _ _) hk1); clear hk1))
    exact bodyPost_ret (v := .tuple #[.int .i64 0, .bool false]) (by simp [results, Tryz.results57, go_sem]) rfl ⟨0, false, rfl, (by intro h; cases h), HK1.out⟩
  | true =>
    have HT := Lib.hid hte
    rw [hte] at C1
    obtain ⟨k, n, rfl, -, -, -⟩ := there_nat hte
    clear hte hr
    go_enter Tryz.func57, Tryz.ntmps57
    go_wp2_with (first
      | (go_at_call 17; refine (C1.out _ (kept_alloc _ _)).mono ?_; rintro e w1 ⟨rfl, hk1⟩
         have d2 := kcell hk1 (cell_new (w := w) (cs := #[.slice a ns.length cap, .int .i64 (k : Int), .int .i64 tp]) (t := 24) (b := w.heap.size) (i := 2) rfl rfl)
         have l1 := lt_of_cell d2
         have HB1 := Lib.hid (Below.mono hk1 (show w.heap.size + 1 ≤ _ by simp)); clear hk1))
    go_loopw [6, 7] (WDownRel ns w (w.alloc (.cells #[.slice a ns.length cap, .int .i64 (k : Int), .int .i64 tp] 24))) (fun _ l _ => (intOf l).toNat)
    case atStart => exact ⟨k, _, rfl, rfl, by omega, HT.out, HB1.out⟩
    case round =>
      obtain ⟨kc, l, rfl, rfl, hl7, hr⟩ := hrel
      have HTK := Lib.hid hr.out.1
      have HB := Lib.hid hr.out.2
      have d0 : wr.cell? ⟨w.heap.size, 0, none⟩ = some (.slice a ns.length cap) := (HB.out.cell (p := ⟨w.heap.size, 0, none⟩) (by simp)).trans (cell_new rfl rfl)
      have e1 : wr.cell? ⟨w.heap.size, 1, none⟩ = some (.int .i64 (k : Int)) := (HB.out.cell (p := ⟨w.heap.size, 1, none⟩) (by simp)).trans (cell_new rfl rfl)
      have e2 : wr.cell? ⟨w.heap.size, 2, none⟩ = some (.int .i64 tp) := (HB.out.cell (p := ⟨w.heap.size, 2, none⟩) (by simp)).trans (cell_new rfl rfl)
      have l3 := lt_of_cell d0
      have KR : Hid (Kept w wr) := Kept.trans (kept_alloc w (.cells #[.slice a ns.length cap, .int .i64 (k : Int), .int .i64 tp] 24)) (Below.mono HB.out (by simp))
      clear hr d2 l1
      by_cases h0 : 0 < l
      · obtain ⟨m, rfl⟩ := Int.eq_ofNat_of_zero_le (Int.le_of_lt h0)
        go_wp2_with (first
          | (go_at_call 73; refine (Level_any a ns cap (k : Int) tp aq cq q kc m _ (G.out.keep KR.out) HTK.out).mono ?_; rintro e w3 ⟨v, ys, k', rfl, ht', hown', hk3⟩
             obtain ⟨av, cv, rfl, hnone, hsome⟩ := own_slice hown'
             rcases av with _ | A
             · exact absurd (hnone rfl).2 (by omega)
             obtain ⟨g, rfl, hgb, hgl⟩ := hsome A rfl
             have hmax := own_max hown'
             have hcl := hown'.cellAt ys.length (by omega)
             rw [ints_snoc, List.getElem?_append_right (by simp [ints]), show ys.length - (ints .i64 ys).length = 0 by simp [ints]] at hcl
             simp only [List.getElem?_cons_zero] at hcl
             have HT' := Lib.hid ht'
             have HK3 := Lib.hid (HB.out.trans (Below.mono hk3 (by omega)))
             clear hown' hnone hsome hk3 ht'))
        refine ⟨⟨k', _, rfl, rfl, by omega, ⟨HT'.out, HK3.out⟩⟩, by simp only [intOf]; omega⟩
      · go_wp2
        exact bodyPost_ret (v := .tuple #[.int .i64 (kc : Int), .bool true]) (by simp [results, Tryz.results57, go_sem]) rfl ⟨_, true, rfl, fun _ => HTK.out, KR.out⟩
end Go.Proofs.YtajbimmfkbgcpaaGreat
