/-
  plane.Ring.
  the two closures of plane.ring; a plane's box.
  FRAMES: all blocks but some stand as they stood. Of no program.
  plane.list and its closure.
-/
import Derived.Test.YtajbimmfkbgcpaaGreatKBase
import Derived.Test.YtajbimmfkbgcpaaGreatKMaps
import Derived.Deep.RegionHeld3
/- plane.Ring. -/
namespace Go.Proofs.YtajbimmfkbgcpaaGreat
open Go.RowKit

def nextOf (ns : List Nd) (x : Nat) : Int := match ns[x]? with | some n => n.next | none => 0
/-- From c on the slots r are met, each by its next, and cur stands behind the last. -/
def Chain (ns : List Nd) : Int → List Nat → Int → Prop
  | c, [], cur => c = cur
  | c, x :: r, cur => c = (x : Int) ∧ there ns (x : Int) = true ∧ Chain ns (nextOf ns x) r cur
theorem Chain.snoc {ns : List Nd} : ∀ {r : List Nat} {c : Int} {x : Nat}, Chain ns c r (x : Int) → there ns (x : Int) = true → Chain ns c (r ++ [x]) (nextOf ns x)
  | [], _, _, h, ht => ⟨h, ht, rfl⟩
  | _ :: _, _, _, h, ht => ⟨h.1, h.2.1, Chain.snoc h.2.2 ht⟩
theorem there_lt {ns : List Nd} {s : Int} (h : there ns s = true) : 0 < s ∧ s < ns.length := by
  unfold there at h
  simp only [Bool.and_eq_true, decide_eq_true_eq] at h
  refine ⟨h.1, ?_⟩
  cases hn : ns[s.toNat]? with
  | none => rw [hn] at h; simp at h
  | some n => have := (List.getElem?_eq_some_iff.1 hn).1; omega
theorem nodup_lt_length : ∀ {n : Nat} {r : List Nat}, r.Nodup → (∀ x ∈ r, x < n) → r.length ≤ n
  | 0, r, _, h => by
    cases r with
    | nil => simp
    | cons x r => exact absurd (h x (by simp)) (by omega)
  | n + 1, r, hn, h => by
    by_cases hm : n ∈ r
    · have h1 := nodup_lt_length (n := n) (r := r.erase n) (hn.erase n) (fun x hx => by
        have hx' := (hn.mem_erase_iff).1 hx
        have := h x hx'.2
        omega)
      have h2 := List.length_erase_of_mem hm
      omega
    · have h1 := nodup_lt_length (n := n) (r := r) hn (fun x hx => by
        have := h x hx
        have : x ≠ n := fun e => hm (e ▸ hx)
        omega)
      omega
theorem alloc_size (w : World) (o : Obj) : (w.alloc o).heap.size = w.heap.size + 1 := by simp

def lenOf : Value → Nat | .slice _ n _ => n | _ => 0
theorem lenOf_own {w : World} {base : Nat} {e : TypeId} {size n : Nat} {v : Value} {xs : List Value} (h : w.ownsRow base e size v n xs) : lenOf v = n := by
  rcases h.2 with ⟨rfl, h0⟩ | ⟨g, cap, cur, rfl, _⟩
  · simp [lenOf, h0]
  · rfl
theorem count_nats (r : List Nat) (k : Nat) : (nats r).count (k : Int) = r.count k := by
  induction r with
  | nil => rfl
  | cons x r ih =>
    simp only [nats, List.map_cons, List.count_cons] at ih ⊢
    rw [ih]
    congr 1
    by_cases h : x = k
    · simp [h]
    · have h' : ¬ (x : Int) = (k : Int) := by omega
      simp [h, h']

theorem map_new_at (w : World) (o : Obj) : MapIs ((w.alloc o).alloc (.map #[] 0)) (w.heap.size + 1) (Value.int .i64) (cntM (nats [])) := by
  have h := MapIs.new (w.alloc o) (Value.int .i64)
  rw [alloc_size] at h
  exact h

theorem own_only {w w' : World} {b base : Nat} {e : TypeId} {size n : Nat} {v : Value} {xs : List Value} (h : w.ownsRow base e size v n xs) (ho : Only b w w') (hb : b < base) : w'.ownsRow base e size v n xs := by
  refine ⟨h.1, ?_⟩
  rcases h.2 with h2 | ⟨g, cap, cur, hv, hg, hh, r⟩
  · exact .inl h2
  · refine .inr ⟨g, cap, cur, hv, hg, ?_, r⟩
    rw [ho.block g (by omega)]
    exact hh

/-- What plane.Ring leaves. -/
def RingPost (ns : List Nd) (w : World) (e : Ending) (w' : World) : Prop :=
  ∃ (v : Value) (r : List Nat), e = .returned v ∧ w'.ownsRow w.heap.size 3 1 v r.length (ints .i64 (nats r)) ∧ Kept w w' ∧ r.Nodup ∧ (∀ x ∈ r, there ns (x : Int) = true) ∧ ∃ cur, Chain ns (nextOf ns 0) r cur

theorem ringPost_nil (w w' : World) (h : Kept w w') : RingPost [] w (.returned (.slice none 0 0)) w' :=
  ⟨_, [], rfl, World.ownsRow_nil _ _ _ _, h, List.nodup_nil, (by simp), 0, rfl⟩

/-- The relation of plane.Ring's loop. -/
def RingRel (ns : List Nd) (w : World) (v at_ : Value) (wr : World) : Prop :=
  ∃ (r : List Nat) (c : Int), at_ = .int .i64 c ∧ wr.ownsRow (w.heap.size + 2) 3 1 v r.length (ints .i64 (nats r)) ∧ MapIs wr (w.heap.size + 1) (Value.int .i64) (cntM (nats r)) ∧ r.Nodup ∧ (∀ x ∈ r, there ns (x : Int) = true) ∧ Chain ns (nextOf ns 0) r c

set_option maxRecDepth 100000 in
set_option maxHeartbeats 1000000 in
theorem Ring_any (a : Option Addr) (ns : List Nd) (cap : Nat) (en tp : Int) (w : World) (hm : ns.length ≤ 4398046511104) (hN : NodesAt w a ns) :
    Calls Tryz.prog 33 #[PlaneV a ns.length cap en tp] w (RingPost ns w) := by
  have hmm := @run_makeMap Tryz.prog
  by_cases h0 : ns.length = 0
  · have : ns = [] := List.eq_nil_of_length_eq_zero h0
    subst this
    have hd : (((0 : Nat) : Int) == 0) = true := rfl
    clear hN hm
    go_enter Tryz.func33, Tryz.ntmps33
    go_wp2
    go_ret
    exact ringPost_nil w _ ((Kept.rfl' w).alloc (Nat.le_refl _) _)
  · obtain ⟨n0, hn0⟩ : ∃ n, ns[0]? = some n := ⟨ns[0]'(by omega), List.getElem?_eq_getElem (by omega)⟩
    obtain ⟨b, o, rfl, hlt, hc, -, -, -⟩ := hN 0 n0 hn0
    have hc5 := hc 5 (.int .i64 n0.next) rfl
    have hd : ((ns.length : Int) == 0) = false := by rw [beq_eq_false_iff_ne]; omega
    have hlen : 0 < ns.length := by omega
    have hnx : nextOf ns 0 = n0.next := by unfold nextOf; rw [hn0]
    have Hnx := Lib.hid hnx
    have HN := Lib.hid hN
    clear hn0 hc hN hnx
    go_enter Tryz.func33, Tryz.ntmps33
    go_wp2_with fail
    clear hmm hd
    have hN1 := Lib.hid (HN.out.keep ((Kept.rfl' w).alloc (Nat.le_refl _) (.cells #[.slice (some ⟨b, o, none⟩) ns.length cap, .int .i64 en, .int .i64 tp] 24)))
    go_loopw [3, 5] (fun v at_ wr => RingRel ns w v at_ wr ∧ Below (w.heap.size + 1) (w.alloc (.cells #[.slice (some ⟨b, o, none⟩) ns.length cap, .int .i64 en, .int .i64 tp] 24)) wr) (fun v _ _ => ns.length - lenOf v)
    case atStart =>
      exact ⟨⟨[], n0.next, rfl, World.ownsRow_nil _ _ _ _, map_new_at w _, List.nodup_nil, by simp, Hnx.out⟩, (Below.refl _ _).alloc (by simp) _⟩
    case round =>
      obtain ⟨⟨r, c, rfl, hown, hmap, hnd, hth, hch⟩, hb⟩ := hrel
      have hbox : wr.cell? ⟨w.heap.size, 0, none⟩ = some (.slice (some ⟨b, o, none⟩) ns.length cap) := (hb.cell (p := ⟨w.heap.size, 0, none⟩) (by simp)).trans (by simp)
      have hbox1 : wr.cell? ⟨w.heap.size, 1, none⟩ = some (.int .i64 en) := (hb.cell (p := ⟨w.heap.size, 1, none⟩) (by simp)).trans (by simp)
      have hbox2 : wr.cell? ⟨w.heap.size, 2, none⟩ = some (.int .i64 tp) := (hb.cell (p := ⟨w.heap.size, 2, none⟩) (by simp)).trans (by simp)
      have hNr := Lib.hid (hN1.out.keep (hb.mono (by simp)))
      have hsz : w.heap.size + 2 ≤ wr.heap.size := by have := hmap.lt; omega
      have hkeep : Kept w wr := ((Kept.rfl' w).alloc (Nat.le_refl _) _).trans (hb.mono (by omega))
      have hrl : r.length ≤ ns.length := nodup_lt_length hnd fun x hx => by have := (there_lt (hth x hx)).2; omega
      have HB := Lib.hid hb
      have HN1 := hN1
      clear hN1 HN hb
      cases ht : there ns c with
      | false =>
        have Ht := Lib.hid ht
        have Hfin : Hid (∀ w', Kept wr w' → RingPost ns w (.returned u3) w') := fun w' hk => ⟨u3, r, rfl, own_weaken (own_kept hown hk) (by omega), hkeep.trans hk, hnd, hth, c, hch⟩
        clear ht hown hmap hnd hth hch hkeep
        go_wp2_with (first | (go_at_call 17; refine (There_any (some ⟨b, o, none⟩) ns cap en tp c wr hNr.out).mono ?_; rw [Ht.out]; rintro e w1 ⟨rfl, hw1⟩))
        go_ret
        exact Hfin.out _ hw1
      | true =>
        obtain ⟨hc0, hc1⟩ := there_lt ht
        obtain ⟨k, rfl⟩ := Int.eq_ofNat_of_zero_le (Int.le_of_lt hc0)
        have Ht := Lib.hid ht
        have hlook : ∀ W, Kept wr W → (Instr.lookup 94 (.map (some (w.heap.size + 1))) (.int .i64 (k : Int)) false).run Tryz.prog W = .ok (.int .i64 (r.count k : Int)) W := fun W hW => by
          have := run_lookup_m (P := Tryz.prog) (t := 94) Tryz.keyInt Tryz.underlying94 (Tryz.zeroInt W) (hmap.keep hW) (k : Int)
          rwa [cntM_get, count_nats] at this
        have hcl : r.count k ≤ ns.length := Nat.le_trans List.count_le_length hrl
        by_cases hk : k ∈ r
        · have hpos : 0 < r.count k := List.count_pos_iff.2 hk
          have Hfin : Hid (∀ w', Kept wr w' → RingPost ns w (.returned u3) w') := fun w' hk => ⟨u3, r, rfl, own_weaken (own_kept hown hk) (by omega), hkeep.trans hk, hnd, hth, k, hch⟩
          clear ht hown hmap hnd hth hch hkeep hk
          generalize r.count k = ck at *
          have hd : ((ck : Int) == 0) = false := by rw [beq_eq_false_iff_ne]; omega
          go_wp2_with (first | (go_at_call 17; refine (There_any (some ⟨b, o, none⟩) ns cap en tp k wr hNr.out).mono ?_; rw [Ht.out]; rintro e w1 ⟨rfl, hw1⟩))
          go_ret
          exact Hfin.out _ hw1
        · have hz : r.count k = 0 := List.count_eq_zero_of_not_mem hk
          rw [hz] at hlook
          obtain ⟨n, hn⟩ : ∃ n, ns[k]? = some n := ⟨ns[k]'(by omega), List.getElem?_eq_getElem (by omega)⟩
          obtain ⟨b', o', hbo, hltk, hck, -, -, -⟩ := hNr.out k n hn
          obtain ⟨rfl, rfl⟩ : b' = b ∧ o' = o := by injection hbo with h; injection h with h1 h2; exact ⟨h1.symm, h2.symm⟩
          have hck5 := hck 5 (.int .i64 n.next) rfl
          have hnk : nextOf ns k = n.next := by unfold nextOf; rw [hn]
          have Hch : Hid (Chain ns (nextOf ns 0) (r ++ [k]) n.next) := by rw [← hnk]; exact hch.snoc ht
          have Hnd : Hid ((r ++ [k]).Nodup ∧ ∀ x ∈ r ++ [k], there ns (x : Int) = true) := by
            refine ⟨?_, ?_⟩
            · rw [List.nodup_append]
              refine ⟨hnd, by simp, ?_⟩
              intro x hx y hy
              simp only [List.mem_singleton] at hy
              subst hy
              exact fun e => hk (e ▸ hx)
            · intro x hx
              rcases List.mem_append.1 hx with hx | hx
              · exact hth x hx
              · simp only [List.mem_singleton] at hx; subst hx; exact ht
          have hrl2 : r.length + 1 ≤ ns.length := by
            have := nodup_lt_length (n := ns.length) Hnd.out.1 fun x hx => by have := (there_lt (Hnd.out.2 x hx)).2; omega
            simpa using this
          have Hput : Hid (putM (cntM (nats r)) (k : Int) (.int .i64 1) = cntM (nats (r ++ [k]))) := by
            have := cntM_put (nats r) (k : Int)
            rw [count_nats, hz] at this
            rw [nats_snoc]
            exact this
          have Hlen := Lib.hid (lenOf_own hown)
          have Hints : Hid (ints .i64 (nats (r ++ [k])) = ints .i64 (nats r) ++ [.int .i64 (k : Int)]) := by rw [nats_snoc, ints_snoc]; rfl
          have HnK := Lib.hid hn
          clear ht hnd hth hch hk hz hn hck hnk
          go_wp2_with (first
            | (go_at_call 17; refine (There_any (some ⟨b', o', none⟩) ns cap en tp k wr hNr.out).mono ?_; rw [Ht.out]; rintro e w1 ⟨rfl, hw1⟩)
            | (at_mapUpdate; refine wpList_update_m Tryz.keyInt Tryz.underlying94 rfl _ _ _ rfl rfl (hmap.keep hw1) (k : Int) rfl _ rfl ?_))
          intro w2 hm2 ho2
          rw [Hput.out] at hm2
          have hsz1 := hw1.size
          have hsz2 : w1.heap.size ≤ w2.heap.size := by rw [ho2.size]; exact Nat.le_refl _
          have hown2 := own_only (own_kept hown hw1) ho2 (by omega)
          have hb2 : Hid (Below (w.heap.size + 1) (w.alloc (.cells #[.slice (some ⟨b', o', none⟩) ns.length cap, .int .i64 en, .int .i64 tp] 24)) w2) := (HB.out.trans (hw1.mono (by omega))).trans (ho2.below (Nat.le_refl _))
          clear hown hmap hlook hw1 ho2 HB
          have hbx : w2.cell? ⟨w.heap.size, 0, none⟩ = some (.slice (some ⟨b', o', none⟩) ns.length cap) := (hb2.out.cell (p := ⟨w.heap.size, 0, none⟩) (by simp)).trans (by simp)
          have hN2 := Lib.hid (HN1.out.keep (hb2.out.mono (by simp)))
          obtain ⟨b2, o2, hbo, _, hck, -, -, -⟩ := hN2.out k n HnK.out
          obtain ⟨rfl, rfl⟩ : b2 = b' ∧ o2 = o' := by injection hbo with h; injection h with h1 h2; exact ⟨h1.symm, h2.symm⟩
          have hck5 := hck 5 (.int .i64 n.next) rfl
          clear hck hbo
          go_wp2_with (first
            | (at_builtin; refine wpList_push Tryz.elemInt rfl _ _ rfl (w.heap.size + 2) _ _ _ #[.int .i64 (k : Int)] rfl rfl (by exact hown2) rfl ?c1 ?c2 ?c3 ?c4 ?_))
          case c1 => simp [Value.oneCell']
          case c2 => unfold maxLen; omega
          case c3 => omega
          case c4 => omega
          intro v' w3 hown3 hb3
          rw [← Hints.out] at hown3
          have hm3 := hm2.of_block (hb3.block _ (by omega))
          have hb4 := Lib.hid (hb2.out.trans (hb3.mono (by omega)))
          have hl3 := lenOf_own hown3
          have hbx3 : w3.cell? ⟨w.heap.size, 0, none⟩ = some (.slice (some ⟨b2, o2, none⟩) ns.length cap) := (hb4.out.cell (p := ⟨w.heap.size, 0, none⟩) (by simp)).trans (by simp)
          have hc3 : w3.cell? ⟨b2, o2 + k * 7 + 5, none⟩ = some (.int .i64 n.next) := (hb3.cell (p := ⟨b2, o2 + k * 7 + 5, none⟩) (by show b2 < _; omega)).trans hck5
          have Hl3 := Lib.hid hl3
          clear hb3 hm2 hown2 hbx hck5 hl3
          go_wp2
          go_roundw
          case rel => exact ⟨⟨r ++ [k], n.next, rfl, by simpa using hown3, hm3, Hnd.out.1, Hnd.out.2, Hch.out⟩, hb4.out⟩
          case measure => have := Hl3.out; have := Hlen.out; simp; omega
end Go.Proofs.YtajbimmfkbgcpaaGreat

/- the two closures of plane.ring; a plane's box. -/
namespace Go.Proofs.YtajbimmfkbgcpaaGreat
open Go.RowKit

abbrev NdV (n : Nd) : Value := .agg #[.int .u64 n.id, .slice n.va n.vec.length n.vc, .int .u64 n.tags, .int .i64 n.level, .slice n.la n.lists.length n.lc, .int .i64 n.next, .int .i64 n.prev]
def bareB (n : Nd) : Bool := decide (n.next = -1) && decide (n.prev = -1) && decide (n.level = 0) && decide (n.lists.length = 0)

def bareR (level : Int) (ll : Nat) (next prev : Int) : Bool := decide (next = -1) && decide (prev = -1) && decide (level = 0) && decide (ll = 0)
theorem bareB_R (n : Nd) : bareB n = bareR n.level n.lists.length n.next n.prev := rfl
set_option maxRecDepth 100000 in
set_option maxHeartbeats 400000 in
theorem bare_raw (id tags level next prev : Int) (va la : Option Addr) (vl vc ll lc : Nat) (w : World) : Calls Tryz.prog 31 #[.agg #[.int .u64 id, .slice va vl vc, .int .u64 tags, .int .i64 level, .slice la ll lc, .int .i64 next, .int .i64 prev]] w fun e w' => e = .returned (.bool (bareR level ll next prev)) ∧ Kept w w' := by
  by_cases h1 : next = -1
  · have d1 : (next == -1) = true := by simpa using h1
    by_cases h2 : prev = -1
    · have d2 : (prev == -1) = true := by simpa using h2
      by_cases h3 : level = 0
      · have d3 : (level == 0) = true := by simpa using h3
        by_cases h4 : ll = 0
        · have d4 : ((ll : Int) == 0) = true := by rw [beq_iff_eq]; omega
          have H := Lib.hid (show bareR level ll next prev = true by unfold bareR; simp [h1, h2, h3, h4])
          clear h1  h2  h3  h4
          go_enter Tryz.func31, Tryz.ntmps31
          go_wp2
          go_ret
          exact ⟨ret_bool H.out.symm, (Kept.rfl' w).alloc (Nat.le_refl _) _⟩
        · have d4 : ((ll : Int) == 0) = false := by rw [beq_eq_false_iff_ne]; omega
          have H := Lib.hid (show bareR level ll next prev = false by unfold bareR; simp [h1, h2, h3, h4])
          clear h1  h2  h3  h4
          go_enter Tryz.func31, Tryz.ntmps31
          go_wp2
          go_ret
          exact ⟨ret_bool H.out.symm, (Kept.rfl' w).alloc (Nat.le_refl _) _⟩
      · have d3 : (level == 0) = false := by simpa using h3
        have H := Lib.hid (show bareR level ll next prev = false by unfold bareR; simp [h1, h2, h3])
        clear h1  h2  h3
        go_enter Tryz.func31, Tryz.ntmps31
        go_wp2
        go_ret
        exact ⟨ret_bool H.out.symm, (Kept.rfl' w).alloc (Nat.le_refl _) _⟩
    · have d2 : (prev == -1) = false := by simpa using h2
      have H := Lib.hid (show bareR level ll next prev = false by unfold bareR; simp [h1, h2])
      clear h1  h2
      go_enter Tryz.func31, Tryz.ntmps31
      go_wp2
      go_ret
      exact ⟨ret_bool H.out.symm, (Kept.rfl' w).alloc (Nat.le_refl _) _⟩
  · have d1 : (next == -1) = false := by simpa using h1
    have H := Lib.hid (show bareR level ll next prev = false by unfold bareR; simp [h1])
    clear h1
    go_enter Tryz.func31, Tryz.ntmps31
    go_wp2
    go_ret
    exact ⟨ret_bool H.out.symm, (Kept.rfl' w).alloc (Nat.le_refl _) _⟩

theorem bare_any (n : Nd) (w : World) : Calls Tryz.prog 31 #[NdV n] w fun e w' => e = .returned (.bool (bareB n)) ∧ Kept w w' := bare_raw _ _ _ _ _ _ _ _ _ _ _ w

/-- Whether a slot may stand in the ring. -/
def placeB (ns : List Nd) (s : Int) : Bool := decide (s = 0) || there ns s

/-- A plane's box: its three cells. -/
structure PBox (w : World) (b : Nat) (a : Option Addr) (len cap : Nat) (en tp : Int) : Prop where
  c0 : w.cell? ⟨b, 0, none⟩ = some (.slice a len cap)
  c1 : w.cell? ⟨b, 1, none⟩ = some (.int .i64 en)
  c2 : w.cell? ⟨b, 2, none⟩ = some (.int .i64 tp)
theorem PBox.keep {w w' : World} {b : Nat} {a : Option Addr} {len cap : Nat} {en tp : Int} (h : PBox w b a len cap en tp) (hk : Kept w w') : PBox w' b a len cap en tp :=
  ⟨(hk.cell (p := ⟨b, 0, none⟩) (lt_of_cell h.c0)).trans h.c0, (hk.cell (p := ⟨b, 1, none⟩) (lt_of_cell h.c0)).trans h.c1, (hk.cell (p := ⟨b, 2, none⟩) (lt_of_cell h.c0)).trans h.c2⟩
theorem PBox.new (w : World) (a : Option Addr) (len cap : Nat) (en tp : Int) (t : TypeId) : PBox (w.alloc (.cells #[.slice a len cap, .int .i64 en, .int .i64 tp] t)) w.heap.size a len cap en tp := ⟨by simp, by simp, by simp⟩

set_option maxRecDepth 100000 in
set_option maxHeartbeats 400000 in
theorem place_slot (b : Nat) (a : Option Addr) (ns : List Nd) (cap : Nat) (en tp s : Int) (w : World) (hN : NodesAt w a ns) (hB : PBox w b a ns.length cap en tp) :
    Calls Tryz.prog 32 #[.int .i64 s, .pointer (some ⟨b, 0, none⟩)] w fun e w' => e = .returned (.bool (placeB ns s)) ∧ Kept w w' := by
  obtain ⟨c0, c1, c2⟩ := hB
  have hT := fun W h => There_any a ns cap en tp s W h
  have HT := Lib.hid hT; have HN := Lib.hid hN
  clear hT hN
  by_cases h : s = 0
  · have H := Lib.hid (show placeB ns s = true by unfold placeB; rw [h]; rfl)
    have d : (s == 0) = true := by simpa using h
    clear h
    go_enter Tryz.func32, Tryz.ntmps32
    go_wp2
    go_ret
    exact ⟨ret_bool H.out.symm, Kept.rfl' w⟩
  · have H := Lib.hid (show placeB ns s = there ns s by unfold placeB; simp [h])
    have d : (s == 0) = false := by simpa using h
    clear h
    generalize ns.length = len at *
    go_enter Tryz.func32, Tryz.ntmps32
    go_wp2_with (first | (go_at_call 17; refine (HT.out _ HN.out).mono ?_; rintro e w1 ⟨rfl, hw1⟩))
    go_ret
    exact ⟨ret_bool H.out.symm, hw1⟩










end Go.Proofs.YtajbimmfkbgcpaaGreat

/- FRAMES: all blocks but some stand as they stood. Of no program. -/
namespace Go.Proofs.YtajbimmfkbgcpaaGreat
open Go.RowKit

theorem kept_alloc (w : World) (o : Obj) : Kept w (w.alloc o) := (Kept.rfl' w).alloc (Nat.le_refl _) _

structure Far (F : Nat → Prop) (w w' : World) : Prop where
  os : w'.os = w.os
  tape : w'.tape = w.tape
  output : w'.output = w.output
  size : w.heap.size ≤ w'.heap.size
  block : ∀ k, k < w.heap.size → ¬ F k → w'.heap[k]? = w.heap[k]?

section
variable {F G : Nat → Prop} {w w' w'' : World}
theorem Far.refl (F : Nat → Prop) (w : World) : Far F w w := ⟨rfl, rfl, rfl, Nat.le_refl _, fun _ _ _ => rfl⟩
theorem Far.trans (h : Far F w w') (k : Far F w' w'') : Far F w w'' :=
  ⟨k.os.trans h.os, k.tape.trans h.tape, k.output.trans h.output, Nat.le_trans h.size k.size, fun i hi hF => (k.block i (Nat.lt_of_lt_of_le hi h.size) hF).trans (h.block i hi hF)⟩
/-- Two steps: what the second one may turn is new, or was let to the first one. -/
theorem Far.trans' (h : Far F w w') (k : Far G w' w'') (hG : ∀ i, G i → F i ∨ w.heap.size ≤ i) : Far F w w'' :=
  ⟨k.os.trans h.os, k.tape.trans h.tape, k.output.trans h.output, Nat.le_trans h.size k.size, fun i hi hF => (k.block i (Nat.lt_of_lt_of_le hi h.size) (fun hg => by rcases hG i hg with h1 | h1; exact hF h1; omega)).trans (h.block i hi hF)⟩
theorem Far.of_kept (F : Nat → Prop) (h : Kept w w') : Far F w w' := ⟨h.os, h.tape, h.output, h.size, fun k hk _ => h.block k hk⟩
theorem Far.of_only {b : Nat} (h : Only b w w') (hb : F b) : Far F w w' := ⟨h.os, h.tape, h.output, by rw [h.size]; exact Nat.le_refl _, fun k _ hF => h.block k (fun e => hF (e ▸ hb))⟩
theorem Far.of_below {B : Nat} (h : Below B w w') (hB : ∀ k, B ≤ k → F k ∨ w.heap.size ≤ k) : Far F w w' :=
  ⟨h.os, h.tape, h.output, h.size, fun k hk hF => h.block k (by
    rcases Nat.lt_or_ge k B with h1 | h1
    · exact h1
    · rcases hB k h1 with h2 | h2
      · exact absurd h2 hF
      · omega)⟩
theorem Far.mono (h : Far F w w') (hF : ∀ k, k < w.heap.size → F k → G k) : Far G w w' := ⟨h.os, h.tape, h.output, h.size, fun k hk hG => h.block k hk (fun hf => hG (hF k hk hf))⟩
theorem Far.below {B : Nat} (h : Far F w w') (hB : ∀ k, F k → B ≤ k) (hw : B ≤ w.heap.size) : Below B w w' :=
  ⟨h.os, h.tape, h.output, h.size, fun k hk => h.block k (by omega) (fun hf => by have := hB k hf; omega)⟩
theorem Far.cell (h : Far F w w') {b i : Nat} {v : Value} (hc : w.cell? ⟨b, i, none⟩ = some v) (hF : ¬ F b) : w'.cell? ⟨b, i, none⟩ = some v :=
  (World.cell?_of_block (h.block b (lt_of_cell hc) hF)).trans hc
theorem IntsAt.far {k : IntKind} {a : Option Addr} {xs : List Int} (h : IntsAt k w a xs) (hF : ∀ b o, a = some ⟨b, o, none⟩ → ¬ F b) (hf : Far F w w') : IntsAt k w' a xs := by
  intro i x hx
  obtain ⟨b, o, ha, hlt, hc⟩ := h i x hx
  exact ⟨b, o, ha, Nat.lt_of_lt_of_le hlt hf.size, hf.cell hc (hF b o ha)⟩
theorem MapIs.far {α : Type} {b : Nat} {enc : α → Value} {m : List (α × Value)} (h : MapIs w b enc m) (hF : ¬ F b) (hf : Far F w w') : MapIs w' b enc m := h.of_block (hf.block b h.lt hF)
theorem own_far {base : Nat} {e : TypeId} {size n : Nat} {v : Value} {xs : List Value} (h : w.ownsRow base e size v n xs) (hF : ∀ b, v.ownBlock = some b → ¬ F b) (hf : Far F w w') : w'.ownsRow base e size v n xs := by
  refine ⟨h.1, ?_⟩
  rcases h.2 with h2 | ⟨g, cap, cur, hv, hg, hh, r⟩
  · exact .inl h2
  · refine .inr ⟨g, cap, cur, hv, hg, ?_, r⟩
    rw [hf.block g (Array.getElem?_eq_some_iff.1 hh).1 (hF g (by rw [hv]; rfl))]
    exact hh
end
/-- Numbers in memory of the call's own: where they lie. -/
theorem ints_of_own' {k : IntKind} {w : World} {base : Nat} {e : TypeId} {n : Nat} {v : Value} {xs : List Int} (h : w.ownsRow base e 1 v n (ints k xs)) : ∃ a c, v = .slice a xs.length c ∧ xs.length ≤ c ∧ IntsAt k w a xs ∧ ∀ b o, a = some ⟨b, o, none⟩ → base ≤ b ∧ b < w.heap.size := by
  obtain ⟨a, c, hv, hc, hi⟩ := ints_of_own h
  refine ⟨a, c, hv, hc, hi, fun b o ha => ?_⟩
  subst ha
  have := h.lt b (by rw [hv]; rfl)
  exact this
end Go.Proofs.YtajbimmfkbgcpaaGreat

/- plane.list and its closure. -/
namespace Go.Proofs.YtajbimmfkbgcpaaGreat
open Go.RowKit

theorem cell_old {w : World} {o : Obj} {b i : Nat} {v : Value} (h : w.cell? ⟨b, i, none⟩ = some v) : (w.alloc o).cell? ⟨b, i, none⟩ = some v :=
  (World.cell?_alloc_lt w o ⟨b, i, none⟩ (lt_of_cell h)).trans h
theorem cell_new {w : World} {cs : Array Value} {t b i : Nat} {v : Value} (hb : b = w.heap.size) (h : cs[i]? = some v) : (w.alloc (.cells cs t)).cell? ⟨b, i, none⟩ = some v := by
  subst hb
  have h1 : (w.alloc (.cells cs t)).heap[w.heap.size]? = some (.cells cs t (0, 0)) := by show (w.heap.push _)[w.heap.size]? = _; simp
  unfold World.cell?
  simp only
  rw [h1]
  simpa using h

/-- A node's list of a level, where it has one. -/
def listOf (ns : List Nd) (x level : Nat) : List Int := match ns[x]? with | some n => n.lists.getD level [] | none => []
/-- Whether a neighbour is not right: it is not there, has no such level, or does not know the slot. -/
def badN (ns : List Nd) (slot level : Nat) (x : Int) : Bool :=
  !there ns x || !decide (level < (match ns[x.toNat]? with | some n => n.lists.length | none => 0)) || !hasI (listOf ns x.toNat level) (slot : Int)

theorem ListsAt.at_ {w : World} {a : Option Addr} {ls : List (List Int)} (h : ListsAt w a ls) {i : Nat} (hi : i < ls.length) :
    ∃ b o la lc, a = some ⟨b, o, none⟩ ∧ w.cell? ⟨b, o + i, none⟩ = some (.slice la (ls.getD i []).length lc) ∧ IntsAt .i64 w la (ls.getD i []) := by
  obtain ⟨b, o, la, lc, h1, _, h3, _, h5⟩ := h i ls[i] (List.getElem?_eq_getElem hi)
  have e : ls.getD i [] = ls[i] := by simp [hi]
  rw [e]
  exact ⟨b, o, la, lc, h1, h3, h5⟩

set_option maxRecDepth 100000 in
set_option maxHeartbeats 2000000 in
theorem listC_any (bg bl bs : Nat) (a : Option Addr) (ns : List Nd) (cap : Nat) (en tp x : Int) (slot level : Nat) (w : World) (hN : NodesAt w a ns) (hB : PBox w bg a ns.length cap en tp)
    (hl : w.cell? ⟨bl, 0, none⟩ = some (.int .i64 (level : Int))) (hs : w.cell? ⟨bs, 0, none⟩ = some (.int .i64 (slot : Int))) :
    Calls Tryz.prog 36 #[.int .i64 x, .pointer (some ⟨bg, 0, none⟩), .pointer (some ⟨bl, 0, none⟩), .pointer (some ⟨bs, 0, none⟩)] w fun e w' => e = .returned (.bool (badN ns slot level x)) ∧ Kept w w' := by
  have hT : ∀ W, Kept w W → Calls Tryz.prog 17 #[PlaneV a ns.length cap en tp, .int .i64 x] W fun e w' => e = .returned (.bool (there ns x)) ∧ Kept W w' := fun W h => There_any a ns cap en tp x W (hN.keep h)
  have lg := lt_of_cell hB.c0
  have ll := lt_of_cell hl
  have ls := lt_of_cell hs
  obtain ⟨c0, c1, c2⟩ := hB
  cases ht : there ns x with
  | false =>
    have H := Lib.hid (show badN ns slot level x = true by simp [badN, ht])
    rw [ht] at hT
    have HT := Lib.hid hT
    clear hN ht hT
    generalize ns.length = len at *
    go_enter Tryz.func36, Tryz.ntmps36
    go_wp2_with fail
    refine wp_region_kept (by kernel_rfl) (by kernel_rfl) ?_
    repeat (go_big_quiet_step (first | (go_at_call 17; exact Calls.kept_of (HT.out _ (gr_kept _ _ _)))))
    refine wpQuiet_nil ?_
    intro w1 hw1
    have hk1 : Kept w w1 := by obtain ⟨p, rfl⟩ := hw1; exact gr_kept _ _ _
    clear hw1
    go_wp2
    go_ret
    exact ⟨ret_bool H.out.symm, hk1⟩
  | true =>
    obtain ⟨x0, x1⟩ := there_lt ht
    obtain ⟨k, rfl⟩ := Int.eq_ofNat_of_zero_le (Int.le_of_lt x0)
    obtain ⟨n, hn⟩ : ∃ n, ns[k]? = some n := ⟨ns[k]'(by omega), List.getElem?_eq_getElem (by omega)⟩
    obtain ⟨b, o, rfl, hlt, hc, -, hls, hf⟩ := hN k n hn
    have q4 := hc 4 _ rfl
    have hlo : listOf ns k level = n.lists.getD level [] := by unfold listOf; rw [hn]
    have hbad : badN ns slot level (k : Int) = (!decide (level < n.lists.length) || !hasI (n.lists.getD level []) (slot : Int)) := by
      unfold badN
      rw [ht, Int.toNat_natCast, hlo, hn]
      simp
    rw [ht] at hT
    have HT := Lib.hid hT
    by_cases hlv : level < n.lists.length
    · obtain ⟨b2, o2, la, lc, hla, hc2, hi⟩ := hls.at_ hlv
      have hlt2 := lt_of_cell hc2
      have hll : (n.lists.getD level []).length ≤ 35184372088832 := by
        have : n.lists.getD level [] = n.lists[level] := by simp [hlv]
        rw [this]; exact hf.listlens _ (List.getElem_mem hlv)
      have HH := Lib.hid (fun W (h : Kept w W) => Has_any la lc (n.lists.getD level []) slot W hll (hi.keep h))
      have H := Lib.hid (show badN ns slot level (k : Int) = !hasI (n.lists.getD level []) (slot : Int) by rw [hbad]; simp [hlv])
      rw [hla] at q4
      clear hN ht hT hn hc hls hf hbad hlo hi hla hll
      generalize (n.lists.getD level []) = l at *
      generalize n.lists.length = nl at *
      generalize ns.length = len at *
      have d : decide (nl ≤ level) = false := by simp; omega
      go_enter Tryz.func36, Tryz.ntmps36
      go_wp2_with fail
      refine wp_region_kept (by kernel_rfl) (by kernel_rfl) ?_
      repeat (go_big_quiet_step (first | (go_at_call 17; exact Calls.kept_of (HT.out _ (gr_kept _ _ _))) | (go_at_call 37; exact Calls.kept_of ((HH.out _ (gr_kept _ _ _)).mono fun e w' hh => ⟨hh.1, hh.2 ▸ Kept.rfl' _⟩))))
      refine wpQuiet_nil ?_
      intro w1 hw1
      have hk1 : Kept w w1 := by obtain ⟨p, rfl⟩ := hw1; exact gr_kept _ _ _
      clear hw1
      go_wp2
      go_ret
      exact ⟨ret_bool H.out.symm, hk1⟩
    · have H := Lib.hid (show badN ns slot level (k : Int) = true by rw [hbad]; simp [hlv])
      clear hN ht hT hn hc hls hf hbad hlo
      generalize n.lists.length = nl at *
      generalize ns.length = len at *
      have d : decide (nl ≤ level) = true := by simp; omega
      go_enter Tryz.func36, Tryz.ntmps36
      go_wp2_with fail
      refine wp_region_kept (by kernel_rfl) (by kernel_rfl) ?_
      repeat (go_big_quiet_step (first | (go_at_call 17; exact Calls.kept_of (HT.out _ (gr_kept _ _ _)))))
      refine wpQuiet_nil ?_
      intro w1 hw1
      have hk1 : Kept w w1 := by obtain ⟨p, rfl⟩ := hw1; exact gr_kept _ _ _
      clear hw1
      go_wp2
      go_ret
      exact ⟨ret_bool H.out.symm, hk1⟩


/-- Whether a node's list of a level is right. -/
def listB (ns : List Nd) (slot level : Nat) (links : Int) : Bool :=
  rightE (listOf ns slot level) (slot : Int) links (level : Int) ((ns.length : Int) - 1) && !(listOf ns slot level).any (badN ns slot level)

set_option maxRecDepth 100000 in
set_option maxHeartbeats 2000000 in
theorem list_any (a : Option Addr) (ns : List Nd) (cap : Nat) (en tp links : Int) (slot level : Nat) (n : Nd) (w : World) (hN : NodesAt w a ns) (hm : ns.length ≤ 4398046511104) (hn : ns[slot]? = some n) (hlv : level < n.lists.length) :
    Calls Tryz.prog 16 #[PlaneV a ns.length cap en tp, .int .i64 (slot : Int), .int .i64 (level : Int), .int .i64 links] w fun e w' => e = .returned (.bool (listB ns slot level links)) ∧ Kept w w' := by
  have hsl : slot < ns.length := (List.getElem?_eq_some_iff.1 hn).1
  obtain ⟨b, o, rfl, hlt, hc, -, hls, hf⟩ := hN slot n hn
  have q4 := hc 4 _ rfl
  obtain ⟨b2, o2, la, lc, hla, hc2, hi⟩ := hls.at_ hlv
  have hlt2 := lt_of_cell hc2
  have hlo : listOf ns slot level = n.lists.getD level [] := by unfold listOf; rw [hn]
  have hll : (n.lists.getD level []).length ≤ 35184372088832 := by
    have : n.lists.getD level [] = n.lists[level] := by simp [hlv]
    rw [this]; exact hf.listlens _ (List.getElem_mem hlv)
  have hllc := hf.listlen
  have hB : listB ns slot level links = (rightE (n.lists.getD level []) slot links level ((ns.length : Int) - 1) && !(n.lists.getD level []).any (badN ns slot level)) := by unfold listB; rw [hlo]
  have eg : ∀ args W, (callFunc 36 args).run Tryz.prog W = .ok (.enter 36 args) W := enters_of Tryz.func36 (by kernel_rfl) rfl
  rw [hla] at q4
  have HN := Lib.hid hN
  have HB := Lib.hid hB
  have EG := Lib.hid eg
  have HI := Lib.hid hi
  have HLL := Lib.hid hll
  clear hN hc hls hf hlo hla hB eg hi hn hll
  generalize hgl : (n.lists.getD level []) = l at *
  generalize hgn : n.lists.length = nl at *
  clear hgl hgn
  have hb3 : b < w.heap.size + 3 := by omega
  have hb1 : b < w.heap.size + 1 := by omega
  have hb2 : b < w.heap.size + 2 := by omega
  have hb23 : b2 < w.heap.size + 3 := by omega
  have hb21 : b2 < w.heap.size + 1 := by omega
  have hb22 : b2 < w.heap.size + 2 := by omega
  have hR := Lib.hid (fun (slots : Int) W (h : Kept w W) => Right_any la lc l slot links level slots W HLL.out (HI.out.keep h))
  go_enter Tryz.func16, Tryz.ntmps16
  go_wp2_with fail
  refine wp_region_kept (by kernel_rfl) (by kernel_rfl) ?_
  repeat (go_big_quiet_step (fail))
  refine wpQuiet_nil ?_
  intro w1 hw1
  have hk1 : Kept (((w.alloc (.cells #[.slice (some ⟨b, o, none⟩) ns.length cap, .int .i64 en, .int .i64 tp] 24)).alloc (.cells #[.int .i64 (slot : Int)] 3)).alloc (.cells #[.int .i64 (level : Int)] 3)) w1 := by obtain ⟨p, rfl⟩ := hw1; exact gr_kept _ _ _
  clear hw1
  have c0 : w1.cell? ⟨w.heap.size, 0, none⟩ = some (.slice (some ⟨b, o, none⟩) ns.length cap) := (hk1.cell (p := ⟨w.heap.size, 0, none⟩) (by simp; omega)).trans (cell_old (cell_old (cell_new rfl rfl)))
  have c1 : w1.cell? ⟨w.heap.size, 1, none⟩ = some (.int .i64 en) := (hk1.cell (p := ⟨w.heap.size, 1, none⟩) (by simp; omega)).trans (cell_old (cell_old (cell_new rfl rfl)))
  have c2 : w1.cell? ⟨w.heap.size, 2, none⟩ = some (.int .i64 tp) := (hk1.cell (p := ⟨w.heap.size, 2, none⟩) (by simp; omega)).trans (cell_old (cell_old (cell_new rfl rfl)))
  have d0 : w1.cell? ⟨w.heap.size + 1, 0, none⟩ = some (.int .i64 (slot : Int)) := (hk1.cell (p := ⟨w.heap.size + 1, 0, none⟩) (by simp)).trans (cell_old (cell_new (by simp) rfl))
  have e0 : w1.cell? ⟨w.heap.size + 2, 0, none⟩ = some (.int .i64 (level : Int)) := (hk1.cell (p := ⟨w.heap.size + 2, 0, none⟩) (by simp)).trans (cell_new (by simp) rfl)
  have hkw : Kept w w1 := ((((Kept.rfl' w).alloc (Nat.le_refl _) _).alloc (by simp) _).alloc (by simp; omega) _).trans (hk1.mono (by simp; omega))
  have Hkw := Lib.hid hkw
  have HPB := Lib.hid (PBox.mk c0 c1 c2)
  clear hk1 hkw
  cases hr : rightE l slot links level ((ns.length : Int) - 1) with
  | false =>
    have H := Lib.hid (show listB ns slot level links = false by rw [HB.out, hr]; rfl)
    have HR := Lib.hid (hR.out ((ns.length : Int) - 1) w1 Hkw.out)
    rw [hr] at HR
    clear hr hR
    go_wp2_with (first | (go_at_call 34; refine HR.out.mono ?_; rintro e w2 ⟨rfl, hw2⟩))
    go_ret
    exact ⟨ret_bool H.out.symm, Hkw.out.trans hw2⟩
  | true =>
    have H := Lib.hid (show listB ns slot level links = !l.any (badN ns slot level) by rw [HB.out, hr]; rfl)
    have HR := Lib.hid (hR.out ((ns.length : Int) - 1) w1 Hkw.out)
    rw [hr] at HR
    clear hr hR
    have HC : Hid (∀ W, Kept w1 W → Calls Tryz.prog 35 #[.slice la l.length lc, .func (.func 36) #[] #[.pointer (some ⟨w.heap.size, 0, none⟩), .pointer (some ⟨w.heap.size + 2, 0, none⟩), .pointer (some ⟨w.heap.size + 1, 0, none⟩)]] W fun e w' => e = .returned (.bool (l.any (badN ns slot level))) ∧ Kept W w') := fun W hW =>
      ContainsFunc_int 36 _ (badN ns slot level) la lc l W HLL.out (HI.out.keep (Hkw.out.trans hW)) EG.out fun x _ W' hW' =>
        listC_any w.heap.size (w.heap.size + 2) (w.heap.size + 1) (some ⟨b, o, none⟩) ns cap en tp x slot level W' (HN.out.keep ((Hkw.out.trans hW).trans hW')) ((HPB.out.keep hW).keep hW')
          (((hW.trans hW').cell (p := ⟨w.heap.size + 2, 0, none⟩) (lt_of_cell e0)).trans e0) (((hW.trans hW').cell (p := ⟨w.heap.size + 1, 0, none⟩) (lt_of_cell d0)).trans d0)
    go_wp2_with (first | (go_at_call 34; refine HR.out.mono ?_; rintro e w2 ⟨rfl, hw2⟩) | (go_at_call 35; refine (HC.out _ (by assumption)).mono ?_; rintro e w3 ⟨rfl, hw3⟩))
    go_ret
    exact ⟨ret_bool H.out.symm, (Hkw.out.trans hw2).trans hw3⟩
end Go.Proofs.YtajbimmfkbgcpaaGreat
