/-
  rank.order, rank.place once more: the world that they leave has grown by draws and blocks alone.
  slices.SortFunc at spots by rank.place; the order itself.
  slices.Clone at spots, rank.Sort, rank.Least, queue.Best.List.
-/
import Derived.Test.YtajbimmfkbgcpaaGreatKBase
import Derived.Sort.Grow
import Derived.Test.YtajbimmfkbgcpaaGreatSortLay
import Derived.Test.YtajbimmfkbgcpaaGreatKQue
import Derived.Shelf.SlSortCmp.NoneTotal
/- rank.order, rank.place once more: the world that they leave has grown by draws and blocks alone. -/
namespace Go.Proofs.YtajbimmfkbgcpaaGreat
open Go.RowKit Go.Sort

def Grew (w w' : World) : Prop := ∃ p : Gr, w' = gr w (w.drawn + p.d) p.os
theorem Grew.rfl' (w : World) : Grew w w := ⟨⟨0, #[]⟩, by simp [gr]⟩
theorem Grew.trans {a b c : World} (h : Grew a b) (k : Grew b c) : Grew a c := by
  obtain ⟨p, rfl⟩ := h
  obtain ⟨q, rfl⟩ := k
  exact ⟨⟨p.d + q.d, p.os ++ q.os⟩, by simp [gr, Array.append_assoc, Nat.add_assoc]⟩
theorem grew_alloc (w : World) (o : Obj) : Grew w (w.alloc o) := ⟨⟨0, #[o]⟩, by rw [Go.Sort.alloc_eq_grow]; rfl⟩
theorem Grew.form {w w' : World} (h : Grew w w') : ∃ q os, w' = grow (w.drewN q) os := by obtain ⟨p, rfl⟩ := h; exact ⟨p.d, p.os, rfl⟩
theorem Calls.grew_of {P : Program} {f : FuncId} {args : Array Value} {w : World} {d : Nat} {os : Array Obj} {v : Value}
    (h : Calls P f args (gr w (w.drawn + d) os) fun e w' => e = .returned v ∧ Grew (gr w (w.drawn + d) os) w') : Calls P f args (gr w (w.drawn + d) os) fun e w'' => e = .returned v ∧ ∃ p : Gr, w'' = gr w (w.drawn + p.d) p.os :=
  h.mono fun _ _ ⟨he, hk⟩ => ⟨he, Grew.trans ⟨⟨d, os⟩, rfl⟩ hk⟩
theorem wp_region_grew_tail {P : Program} {id : Nat} {Q : Exit → Act → World → Prop} {a : Act} {w : World} {l : List Oper} (n : Nat) (hm : P.follows .mixedOrders = true) (hB : Region.lexTailB .any l.toArray n = true)
    (h : wpQuiet P l.toArray (fun w' => ∃ p : Gr, w' = gr w (w.drawn + p.d) p.os) (fun a' => ∀ w', (∃ p : Gr, w' = gr w (w.drawn + p.d) p.os) → wpList P l.toArray Q (l.drop n) a' w') (l.take n) a) : (Code.region id l.toArray true).wp P Q a w :=
  wp_region_tail_C (C := fun w' => ∃ p : Gr, w' = gr w (w.drawn + p.d) p.os) n hm hB ⟨⟨1, #[]⟩, gr_of_drew w⟩ h

set_option maxRecDepth 100000 in
set_option maxHeartbeats 400000 in
theorem order_grew (d1 i1 d2 i2 : Int) (w : World) : Calls Tryz.prog 68 #[.agg #[.int .u64 d1, .int .u64 i1], .agg #[.int .u64 d2, .int .u64 i2]] w fun e w' => e = .returned (.int .i64 (ordI d1 i1 d2 i2)) ∧ Grew w w' := by
  unfold ordI
  generalize hx : cmpI d1 d2 = x
  generalize hy : cmpI i1 i2 = y
  have c1 : ∀ W : World, Calls Tryz.prog 89 #[.int .u64 d1, .int .u64 d2] W fun e w' => e = .returned (.int .i64 x) ∧ w' = W := fun W => (Compare_u64 d1 d2 W).mono fun e w' h => ⟨by rw [← hx]; exact h.1, h.2.symm⟩
  have c2 : ∀ W : World, Calls Tryz.prog 89 #[.int .u64 i1, .int .u64 i2] W fun e w' => e = .returned (.int .i64 y) ∧ w' = W := fun W => (Compare_u64 i1 i2 W).mono fun e w' h => ⟨by rw [← hy]; exact h.1, h.2.symm⟩
  clear hx hy
  have C1 := Lib.hid c1; clear c1
  have C2 := Lib.hid c2; clear c2
  go_enter Tryz.func68, Tryz.ntmps68
  go_wp2_with fail
  refine wp_region_grew_tail 10 (by kernel_rfl) (by kernel_rfl) ?_
  simp only [List.take_succ_cons, List.take_zero, List.drop_succ_cons, List.drop_zero]
  repeat (quiet_step (first | (go_at_call_of 89 (Value.int .u64 d1); refine Calls.grew_of ((C1.out _).mono fun _ _ h => ⟨h.1, h.2 ▸ Grew.rfl' _⟩)) | (go_at_call_of 89 (Value.int .u64 i1); refine Calls.grew_of ((C2.out _).mono fun _ _ h => ⟨h.1, h.2 ▸ Grew.rfl' _⟩))))
  refine wpQuiet_nil ?_
  intro w1 hw1
  have hk1 : Grew ((w.alloc (.cells #[.int .u64 d1, .int .u64 i1] 42)).alloc (.cells #[.int .u64 d2, .int .u64 i2] 42)) w1 := hw1
  clear hw1
  go_wp2_with (first | (go_at_call 67; refine (Or_two _ x y _ (by simp) (by simp)).mono ?_; rintro e w' ⟨rfl, rfl⟩))
  go_ret
  exact ⟨rfl, (((grew_alloc _ _).trans (grew_alloc _ _)).trans hk1).trans (grew_alloc _ _)⟩

set_option maxRecDepth 100000 in
set_option maxHeartbeats 400000 in
theorem place_grew (d1 i1 s1 d2 i2 s2 : Int) (w : World) : Calls Tryz.prog 55 #[.agg #[.int .u64 d1, .int .u64 i1, .int .i64 s1], .agg #[.int .u64 d2, .int .u64 i2, .int .i64 s2]] w fun e w' => e = .returned (.int .i64 (plcI d1 i1 s1 d2 i2 s2)) ∧ Grew w w' := by
  unfold plcI
  generalize hx : ordI d1 i1 d2 i2 = x
  generalize hy : cmpI s1 s2 = y
  have c1 : ∀ W : World, Calls Tryz.prog 68 #[.agg #[.int .u64 d1, .int .u64 i1], .agg #[.int .u64 d2, .int .u64 i2]] W fun e w' => e = .returned (.int .i64 x) ∧ Grew W w' := fun W => (order_grew d1 i1 d2 i2 W).mono fun e w' h => ⟨by rw [← hx]; exact h.1, h.2⟩
  have c2 : ∀ W : World, Calls Tryz.prog 69 #[.int .i64 s1, .int .i64 s2] W fun e w' => e = .returned (.int .i64 y) ∧ Grew W w' := fun W => (Compare_int s1 s2 W).mono fun e w' h => ⟨by rw [← hy]; exact h.1, h.2 ▸ Grew.rfl' _⟩
  clear hx hy
  have C1 := Lib.hid c1; clear c1
  have C2 := Lib.hid c2; clear c2
  go_enter Tryz.func55, Tryz.ntmps55
  go_wp2_with fail
  refine wp_region_grew_tail 10 (by kernel_rfl) (by kernel_rfl) ?_
  simp only [List.take_succ_cons, List.take_zero, List.drop_succ_cons, List.drop_zero]
  repeat (quiet_step (first | (go_at_call 68; exact Calls.grew_of (C1.out _)) | (go_at_call 69; exact Calls.grew_of (C2.out _))))
  refine wpQuiet_nil ?_
  intro w1 hw1
  have hk1 : Grew ((w.alloc (.cells #[.int .u64 d1, .int .u64 i1, .int .i64 s1] 60)).alloc (.cells #[.int .u64 d2, .int .u64 i2, .int .i64 s2] 60)) w1 := hw1
  clear hw1
  go_wp2_with (first | (go_at_call 67; refine (Or_two _ x y _ (by simp) (by simp)).mono ?_; rintro e w' ⟨rfl, rfl⟩))
  go_ret
  exact ⟨rfl, (((grew_alloc _ _).trans (grew_alloc _ _)).trans hk1).trans (grew_alloc _ _)⟩
end Go.Proofs.YtajbimmfkbgcpaaGreat

/- slices.SortFunc at spots by rank.place; the order itself. -/
namespace Go.Proofs.YtajbimmfkbgcpaaGreat
open Go.RowKit Go.Sort Go.Shelf

instance : Inhabited Sp := ⟨⟨0, 0, 0⟩⟩
theorem plcI_lt (d1 i1 s1 d2 i2 s2 : Int) : plcI d1 i1 s1 d2 i2 s2 < 0 ↔ d1 < d2 ∨ d1 = d2 ∧ (i1 < i2 ∨ i1 = i2 ∧ s1 < s2) := by
  unfold plcI ordI orI cmpI
  by_cases h1 : d1 < d2
  · simp [h1]
  · by_cases h2 : d2 < d1
    · have h3 : ¬ d1 = d2 := by omega
      simp [h1, h2, h3]
    · have h3 : d1 = d2 := by omega
      subst h3
      by_cases h4 : i1 < i2
      · simp [h4]
      · by_cases h5 : i2 < i1
        · have h6 : ¬ i1 = i2 := by omega
          simp [h4, h5, h6]
        · have h6 : i1 = i2 := by omega
          subst h6
          by_cases h7 : s1 < s2
          · simp [h7]
          · by_cases h8 : s2 < s1 <;> simp [h7, h8]
abbrev plcSp (x y : Sp) : Int := plcI x.d x.i x.s y.d y.i y.s
theorem ltSp (x y : Sp) : ltOf plcSp x y = true ↔ x.d < y.d ∨ x.d = y.d ∧ (x.i < y.i ∨ x.i = y.i ∧ x.s < y.s) := by
  unfold ltOf
  rw [decide_eq_true_iff]
  exact plcI_lt _ _ _ _ _ _
theorem ltSp' (x y : Sp) : ltOf plcSp x y = false ↔ ¬ (x.d < y.d ∨ x.d = y.d ∧ (x.i < y.i ∨ x.i = y.i ∧ x.s < y.s)) := by
  rw [← ltSp, Bool.not_eq_true]
theorem swoSp : SWO (ltOf plcSp) where
  irrefl x := by rw [ltSp']; omega
  trans x y z h1 h2 := by rw [ltSp] at *; omega
  ntrans x y z h1 h2 := by rw [ltSp'] at *; omega
theorem eqSp (x y : Sp) (h1 : ltOf plcSp x y = false) (h2 : ltOf plcSp y x = false) : x = y := by
  rw [ltSp'] at h1 h2
  cases x; cases y
  simp only [Sp.mk.injEq] at *
  omega
/-- Spots in order. -/
def sortSp (xs : List Sp) : List Sp := xs.mergeSort fun x y => !(ltOf plcSp) y x

theorem flatK_toList (ys : List Sp) : (flatK Sp.cells 3 ys.toArray).toList = flat ys := by
  apply List.ext_getElem?
  intro t
  rw [Array.getElem?_toList]
  by_cases ht : t < ys.length * 3
  · have hk : t / 3 < ys.length := by omega
    have hj : t % 3 < 3 := Nat.mod_lt _ (by omega)
    have h := flat_at hk hj
    rw [show t / 3 * 3 + t % 3 = t by omega] at h
    rw [h]
    have hs : t < (flatK Sp.cells 3 ys.toArray).size := by simpa using ht
    rw [Array.getElem?_eq_getElem hs, List.getElem?_eq_getElem (by simp [Sp.cells]; omega)]
    congr 1
    have := get_flatK Sp.cells 3 ys.toArray t (by simpa using ht)
    rw [getElem!_pos (flatK Sp.cells 3 ys.toArray) t hs] at this
    rw [this, getElem!_pos ys.toArray (t / 3) (by simpa using hk), getElem!_pos ((ys.toArray[t / 3]'(by simpa using hk)).cells) (t % 3) (by simp [Sp.cells]; omega)]
    simp
  · rw [Array.getElem?_eq_none (by simp; omega), List.getElem?_eq_none (by rw [flat_length]; omega)]

theorem ownsRow_putK {w : World} {base : Nat} {e : TypeId} {g n cap q : Nat} {xs : List Value} {F : Array Value} {os : Array Obj} (h : w.ownsRow base e 3 (.slice (some ⟨g, 0, none⟩) n cap) n xs) (hF : F.size = n * 3) :
    (grow (putRow id (Sort.ahead w q) g 0 F) os).ownsRow base e 3 (.slice (some ⟨g, 0, none⟩) n cap) n F.toList ∧ Far (fun b => b = g) w (grow (putRow id (Sort.ahead w q) g 0 F) os) := by
  rcases h.2 with ⟨e0, _⟩ | ⟨g', cap', cur, e0, hb, hg, hn, hm, hs, ht⟩
  · cases e0
  · injection e0 with e1 _ e3
    injection e1 with e1
    injection e1 with e1
    subst e1; subst e3
    have hgl : g < w.heap.size := (Array.getElem?_eq_some_iff.1 hg).1
    have hsz : (putRow id (Sort.ahead w q) g 0 F).heap.size = w.heap.size := by simp [putRow, mapBlock, Sort.ahead]
    have hnew : ∀ k, k < w.heap.size → (grow (putRow id (Sort.ahead w q) g 0 F) os).heap[k]? = (putRow id (Sort.ahead w q) g 0 F).heap[k]? := fun k hk => by
      unfold grow
      simp only
      rw [Array.getElem?_append_left (by rw [hsz]; exact hk)]
    refine ⟨⟨by simpa using hF, .inr ⟨g, cap, putCells id 0 F cur, rfl, hb, ?_, hn, hm, by simpa [putCells] using hs, ?_⟩⟩, rfl, rfl, rfl, by unfold grow; simp only [Array.size_append, hsz]; omega, fun k hk hne => ?_⟩
    · rw [hnew g hgl]
      simp [putRow, mapBlock, Sort.ahead, Array.getElem?_modify, hg, onCells]
    · apply List.ext_getElem?
      intro j
      rw [List.getElem?_take, Array.getElem?_toList, Array.getElem?_toList]
      by_cases hj : j < n * 3
      · have hjc : j < cur.size := by have := Nat.mul_le_mul_right 3 hn; omega
        simp only [if_pos hj, putCells, Array.getElem?_mapIdx, Array.getElem?_eq_getElem hjc, Option.map_some]
        rw [if_pos (by omega), Array.getElem?_eq_getElem (by omega)]
        simp [getElem!_pos, show j < F.size by omega]
      · rw [if_neg hj, Array.getElem?_eq_none (by omega)]
    · rw [hnew k hk]
      have : g ≠ k := fun e => hne e.symm
      simp [putRow, mapBlock, Sort.ahead, Array.getElem?_modify, this]

theorem place_lays (blk off size : Nat) (w : World) : CmpLays Tryz.prog 55 #[] Sp.cells 3 plcSp blk off size w :=
  fun _ _ _ _ x y => (place_grew x.d x.i x.s y.d y.i y.s _).mono fun _ _ h => ⟨h.1, h.2.form⟩

theorem SortFunc_any (base g c : Nat) (xs : List Sp) (w : World) (hown : w.ownsRow base 60 3 (.slice (some ⟨g, 0, none⟩) xs.length c) xs.length (flat xs)) (hl : xs.length ≤ 1000000) :
    Calls Tryz.prog 54 #[.slice (some ⟨g, 0, none⟩) xs.length c, .func (.func 55) #[] #[]] w fun e w' => e = .returned (.tuple #[]) ∧ w'.ownsRow base 60 3 (.slice (some ⟨g, 0, none⟩) xs.length c) xs.length (flat (sortSp xs)) ∧ Far (fun b => b = g) w w' := by
  have eg : ∀ args w, (callFunc 55 args).run Tryz.prog w = .ok (.enter 55 args) w := enters_of Tryz.func55 (by kernel_rfl) rfl
  have hH : HoldsK Sp.cells 3 w g 0 xs.toArray := by
    intro j hj
    have hj' : j < (flat xs).length := by rw [← flatK_toList]; simpa using hj
    refine ⟨?_, by simpa using hown.frozenAt (0 + j)⟩
    rw [Nat.zero_add, hown.cellAt j (by rw [flat_length] at hj'; exact hj'), List.getElem?_eq_getElem hj', getElem!_pos (flatK Sp.cells 3 xs.toArray) j hj]
    have h2 : (flatK Sp.cells 3 xs.toArray).toList[j]? = (flat xs)[j]? := by rw [flatK_toList]
    rw [Array.getElem?_toList, Array.getElem?_eq_getElem hj, List.getElem?_eq_getElem hj'] at h2
    injection h2 with h2
    rw [h2]
    rfl
  have hcon := AnyQ.slices_SortFunc_total Tryz.sortSpot 3 Tryz.isAgg60 Tryz.sizeOf60 Sp.cells (fun _ => rfl) (fun x v hv => by simp [Sp.cells] at hv; rcases hv with rfl | rfl | rfl <;> rfl) plcSp swoSp 55 #[] g 0 c xs.toArray w eg (place_lays g 0 _ w) hH (hown.lt g rfl).2 (by simp; omega) eqSp
  refine hcon.mono ?_
  rintro e w' ⟨rfl, n, os, rfl⟩
  have hp : (sortSp xs).length = xs.length := by unfold sortSp; simp
  have := ownsRow_putK (q := n) (os := os) (F := flatK Sp.cells 3 (sortSp xs).toArray) hown (by simp [hp])
  rw [flatK_toList] at this
  exact ⟨rfl, this.1, this.2⟩
end Go.Proofs.YtajbimmfkbgcpaaGreat

/- slices.Clone at spots, rank.Sort, rank.Least, queue.Best.List. -/
namespace Go.Proofs.YtajbimmfkbgcpaaGreat
open Go.RowKit

theorem flat_oneC (xs : List Sp) : ∀ v ∈ flat xs, v.oneCell' = true := by
  intro v hv
  simp only [flat, List.mem_flatMap] at hv
  obtain ⟨x, _, hx⟩ := hv
  simp [Sp.cells] at hx
  rcases hx with rfl | rfl | rfl <;> rfl

theorem own_slice {w : World} {base : Nat} {e : TypeId} {size n : Nat} {v : Value} {xs : List Value} (h : w.ownsRow base e size v n xs) : ∃ a c, v = .slice a n c ∧ (a = none → c = 0 ∧ n = 0) ∧ ∀ A, a = some A → ∃ g, A = ⟨g, 0, none⟩ ∧ base ≤ g ∧ g < w.heap.size := by
  rcases h.2 with ⟨h1, h0⟩ | ⟨g, cap', cur, hv, hb, hg, _⟩
  · rw [h0]; exact ⟨none, 0, h1, fun _ => ⟨rfl, rfl⟩, fun A h => by cases h⟩
  · exact ⟨_, cap', hv, (by intro h; cases h), fun A h => by injection h with h; exact ⟨g, h.symm, hb, (Array.getElem?_eq_some_iff.1 hg).1⟩⟩

theorem own_cap2 {w : World} {base : Nat} {e : TypeId} {size n : Nat} {a : Option Addr} {m c : Nat} {xs : List Value} (h : w.ownsRow base e size (.slice a m c) n xs) : n ≤ c := by
  rcases h.2 with ⟨h1, h0⟩ | ⟨g, cap', cur, hv, hb, hg, hn, _⟩
  · omega
  · injection hv with _ _ h3; omega

def SpotsPost (xs : List Sp) (w : World) (e : Ending) (w' : World) : Prop :=
  ∃ v, e = .returned v ∧ w'.ownsRow w.heap.size 60 3 v xs.length (flat xs) ∧ Kept w w'

set_option maxRecDepth 100000 in
set_option maxHeartbeats 400000 in
theorem Clone_sp (base : Nat) (v : Value) (xs : List Sp) (w : World) (hl : xs.length ≤ 1000000) (hX : w.ownsRow base 60 3 v xs.length (flat xs)) :
    Calls Tryz.prog 53 #[v] w (SpotsPost xs w) := by
  obtain ⟨a, c, rfl, hnone, hsome⟩ := own_slice hX
  rcases a with _ | A
  · obtain ⟨rfl, h0⟩ := hnone rfl
    have h0 : xs = [] := by cases xs with
      | nil => rfl
      | cons x xs => simp at h0
    subst h0
    have hn := fun W => Lib.run_eql_slice_nil (P := Tryz.prog) W 57 60 none 0 0 0 0 Tryz.underlying57
    go_enter Tryz.func53, Tryz.ntmps53
    go_wp2
    go_ret
    exact ⟨_, rfl, World.ownsRow_nil _ _ _ _, Kept.rfl' w⟩
  · obtain ⟨g, rfl, hb, hg⟩ := hsome A rfl
    have hn := fun W => Lib.run_eql_slice_nil (P := Tryz.prog) W 57 60 (some ⟨g, 0, none⟩) xs.length c 0 0 Tryz.underlying57
    have hcells : Hid (∀ j u, (flat xs)[j]? = some u → (w.alloc (.cells #[] 60)).cell? ((⟨g, 0, none⟩ : Addr).add j) = some u) := by
      intro j u hj
      have hj2 : j < xs.length * 3 := by
        have := (List.getElem?_eq_some_iff.1 hj).1
        rwa [flat_length] at this
      have h1 := hX.cellAt j hj2
      rw [hj] at h1
      have : (⟨g, 0, none⟩ : Addr).add j = ⟨g, j, none⟩ := by unfold Addr.add; split <;> simp_all
      rw [this]
      exact cell_old h1
    have hnew : Hid ((w.alloc (.cells #[] 60)).ownsRow w.heap.size 60 3 (.slice (some ⟨w.heap.size, 0, none⟩) 0 0) 0 []) := World.ownsRow_made w #[] 0 (Nat.le_refl _) (by unfold maxLen; omega) (by simp)
    obtain ⟨i0, hi0, hz0, hz1, hz2⟩ := info_parts Tryz.elemSpot.info
    have hlen := Lib.hid (flat_length xs)
    have hcc := (own_cap hX).1
    clear hX
    go_enter Tryz.func53, Tryz.ntmps53
    go_wp2_with (first | (at_builtin; refine wpList_append_own _ rfl _ _ 57 rfl w.heap.size 60 i0 _ 3 24 Tryz.underlying57 hi0 hz0 hz1 hz2 rfl (by decide) _ _ _ rfl (by exact hnew.out) ⟨g, 0, none⟩ xs.length c (flat xs) rfl ?c0 (by exact hcells.out) (flat_oneC _) ?c1 ?c2 ?c3 ?_))
    case c0 => rw [flat_length]
    case c1 => unfold maxLen; omega
    case c2 => omega
    case c3 => simp
    intro v' w' hown hgr _
    have hk : Hid (Kept w w') := Below.trans (kept_alloc w (.cells #[] 60)) (own_below hnew.out hgr (by simp))
    have Hown := Lib.hid hown
    clear hown hgr
    go_wp2
    go_ret
    exact ⟨v', rfl, by simpa using Hown.out, hk.out⟩

set_option maxRecDepth 100000 in
set_option maxHeartbeats 400000 in
theorem Sort_any (base : Nat) (v : Value) (xs : List Sp) (w : World) (hl : xs.length ≤ 1000000) (hX : w.ownsRow base 60 3 v xs.length (flat xs)) :
    Calls Tryz.prog 40 #[v] w (SpotsPost (sortSp xs) w) := by
  have hlen : (sortSp xs).length = xs.length := by unfold sortSp; simp
  have C := Lib.hid (Clone_sp base v xs w hl hX)
  have HL := Lib.hid hl
  clear hX
  go_enter Tryz.func40, Tryz.ntmps40
  go_wp2_with (first | (go_at_call 53; refine C.out.mono ?_; rintro e w1 ⟨v1, rfl, hown1, hk1⟩))
  obtain ⟨a, c, rfl, hnone, hsome⟩ := own_slice hown1
  have HK := Lib.hid hk1
  have S : Hid (Calls Tryz.prog 54 #[.slice a xs.length c, .func (.func 55) #[] #[]] w1 fun e w' => e = .returned (.tuple #[]) ∧ w'.ownsRow w.heap.size 60 3 (.slice a xs.length c) xs.length (flat (sortSp xs)) ∧ Kept w w') := by
    rcases a with _ | A
    · obtain ⟨rfl, h0⟩ := hnone rfl
      have h0 : xs = [] := List.length_eq_zero_iff.1 h0
      subst h0
      refine (AnyF.slices_SortFunc_none Tryz.sortSpot none 0 (.func (.func 55) #[] #[]) w1).mono ?_
      rintro e w' ⟨rfl, rfl⟩
      exact ⟨rfl, by simpa [sortSp] using hown1, hk1⟩
    · obtain ⟨g, rfl, hb, hg⟩ := hsome A rfl
      refine (SortFunc_any _ g c xs w1 hown1 HL.out).mono ?_
      rintro e w' ⟨rfl, ho, hf⟩
      exact ⟨rfl, ho, ⟨hf.os.trans hk1.os, hf.tape.trans hk1.tape, hf.output.trans hk1.output, Nat.le_trans hk1.size hf.size, fun k hk => (hf.block k (Nat.lt_of_lt_of_le hk hk1.size) (by omega)).trans (hk1.block k hk)⟩⟩
  clear hown1 hk1 hnone hsome
  go_wp2_with (first | (go_at_call 54; refine S.out.mono ?_; rintro e w2 ⟨rfl, ho, hk⟩))
  go_ret
  exact ⟨_, rfl, by rw [hlen]; exact ho, hk⟩

set_option maxRecDepth 100000 in
theorem List_any (hb : Nat) (fn : FuncId) (v : Value) (xs : List Sp) (w : World) (hH : HeapIs w hb fn v xs) (hl : xs.length ≤ 1000000) :
    Calls Tryz.prog 61 #[.pointer (some ⟨hb, 0, none⟩)] w (SpotsPost (sortSp xs) w) := by
  have S := Lib.hid (Sort_any 0 v xs w hl hH.own)
  have c0 := hH.c0
  have l1 := lt_of_cell c0
  clear hH
  go_enter Tryz.func61, Tryz.ntmps61
  go_wp2_with (first | (go_at_call 40; refine S.out.mono ?_; rintro e w1 ⟨v1, rfl, hown1, hk1⟩))
  go_ret
  have hlen : (sortSp xs).length = xs.length := by unfold sortSp; simp
  exact ⟨_, rfl, hown1, hk1⟩

set_option maxRecDepth 100000 in
theorem Least_one (base : Nat) (v : Value) (xs : List Sp) (w : World) (hl : xs.length ≤ 1000000) (hX : w.ownsRow base 60 3 v xs.length (flat xs)) (hne : 0 < xs.length) :
    Calls Tryz.prog 105 #[v, .int .i64 1] w fun e w' => ∃ g c, e = .returned (.slice (some ⟨g, 0, none⟩) 1 c) ∧ w'.cell? ⟨g, 2, none⟩ = some (.int .i64 (headSp (sortSp xs)).s) ∧ w.heap.size ≤ g ∧ Kept w w' := by
  have hlen : (sortSp xs).length = xs.length := by unfold sortSp; simp
  have S := Lib.hid (Sort_any base v xs w hl hX)
  have hd1 : ∀ ys : List Sp, (h : 0 < ys.length) → ys[0] = headSp ys := fun ys h => by cases ys with
    | nil => cases h
    | cons y ys => rfl
  have HD := Lib.hid hd1
  clear hX hd1
  generalize sortSp xs = ys at *
  have hm1 : (1:Int) ≤ (xs.length : Int) := by omega
  have hm2 : ¬ (xs.length : Int) < 1 := by omega
  have HLen := Lib.hid hlen
  clear hlen
  go_enter Tryz.func105, Tryz.ntmps105
  go_wp2_with (first
  | (go_at_call 40; refine S.out.mono ?_; rintro e w1 ⟨v1, rfl, hown1, hk1⟩; obtain ⟨a, c, rfl, hnone, hsome⟩ := own_slice hown1; have hcc := (own_cap2 hown1); have HK := Lib.hid hk1; have HO := Lib.hid hown1; have HS := Lib.hid hsome; have HN := Lib.hid hnone; clear hown1 hk1 hnone hsome; have hys : 0 < ys.length := by rw [HLen.out]; omega))
  have e1 : (min (max (1:Int) 0) (ys.length : Int)) = 1 := by omega
  rw [e1]
  go_ret
  rcases a with _ | A
  · have := (HN.out rfl).2
    omega
  · obtain ⟨g, rfl, hb, hg⟩ := HS.out A rfl
    refine ⟨g, c, rfl, ?_, hb, HK.out⟩
    rw [← HD.out ys hys]
    simpa using (own_sp_cell HO.out (k := 0) hys).2.2
end Go.Proofs.YtajbimmfkbgcpaaGreat
