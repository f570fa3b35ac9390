/-
  THE HEAP: what lies in memory; heap.first.
  heap.up.
-/
import Derived.Test.YtajbimmfkbgcpaaGreatKBase
import Derived.Test.YtajbimmfkbgcpaaGreatKRing
import Derived.Test.YtajbimmfkbgcpaaGreatKChk
import Derived.Deep.RegionHeld3
import Derived.Deep.RegionLaw
import Derived.BigRegion
/- THE HEAP: what lies in memory; heap.first. -/
namespace Go.Proofs.YtajbimmfkbgcpaaGreat
open Go.RowKit

/-- A spot: a squared distance, an id, a slot. -/
structure Sp where
  d : Int
  i : Int
  s : Int
  deriving DecidableEq
def Sp.cells (x : Sp) : List Value := [.int .u64 x.d, .int .u64 x.i, .int .i64 x.s]
abbrev Sp.val (x : Sp) : Value := .agg #[.int .u64 x.d, .int .u64 x.i, .int .i64 x.s]
def flat (xs : List Sp) : List Value := xs.flatMap Sp.cells
theorem flat_length (xs : List Sp) : (flat xs).length = xs.length * 3 := by
  induction xs with
  | nil => rfl
  | cons x xs ih => simp only [flat, List.flatMap_cons, List.length_append] at ih ⊢; rw [ih]; simp [Sp.cells]; omega
theorem flat_append (xs ys : List Sp) : flat (xs ++ ys) = flat xs ++ flat ys := by simp [flat]
theorem flat_at {xs : List Sp} {k j : Nat} (hk : k < xs.length) (hj : j < 3) : (flat xs)[k * 3 + j]? = (xs[k].cells)[j]? := by
  induction xs generalizing k with
  | nil => simp at hk
  | cons x xs ih =>
    have e : flat (x :: xs) = x.cells ++ flat xs := rfl
    rw [e]
    cases k with
    | zero => rw [List.getElem?_append_left (by simp [Sp.cells]; omega)]; simp
    | succ k =>
      rw [List.getElem?_append_right (by simp [Sp.cells]; omega)]
      have h3 : (k + 1) * 3 + j - x.cells.length = k * 3 + j := by simp [Sp.cells]; omega
      rw [h3, ih (by simpa using hk)]
      simp
theorem Tryz.elemSpot : Elem Tryz.prog 57 60 (.agg #[.int .u64 0, .int .u64 0, .int .i64 0]) 3 24 := ⟨Tryz.underlying57, by kernel_rfl, rfl, by omega⟩

/-- A heap at block hb: its list, its order. -/
structure HeapIs (w : World) (hb : Nat) (fn : FuncId) (v : Value) (xs : List Sp) : Prop where
  c0 : w.cell? ⟨hb, 0, none⟩ = some v
  f0 : w.frozen? ⟨hb, 0, none⟩ = false
  c1 : w.cell? ⟨hb, 1, none⟩ = some (.func (.func fn) #[] #[])
  own : w.ownsRow 0 60 3 v xs.length (flat xs)
  ne : v.ownBlock ≠ some hb
theorem own_sp_cell {w : World} {base g c n : Nat} {xs : List Sp} (h : w.ownsRow base 60 3 (.slice (some ⟨g, 0, none⟩) n c) n (flat xs)) {k : Nat} (hk : k < xs.length) :
    w.cell? ⟨g, k * 3, none⟩ = some (.int .u64 xs[k].d) ∧ w.cell? ⟨g, k * 3 + 1, none⟩ = some (.int .u64 xs[k].i) ∧ w.cell? ⟨g, k * 3 + 2, none⟩ = some (.int .i64 xs[k].s) := by
  have hn : n = xs.length := by have := h.1; rw [flat_length] at this; omega
  refine ⟨?_, ?_, ?_⟩
  · have := flat_at (j := 0) hk (by omega)
    rw [h.cellAt (k * 3) (by omega)]
    exact this
  · rw [h.cellAt (k * 3 + 1) (by omega)]; exact flat_at (j := 1) hk (by omega)
  · rw [h.cellAt (k * 3 + 2) (by omega)]; exact flat_at (j := 2) hk (by omega)

set_option maxRecDepth 100000 in
set_option maxHeartbeats 1000000 in
theorem first_some (hb : Nat) (fn : FuncId) (v : Value) (x : Sp) (xs : List Sp) (w : World) (hH : HeapIs w hb fn v (x :: xs)) (hl : xs.length ≤ 1000000) :
    Calls Tryz.prog 113 #[.pointer (some ⟨hb, 0, none⟩)] w fun e w' => e = .returned (.tuple #[x.val, .bool true]) ∧ Kept w w' := by
  obtain ⟨c0, f0, c1, hown, -⟩ := hH
  obtain ⟨g, c, rfl⟩ : ∃ g c, v = .slice (some ⟨g, 0, none⟩) (xs.length + 1) c := by
    rcases hown.2 with ⟨_, h0⟩ | ⟨g, cap', cur, hv, _⟩
    · simp at h0
    · exact ⟨g, cap', hv⟩
  obtain ⟨q0, q1, q2⟩ := own_sp_cell hown (k := 0) (by simp)
  simp only [Nat.zero_mul, List.getElem_cons_zero, Nat.zero_add] at q0 q1 q2
  have hd : (((xs.length + 1 : Nat) : Int) == 0) = false := by rw [beq_eq_false_iff_ne]; omega
  have l1 := lt_of_cell c0
  have l2 := lt_of_cell q0
  have hn0 : 0 < xs.length + 1 := by omega
  clear hown
  generalize xs.length + 1 = n at *
  go_enter Tryz.func113, Tryz.ntmps113
  go_wp2
  exact bodyPost_ret (v := .tuple #[x.val, .bool true]) (by simp [results, Tryz.results113, go_sem]) rfl ⟨rfl, kept_alloc w _⟩

theorem first_none (hb : Nat) (fn : FuncId) (v : Value) (w : World) (hH : HeapIs w hb fn v []) :
    Calls Tryz.prog 113 #[.pointer (some ⟨hb, 0, none⟩)] w fun e w' => e = .returned (.tuple #[(Sp.mk 0 0 0).val, .bool false]) ∧ Kept w w' := by
  obtain ⟨c0, f0, c1, hown, -⟩ := hH
  obtain ⟨a, c, rfl⟩ : ∃ a c, v = .slice a 0 c := own_refl_slice hown
  have l1 := lt_of_cell c0
  clear hown
  go_enter Tryz.func113, Tryz.ntmps113
  go_wp2
  exact bodyPost_ret (v := .tuple #[(Sp.mk 0 0 0).val, .bool false]) (by simp [results, Tryz.results113, go_sem]) rfl ⟨rfl, kept_alloc w _⟩
end Go.Proofs.YtajbimmfkbgcpaaGreat

/- heap.up. -/
namespace Go.Proofs.YtajbimmfkbgcpaaGreat
open Go.RowKit

/-- A function value that puts spots in order: it answers, and leaves all alone. -/
def OrderFn (fn : FuncId) (lt : Sp → Sp → Bool) : Prop := ∀ (x y : Sp) (W : World), Calls Tryz.prog fn #[x.val, y.val] W fun e w' => e = .returned (.bool (lt x y)) ∧ Kept W w'

theorem flat_set (ys : List Sp) (k : Nat) (Y : Sp) (hk : k < ys.length) : (((flat ys).set (k * 3) (.int .u64 Y.d)).set (k * 3 + 1) (.int .u64 Y.i)).set (k * 3 + 2) (.int .i64 Y.s) = flat (ys.set k Y) := by
  induction ys generalizing k with
  | nil => simp at hk
  | cons y ys ih =>
    cases k with
    | zero => simp [flat, Sp.cells]
    | succ k =>
      have e : flat (y :: ys) = .int .u64 y.d :: .int .u64 y.i :: .int .i64 y.s :: flat ys := rfl
      have e2 : flat ((y :: ys).set (k + 1) Y) = .int .u64 y.d :: .int .u64 y.i :: .int .i64 y.s :: flat (ys.set k Y) := rfl
      rw [e, e2, ← ih k (by simpa using hk)]
      have h0 : (k + 1) * 3 = k * 3 + 3 := by omega
      rw [h0]
      rfl
/-- A spot is stored, cell by cell. -/
def putSp (w : World) (g k : Nat) (Y : Sp) : World :=
  ((w.setCell ⟨g, k * 3, none⟩ (.int .u64 Y.d)).setCell ⟨g, k * 3 + 1, none⟩ (.int .u64 Y.i)).setCell ⟨g, k * 3 + 2, none⟩ (.int .i64 Y.s)
theorem own_putSp {w : World} {g c n k : Nat} {ys : List Sp} (h : w.ownsRow 0 60 3 (.slice (some ⟨g, 0, none⟩) n c) n (flat ys)) (hk : k < ys.length) (Y : Sp) :
    (putSp w g k Y).ownsRow 0 60 3 (.slice (some ⟨g, 0, none⟩) n c) n (flat (ys.set k Y)) := by
  have h1 := (h.stored (k * 3) (.int .u64 Y.d)).1
  have h2 := (h1.stored (k * 3 + 1) (.int .u64 Y.i)).1
  have h3 := (h2.stored (k * 3 + 2) (.int .i64 Y.s)).1
  rw [flat_set ys k Y hk] at h3
  exact h3
theorem only_trans {g : Nat} {a b c : World} (h : Only g a b) (k : Only g b c) : Only g a c :=
  ⟨k.os.trans h.os, k.tape.trans h.tape, k.output.trans h.output, k.size.trans h.size, fun i hi => (k.block i hi).trans (h.block i hi)⟩
theorem only_putSp (w : World) (g k : Nat) (Y : Sp) : Only g w (putSp w g k Y) := only_trans (only_trans (only_setCell' _ _ _ _) (only_setCell' _ _ _ _)) (only_setCell' _ _ _ _)
theorem only_drew (w : World) (g : Nat) : Only g w w.drew := ⟨rfl, rfl, rfl, rfl, fun _ _ => rfl⟩
theorem HeapIs.of_only {w w' : World} {hb g c : Nat} {fn : FuncId} {n : Nat} {ys zs : List Sp} (h : HeapIs w hb fn (.slice (some ⟨g, 0, none⟩) n c) ys) (ho : Only g w w') (hown : w'.ownsRow 0 60 3 (.slice (some ⟨g, 0, none⟩) n c) zs.length (flat zs)) : HeapIs w' hb fn (.slice (some ⟨g, 0, none⟩) n c) zs := by
  have hne : hb ≠ g := fun e => h.ne (by simp [Value.ownBlock, e])
  exact ⟨(World.cell?_of_block (ho.block hb hne)).trans h.c0, (World.frozen?_of_block (ho.block hb hne)).trans h.f0, (World.cell?_of_block (ho.block hb hne)).trans h.c1, hown, h.ne⟩
theorem HeapIs.keep {w w' : World} {hb : Nat} {fn : FuncId} {v : Value} {ys : List Sp} (h : HeapIs w hb fn v ys) (hk : Kept w w') : HeapIs w' hb fn v ys :=
  ⟨(hk.cell (p := ⟨hb, 0, none⟩) (lt_of_cell h.c0)).trans h.c0, (hk.frozen (p := ⟨hb, 0, none⟩) (lt_of_cell h.c0)).trans h.f0, (hk.cell (p := ⟨hb, 1, none⟩) (lt_of_cell h.c0)).trans h.c1, own_kept h.own hk, h.ne⟩

/-- Two spots of a heap change places. -/
theorem heap_swap {w w1 : World} {hb g c : Nat} {fn : FuncId} {xs ys : List Sp} {k p : Nat} {X Y : Sp} (hH : HeapIs w1 hb fn (.slice (some ⟨g, 0, none⟩) ys.length c) ys) (hk : k < ys.length) (hp : p < ys.length) (hX : ys[k] = X) (hY : ys[p] = Y)
    (hperm : ys.Perm xs) (hf : Far (fun b => (Value.slice (some ⟨g, 0, none⟩) ys.length c).ownBlock = some b) w w1) :
    ((ys.set k Y).set p X).Perm xs ∧ HeapIs (putSp (putSp w1 g k Y) g p X).drew hb fn (.slice (some ⟨g, 0, none⟩) ys.length c) ((ys.set k Y).set p X) ∧ Far (fun b => (Value.slice (some ⟨g, 0, none⟩) ys.length c).ownBlock = some b) w (putSp (putSp w1 g k Y) g p X).drew := by
  have ho : Only g w1 (putSp (putSp w1 g k Y) g p X).drew := only_trans (only_trans (only_putSp _ _ _ _) (only_putSp _ _ _ _)) (only_drew _ _)
  refine ⟨?_, ?_, ?_⟩
  · subst hX hY
    exact (List.set_set_perm hk hp).trans hperm
  · refine hH.of_only ho ?_
    have h1 := own_putSp (own_putSp hH.own hk Y) (k := p) (by simpa using hp) X
    have hl : ((ys.set k Y).set p X).length = ys.length := by simp
    rw [hl]
    exact h1.drew
  · exact hf.trans (Far.of_only ho (by simp [Value.ownBlock]))

def UpRel (hb : Nat) (fn : FuncId) (v : Value) (xs : List Sp) (w : World) (i : Value) (wr : World) : Prop :=
  ∃ (k : Nat) (ys : List Sp), i = .int .i64 (k : Int) ∧ k < xs.length ∧ ys.Perm xs ∧ HeapIs wr hb fn v ys ∧ Far (fun b => v.ownBlock = some b) w wr

set_option maxRecDepth 100000 in
set_option maxHeartbeats 2000000 in
theorem up_any (hb : Nat) (fn : FuncId) (lt : Sp → Sp → Bool) (v : Value) (k : Nat) (xs : List Sp) (w : World) (hH : HeapIs w hb fn v xs) (hk : k < xs.length) (hl : xs.length ≤ 1000000) (hO : OrderFn fn lt)
    (eg : ∀ args W, (callFunc fn args).run Tryz.prog W = .ok (.enter fn args) W) :
    Calls Tryz.prog 112 #[.pointer (some ⟨hb, 0, none⟩), .int .i64 (k : Int)] w fun e w' => e = .returned (.tuple #[]) ∧ ∃ ys : List Sp, ys.Perm xs ∧ HeapIs w' hb fn v ys ∧ Far (fun b => v.ownBlock = some b) w w' := by
  have HH := Lib.hid hH; have HO := Lib.hid hO; clear hH hO
  go_enter Tryz.func112, Tryz.ntmps112
  go_wp2_with fail
  go_loopw [1] (UpRel hb fn v xs w) (fun i _ => (intOf i).toNat)
  case atStart => exact ⟨k, xs, rfl, hk, List.Perm.refl _, HH.out, Far.refl _ _⟩
  case round =>
    obtain ⟨k, ys, rfl, hk, hperm, hH, hfar⟩ := hrel
    have hyl := hperm.length_eq
    have HP := Lib.hid hperm; have HF := Lib.hid hfar; have Hyl := Lib.hid hyl
    have hkl : k < ys.length := by omega
    have hlen : ys.length ≤ 1000000 := by omega
    clear HH hperm hfar hyl
    by_cases h0 : 0 < k
    · obtain ⟨c0, f0, c1, hown, hne⟩ := hH
      obtain ⟨g, c, rfl⟩ : ∃ g c, v = .slice (some ⟨g, 0, none⟩) ys.length c := by
        rcases hown.2 with ⟨_, h0⟩ | ⟨g, cap', cur, hv, _⟩
        · omega
        · exact ⟨g, cap', hv⟩
      obtain ⟨x0, x1, x2⟩ := own_sp_cell hown hkl
      have hpk : (k - 1) / 2 < k := by omega
      have hpl : (k - 1) / 2 < ys.length := by omega
      obtain ⟨y0, y1, y2⟩ := own_sp_cell hown hpl
      have l1 := lt_of_cell c0
      have l2 := lt_of_cell x0
      have hcall : ∀ W, Calls Tryz.prog fn #[(ys[k]'hkl).val, (ys[(k - 1) / 2]'hpl).val] W fun e w' => e = .returned (.bool (lt (ys[k]'hkl) (ys[(k - 1) / 2]'hpl))) ∧ Kept W w' := fun W => HO.out _ _ W
      have Hown := Lib.hid hown
      have Hne := Lib.hid hne
      generalize hX : (ys[k]'hkl) = X at *
      generalize hY : (ys[(k - 1) / 2]'hpl) = Y at *
      have HX := Lib.hid hX; have HY := Lib.hid hY; have HK := Lib.hid hk; have HPL := Lib.hid hpl
      clear hX hY
      have Hcall := Lib.hid hcall
      clear hown hne hcall
      go_wp2_with fail
      refine wp_region_kept (by kernel_rfl) (by kernel_rfl) ?_
      repeat (go_big_quiet_step (first | (go_at_fn fn; exact Calls.kept_of (Hcall.out _))))
      refine wpQuiet_nil ?_
      intro w1 hw1
      have hk1 : Kept wr w1 := by obtain ⟨p, rfl⟩ := hw1; exact gr_kept _ _ _
      clear hw1
      have tr : ∀ {b i : Nat} {u : Value}, wr.cell? ⟨b, i, none⟩ = some u → w1.cell? ⟨b, i, none⟩ = some u := fun {b i u} h => (hk1.cell (p := ⟨b, i, none⟩) (lt_of_cell h)).trans h
      have f1 : w1.frozen? ⟨hb, 0, none⟩ = false := (hk1.frozen (p := ⟨hb, 0, none⟩) l1).trans f0
      have hown1 := own_kept Hown.out hk1
      replace c0 := tr c0; replace c1 := tr c1; replace x0 := tr x0; replace x1 := tr x1; replace x2 := tr x2; replace y0 := tr y0; replace y1 := tr y1; replace y2 := tr y2
      have hfz := fun j => hown1.frozenAt j
      have z0 := hfz (k * 3); have z1 := hfz (k * 3 + 1); have z2 := hfz (k * 3 + 2)
      have u0 := hfz ((k - 1) / 2 * 3); have u1 := hfz ((k - 1) / 2 * 3 + 1); have u2 := hfz ((k - 1) / 2 * 3 + 2)
      have HH1 := Lib.hid (HeapIs.mk c0 f1 c1 hown1 Hne.out)
      have HF1 := Lib.hid (HF.out.trans (Far.of_kept _ hk1))
      clear tr hk1 hown1 hfz f0 l1 l2 Hown
      cases hlt : lt X Y with
      | false =>
        go_wp2
        exact bodyPost_ret (results_none rfl _ _ _) rfl ⟨rfl, ys, HP.out, HH1.out, HF1.out⟩
      | true =>
        go_wp2_with fail
        go_region
        go_wp2_with fail
        obtain ⟨r1, r2, r3⟩ := heap_swap HH1.out hkl HPL.out HX.out HY.out HP.out HF1.out
        exact ⟨⟨(k - 1) / 2, _, by go_num, by omega, r1, r2, r3⟩, by simp [intOf]; omega⟩
    · have hz : (k : Int) ≤ 0 := by omega
      clear h0
      go_wp2
      go_end0
      exact ⟨rfl, ys, HP.out, hH, HF.out⟩
end Go.Proofs.YtajbimmfkbgcpaaGreat
