/-
  heap.pop, heap.push.
  heap.push.
  queue: New, NewBest, Push, Peek, Pop, Full, Worst.
  queue: Worst, Pop, Full.
  queue.Best.Offer.
-/
import Derived.Test.YtajbimmfkbgcpaaGreatHeap3
import Derived.Deep.AppendLies
/- heap.pop, heap.push. -/
namespace Go.Proofs.YtajbimmfkbgcpaaGreat
open Go.RowKit

theorem pop_perm (x : Sp) (xs : List Sp) (l : Sp) (hl : (x :: xs)[xs.length]? = some l) : (((x :: xs).set 0 l).take xs.length).Perm xs := by
  rcases List.eq_nil_or_concat xs with rfl | ⟨ys, y, rfl⟩
  · simp
  · simp only [List.concat_eq_append, List.length_append, List.length_singleton] at hl ⊢
    have h1 : (x :: (ys ++ [y]))[ys.length + 1]? = some y := by simp
    rw [h1] at hl
    injection hl with hl
    subst hl
    simp only [List.set_cons_zero, List.take_succ_cons]
    rw [List.take_append_of_le_length (Nat.le_refl _), List.take_length]
    exact (List.perm_append_singleton y ys).symm
theorem flat_take (ys : List Sp) (n : Nat) : (flat ys).take (n * 3) = flat (ys.take n) := by
  induction ys generalizing n with
  | nil => simp [flat]
  | cons y ys ih =>
    cases n with
    | zero => simp [flat]
    | succ n =>
      have e : flat (y :: ys) = .int .u64 y.d :: .int .u64 y.i :: .int .i64 y.s :: flat ys := rfl
      have e2 : flat ((y :: ys).take (n + 1)) = .int .u64 y.d :: .int .u64 y.i :: .int .i64 y.s :: flat (ys.take n) := rfl
      have h0 : (n + 1) * 3 = n * 3 + 3 := by omega
      rw [e, e2, h0, ← ih n]
      rfl
theorem own_shrink {w : World} {base g c n m : Nat} {e : TypeId} {size : Nat} {xs : List Value} (h : w.ownsRow base e size (.slice (some ⟨g, 0, none⟩) n c) n xs) (hm : m ≤ n) : w.ownsRow base e size (.slice (some ⟨g, 0, none⟩) m c) m (xs.take (m * size)) := by
  have hms : m * size ≤ n * size := Nat.mul_le_mul_right _ hm
  refine ⟨by rw [List.length_take, h.1]; omega, ?_⟩
  rcases h.2 with ⟨h', _⟩ | ⟨g', cap', cur, h', hb, hg, hnc, hcm, hcs, htake⟩
  · simp at h'
  · simp only [Value.slice.injEq, Option.some.injEq, Addr.mk.injEq, and_true, true_and] at h'
    obtain ⟨rfl, rfl⟩ := h'
    refine .inr ⟨g, c, cur, rfl, hb, hg, by omega, hcm, hcs, ?_⟩
    rw [← htake, List.take_take]
    congr 1
    omega

set_option maxRecDepth 100000 in
set_option maxHeartbeats 2000000 in
theorem pop_any (hb : Nat) (fn : FuncId) (lt : Sp → Sp → Bool) (v : Value) (x : Sp) (xs : List Sp) (w : World) (hH : HeapIs w hb fn v (x :: xs)) (hl : xs.length ≤ 900000) (hO : OrderFn fn lt)
    (eg : ∀ args W, (callFunc fn args).run Tryz.prog W = .ok (.enter fn args) W) :
    Calls Tryz.prog 109 #[.pointer (some ⟨hb, 0, none⟩)] w fun e w' => e = .returned (.tuple #[]) ∧ ∃ v' ys, ys.Perm xs ∧ HeapIs w' hb fn v' ys ∧ Far (fun b => b = hb ∨ v.ownBlock = some b) w w' ∧ v'.ownBlock = v.ownBlock ∧ ∀ i m, i ≠ 0 → w.cell? ⟨hb, i, none⟩ = some m → w'.cell? ⟨hb, i, none⟩ = some m := by
  obtain ⟨g, c, rfl⟩ : ∃ g c, v = .slice (some ⟨g, 0, none⟩) (x :: xs).length c := by
    rcases hH.own.2 with ⟨_, h0⟩ | ⟨g, cap', cur, hv, _⟩
    · simp at h0
    · exact ⟨g, cap', hv⟩
  have HH := Lib.hid hH
  obtain ⟨c0, f0, c1, hown, -⟩ := hH
  have hlast : xs.length < (x :: xs).length := by simp
  have h0l : 0 < (x :: xs).length := by simp
  obtain ⟨x0, x1, x2⟩ := own_sp_cell hown hlast
  obtain ⟨y0, y1, y2⟩ := own_sp_cell hown h0l
  simp only [Nat.zero_mul, Nat.zero_add] at y0 y1 y2
  have HL := Lib.hid (show (x :: xs)[xs.length]? = some ((x :: xs)[xs.length]'hlast) from List.getElem?_eq_getElem hlast)
  generalize ((x :: xs)[xs.length]'hlast) = L at *
  generalize ((x :: xs)[0]'h0l) = Y at *
  have z0 := hown.frozenAt 0; have z1 := hown.frozenAt 1; have z2 := hown.frozenAt 2
  have l1 := lt_of_cell c0
  have l2 := lt_of_cell x0
  have HO := Lib.hid hO
  have hn : (x :: xs).length = xs.length + 1 := rfl
  rw [hn] at *
  clear hown hlast h0l hn hO
  go_enter Tryz.func109, Tryz.ntmps109
  go_wp2_with fail
  refine wp_region_kept_tail 11 (by kernel_rfl) (by kernel_rfl) ?_
  simp only [List.take_succ_cons, List.take_zero, List.drop_succ_cons, List.drop_zero]
  repeat (go_big_quiet_step (fail))
  refine wpQuiet_nil ?_
  intro w1 hw1
  have hk1 : Kept w w1 := by obtain ⟨p, rfl⟩ := hw1; exact gr_kept _ _ _
  clear hw1
  have HH1 := Lib.hid (HH.out.keep hk1)
  have HK1 := Lib.hid (Far.of_kept (fun _ => False) hk1)
  have HF1 := Lib.hid (Far.of_kept (fun b => b = hb ∨ (Value.slice (some ⟨g, 0, none⟩) (xs.length + 1) c).ownBlock = some b) hk1)
  clear c0 f0 c1 x0 x1 x2 y0 y1 y2 z0 z1 z2 l1 l2 hk1
  obtain ⟨c0, f0, c1, hown, hne⟩ := HH1.out
  have hcap := (own_cap hown).1
  obtain ⟨y0, y1, y2⟩ := own_sp_cell hown (k := 0) (by simp)
  simp only [Nat.zero_mul, Nat.zero_add] at y0 y1 y2
  have z0 := hown.frozenAt 0; have z1 := hown.frozenAt 1; have z2 := hown.frozenAt 2
  have hx0 : ([]:List Nat) = [] := rfl
  generalize ((x :: xs)[0]'(by simp)) = Y at *
  have hgb : hb ≠ g := fun e => hne (by simp [Value.ownBlock, e])
  have HO2 := Lib.hid (own_putSp hown (k := 0) (by simp) L)
  have HOn : Hid (Only g w1 (((w1.setCell ⟨g, 0, none⟩ (.int .u64 L.d)).setCell ⟨g, 1, none⟩ (.int .u64 L.i)).setCell ⟨g, 2, none⟩ (.int .i64 L.s))) := only_trans (only_trans (only_setCell' _ _ _ _) (only_setCell' _ _ _ _)) (only_setCell' _ _ _ _)
  have d0 : ((((w1.setCell ⟨g, 0, none⟩ (.int .u64 L.d)).setCell ⟨g, 1, none⟩ (.int .u64 L.i)).setCell ⟨g, 2, none⟩ (.int .i64 L.s))).cell? ⟨hb, 0, none⟩ = some (.slice (some ⟨g, 0, none⟩) (xs.length + 1) c) := (World.cell?_of_block (HOn.out.block hb hgb)).trans c0
  have d1 : ((((w1.setCell ⟨g, 0, none⟩ (.int .u64 L.d)).setCell ⟨g, 1, none⟩ (.int .u64 L.i)).setCell ⟨g, 2, none⟩ (.int .i64 L.s))).cell? ⟨hb, 1, none⟩ = some (.func (.func fn) #[] #[]) := (World.cell?_of_block (HOn.out.block hb hgb)).trans c1
  have d2 : ((((w1.setCell ⟨g, 0, none⟩ (.int .u64 L.d)).setCell ⟨g, 1, none⟩ (.int .u64 L.i)).setCell ⟨g, 2, none⟩ (.int .i64 L.s))).frozen? ⟨hb, 0, none⟩ = false := (World.frozen?_of_block (HOn.out.block hb hgb)).trans f0
  have Hgb := Lib.hid hgb; have Hne := Lib.hid hne
  clear hown hx0 c0 f0 c1 hne hgb
  have hcl : (x :: xs).length = xs.length + 1 := rfl
  have hcap' : xs.length ≤ c := by omega
  have hle := Lib.hid (show xs.length ≤ (x :: xs).length by omega)
  clear hcl
  have HHp : Hid (HeapIs (((((w1.setCell ⟨g, 0, none⟩ (.int .u64 L.d)).setCell ⟨g, 1, none⟩ (.int .u64 L.i)).setCell ⟨g, 2, none⟩ (.int .i64 L.s))).setCell ⟨hb, 0, none⟩ (.slice (some ⟨g, 0, none⟩) xs.length c)) hb fn (.slice (some ⟨g, 0, none⟩) xs.length c) (((x :: xs).set 0 L).take xs.length)) := by
    have hlz : (((x :: xs).set 0 L).take xs.length).length = xs.length := by rw [List.length_take, List.length_set, List.length_cons]; omega
    have ho := own_shrink (m := xs.length) HO2.out hle.out
    rw [flat_take] at ho
    have ho2 : World.ownsRow (((((w1.setCell ⟨g, 0, none⟩ (.int .u64 L.d)).setCell ⟨g, 1, none⟩ (.int .u64 L.i)).setCell ⟨g, 2, none⟩ (.int .i64 L.s))).setCell ⟨hb, 0, none⟩ (.slice (some ⟨g, 0, none⟩) xs.length c)) 0 60 3 (.slice (some ⟨g, 0, none⟩) xs.length c) xs.length (flat (((x :: xs).set 0 L).take xs.length)) :=
      own_far (F := fun b => b = hb) ho (by intro b hb' e; simp [Value.ownBlock] at hb'; exact Hgb.out (by omega)) (Far.of_only (only_setCell' _ _ _ _) rfl)
    refine ⟨World.cell?_setCell_same' _ _ _ (by rw [d0]; rfl), ?_, ?_, by rw [hlz]; exact ho2, by simpa [Value.ownBlock] using (fun e => Hgb.out e.symm)⟩
    · rw [World.frozen?_setCell]; exact d2
    · exact (World.cell?_setCell_other _ ⟨hb, 0, none⟩ ⟨hb, 1, none⟩ _ (by simp)).trans d1
  have HFp : Hid (Far (fun b => b = hb ∨ (Value.slice (some ⟨g, 0, none⟩) (xs.length + 1) c).ownBlock = some b) w (((((w1.setCell ⟨g, 0, none⟩ (.int .u64 L.d)).setCell ⟨g, 1, none⟩ (.int .u64 L.i)).setCell ⟨g, 2, none⟩ (.int .i64 L.s))).setCell ⟨hb, 0, none⟩ (.slice (some ⟨g, 0, none⟩) xs.length c))) :=
    (HF1.out.trans (Far.of_only HOn.out (.inr rfl))).trans (Far.of_only (only_setCell' _ _ _ _) (.inl rfl))
  have HD := Lib.hid (down_any hb fn lt _ _ _ HHp.out (by rw [List.length_take]; exact Nat.le_trans (Nat.min_le_left _ _) (by omega)) HO.out eg)
  go_wp2_with (first | (go_at_call 114; refine HD.out.mono ?_; rintro e w3 ⟨rfl, ys, hp, hh, hf⟩))
  go_end0
  refine ⟨rfl, _, ys, hp.trans (pop_perm x xs L HL.out), hh, HFp.out.trans (hf.mono fun b _ h => .inr h), rfl, fun i m hi hm => ?_⟩
  have e1 := HK1.out.cell hm (fun h => h)
  have e2 := (World.cell?_of_block (HOn.out.block hb Hgb.out)).trans e1
  exact hf.cell ((World.cell?_setCell_other _ ⟨hb, 0, none⟩ ⟨hb, i, none⟩ _ (fun e => hi (by have := congrArg Addr.off e; simpa using this.symm))).trans e2) (by simpa [Value.ownBlock] using (fun e => Hgb.out e.symm))
end Go.Proofs.YtajbimmfkbgcpaaGreat

/- heap.push. -/
namespace Go.Proofs.YtajbimmfkbgcpaaGreat
open Go.RowKit

theorem news_at {W : World} {B t : Nat} {arr : Array Value} (hB : B = W.heap.size) : ∀ j u, arr.toList[j]? = some u → (W.alloc (.cells arr t)).drew.cell? ((⟨B, 0, none⟩ : Addr).add j) = some u := by
  subst hB
  exact cells_new W arr t
theorem drewK (w : World) : Kept w w.drew := ⟨rfl, rfl, rfl, Nat.le_refl _, fun _ _ => rfl⟩
theorem far_of_grown {w w' : World} {v : Value} (hg : w.grownBy w' v.ownBlock) : Far (fun b => v.ownBlock = some b) w w' :=
  ⟨hg.os, hg.tape, hg.output, hg.size, fun k hk hF => hg.block k hk (fun e => hF e.symm)⟩

set_option maxRecDepth 100000 in
set_option maxHeartbeats 3200000 in
theorem push_any (hb : Nat) (fn : FuncId) (lt : Sp → Sp → Bool) (v : Value) (x : Sp) (xs : List Sp) (w : World) (hH : HeapIs w hb fn v xs) (hl : xs.length ≤ 900000) (hO : OrderFn fn lt)
    (eg : ∀ args W, (callFunc fn args).run Tryz.prog W = .ok (.enter fn args) W) :
    Calls Tryz.prog 106 #[.pointer (some ⟨hb, 0, none⟩), x.val] w fun e w' => e = .returned (.tuple #[]) ∧ ∃ v' ys, ys.Perm (xs ++ [x]) ∧ HeapIs w' hb fn v' ys ∧ Far (fun b => b = hb ∨ v.ownBlock = some b) w w' ∧
      (∀ b, v'.ownBlock = some b → v.ownBlock = some b ∨ w.heap.size ≤ b) ∧ ∀ i m, i ≠ 0 → w.cell? ⟨hb, i, none⟩ = some m → w'.cell? ⟨hb, i, none⟩ = some m := by
  obtain ⟨i0, hi0, hz0, hz1, hz2⟩ := info_parts Tryz.elemSpot.info
  have HH := Lib.hid hH
  obtain ⟨c0, f0, c1, hown, hne⟩ := hH
  have l1 := lt_of_cell c0
  have Hl1 := Lib.hid l1; have HC0 := Lib.hid c0; have HF0 := Lib.hid f0; have HC1 := Lib.hid c1; have HO := Lib.hid hO; have Hown := Lib.hid hown; have Hne := Lib.hid hne
  have hfr : (w.alloc (.cells #[.int .u64 x.d, .int .u64 x.i, .int .i64 x.s] 60)).frozen? ⟨hb, 0, none⟩ = false := ((kept_alloc w _).frozen (p := ⟨hb, 0, none⟩) l1).trans f0
  have b0 : (w.alloc (.cells #[.int .u64 x.d, .int .u64 x.i, .int .i64 x.s] 60)).cell? ⟨hb, 0, none⟩ = some v := cell_old c0
  have b1 : (w.alloc (.cells #[.int .u64 x.d, .int .u64 x.i, .int .i64 x.s] 60)).cell? ⟨w.heap.size, 0, none⟩ = some (.int .u64 x.d) := cell_new rfl rfl
  have b2 : (w.alloc (.cells #[.int .u64 x.d, .int .u64 x.i, .int .i64 x.s] 60)).cell? ⟨w.heap.size, 1, none⟩ = some (.int .u64 x.i) := cell_new rfl rfl
  have b3 : (w.alloc (.cells #[.int .u64 x.d, .int .u64 x.i, .int .i64 x.s] 60)).cell? ⟨w.heap.size, 2, none⟩ = some (.int .i64 x.s) := cell_new rfl rfl
  have hS : ∀ W', Far (fun b => v.ownBlock = some b) (w.alloc (.cells #[.int .u64 x.d, .int .u64 x.i, .int .i64 x.s] 60)) W' → (W'.cell? ⟨hb, 0, none⟩ = some v ∧ W'.frozen? ⟨hb, 0, none⟩ = false ∧ W'.cell? ⟨w.heap.size, 0, none⟩ = some (.int .u64 x.d) ∧ W'.cell? ⟨w.heap.size, 1, none⟩ = some (.int .u64 x.i) ∧ W'.cell? ⟨w.heap.size, 2, none⟩ = some (.int .i64 x.s)) ∧ W'.cell? ⟨hb, 1, none⟩ = some (.func (.func fn) #[] #[]) := fun W' hf => by
    have n1 : ¬ v.ownBlock = some hb := hne
    have n2 : ¬ v.ownBlock = some w.heap.size := fun e => by have := (hown.lt _ e).2; omega
    exact ⟨⟨hf.cell b0 n1, (World.frozen?_of_block (hf.block hb (lt_of_cell b0) n1)).trans hfr, hf.cell b1 n2, hf.cell b2 n2, hf.cell b3 n2⟩, hf.cell (cell_old c1) n1⟩
  have HS := Lib.hid hS
  clear hown hne hO c0 f0 c1 hS
  go_enter Tryz.func106, Tryz.ntmps106
  go_wp2_with fail
  go_region_law
    (first
      | (refine step_append_lies _ (by rfl) _ _ _ (by rfl) 0 60 i0 _ 3 24 Tryz.underlying57 hi0 hz0 hz1 hz2 rfl (by omega) v xs.length (flat xs) (by rfl) (by exact (((Hown.out).alloc _).alloc _).drew)
          ⟨w.heap.size + 1, 0, none⟩ 1 1 [.int .u64 x.d, .int .u64 x.i, .int .i64 x.s] (by rfl) (by rfl) (by exact news_at (arr := #[.int .u64 x.d, .int .u64 x.i, .int .i64 x.s]) (by simp)) (by simp [Value.oneCell'])
          (by omega) (by unfold maxLen; omega) (by omega) (by omega) (w.heap.size + 1 + 1) (by simp) ?_; intro gg cap w1 hown1 hgrow hat hlt; have HG := Lib.hid hgrow; have HWn := Lib.hid hown1; have hww := HS.out w1 ((Far.of_kept _ (Kept.trans (kept_alloc _ _) (drewK _))).trans (far_of_grown hgrow)); obtain ⟨⟨d0, d1, d2, d3, d4⟩, d5⟩ := hww; clear hown1 hgrow))
  all_goals (
    have hgb : hb ≠ gg := fun e => by
      rcases hat with h | h
      · exact Hne.out (e ▸ h)
      · have := Hl1.out; omega
    have HGb := Lib.hid hgb
    have HW : Hid (HeapIs (w1.setCell ⟨hb, 0, none⟩ (.slice (some ⟨gg, 0, none⟩) (xs.length + 1) cap)) hb fn (.slice (some ⟨gg, 0, none⟩) (xs.length + 1) cap) (xs ++ [x])) := by
      have hlz : (xs ++ [x]).length = xs.length + 1 := by simp
      have ho := own_far (F := fun b => b = hb) HWn.out (by intro b hb' e; simp [Value.ownBlock] at hb'; exact HGb.out (by omega)) (Far.of_only (only_setCell' w1 hb 0 (.slice (some ⟨gg, 0, none⟩) (xs.length + 1) cap)) rfl)
      refine ⟨World.cell?_setCell_same' _ _ _ (by rw [d0]; rfl), by rw [World.frozen?_setCell]; exact d1, (World.cell?_setCell_other _ ⟨hb, 0, none⟩ ⟨hb, 1, none⟩ _ (by simp)).trans d5, by rw [hlz, flat_append]; exact ho, by simpa [Value.ownBlock] using (fun e => HGb.out e.symm)⟩
    have HF : Hid (Far (fun b => b = hb ∨ v.ownBlock = some b) w (w1.setCell ⟨hb, 0, none⟩ (.slice (some ⟨gg, 0, none⟩) (xs.length + 1) cap))) :=
      (((Far.of_kept _ (Kept.trans (kept_alloc _ _) (Kept.trans (kept_alloc _ _) (drewK _)))).trans (far_of_grown HG.out)).mono (fun _ _ h => .inr h)).trans (Far.of_only (only_setCell' _ _ _ _) (.inl rfl))
    have hd1 := HW.out.c0
    have hl1 := lt_of_cell hd1
    have HA := Lib.hid hat
    clear hat d0 d1 d2 d3 d4 d5 hgb
    have HU := Lib.hid (up_any hb fn lt _ xs.length _ _ HW.out (by simp) (by simp; omega) HO.out eg)
    have hck : ((xs.length + 1 : Nat) : Int) - 1 = (xs.length : Int) := by omega
    go_wp2_with (first | (go_at_call 112; refine HU.out.mono ?_; rintro e w3 ⟨rfl, ys, hp, hh, hf⟩))
    go_end0
    refine ⟨rfl, _, ys, hp, hh, HF.out.trans' hf (fun i hi => ?_), fun b hb' => ?_, fun i m hi hm => ?_⟩
    · rcases HA.out with h | h
      · exact .inl (.inr (by rw [h]; exact hi))
      · exact .inr (by simp only [Value.ownBlock, Option.some.injEq] at hi; omega)
    · rcases HA.out with h | h
      · exact .inl (by rw [h]; exact hb')
      · exact .inr (by simp only [Value.ownBlock, Option.some.injEq] at hb'; omega)
    · have e1 := ((Far.of_kept (fun b => v.ownBlock = some b) (Kept.trans (kept_alloc w (.cells #[.int .u64 x.d, .int .u64 x.i, .int .i64 x.s] 60)) (Kept.trans (kept_alloc _ (.cells #[.int .u64 x.d, .int .u64 x.i, .int .i64 x.s] 60)) (drewK _)))).trans (far_of_grown HG.out)).cell hm Hne.out
      exact hf.cell ((World.cell?_setCell_other _ ⟨hb, 0, none⟩ ⟨hb, i, none⟩ _ (fun e => hi (by have := congrArg Addr.off e; simpa using this.symm))).trans e1) (by simpa [Value.ownBlock] using (fun e => HGb.out e.symm)))
end Go.Proofs.YtajbimmfkbgcpaaGreat

/- queue: New, NewBest, Push, Peek, Pop, Full, Worst. -/
namespace Go.Proofs.YtajbimmfkbgcpaaGreat
open Go.RowKit

abbrev ordQ (x y : Sp) : Bool := plcB x.d x.i x.s y.d y.i y.s
abbrev ordB (x y : Sp) : Bool := ordQ y x
theorem orderQ : OrderFn 91 ordQ := fun x y W => Spot_any x.d x.i x.s y.d y.i y.s W
theorem entersQ (args : Array Value) (W : World) : (callFunc 91 args).run Tryz.prog W = .ok (.enter 91 args) W := enters_of Tryz.func91 (by kernel_rfl) rfl args W
theorem entersB (args : Array Value) (W : World) : (callFunc 92 args).run Tryz.prog W = .ok (.enter 92 args) W := enters_of Tryz.func92 (by kernel_rfl) rfl args W

set_option maxRecDepth 100000 in
theorem orderB : OrderFn 92 ordB := by
  intro x y W
  have c1 : ∀ W', Calls Tryz.prog 91 #[.agg #[.int .u64 y.d, .int .u64 y.i, .int .i64 y.s], .agg #[.int .u64 x.d, .int .u64 x.i, .int .i64 x.s]] W' fun e w' => e = .returned (.bool (ordB x y)) ∧ Kept W' w' := fun W' => Spot_any y.d y.i y.s x.d x.i x.s W'
  generalize ordB x y = b at *
  go_enter Tryz.func92, Tryz.ntmps92
  go_wp2_with (first | (go_at_call 91; refine (c1 _).mono ?_; rintro e w1 ⟨rfl, hk1⟩))
  go_ret
  exact ⟨rfl, (Kept.trans (kept_alloc _ _) (kept_alloc _ _)).trans hk1⟩

theorem own_nil (w : World) (e : TypeId) (size : Nat) : w.ownsRow 0 e size (.slice none 0 0) 0 [] := ⟨by simp, .inl ⟨rfl, rfl⟩⟩

theorem frozen_new (w : World) (cs : Array Value) (t b i : Nat) (hb : b = w.heap.size) : (w.alloc (.cells cs t)).frozen? ⟨b, i, none⟩ = false := by
  subst hb
  have h1 : (w.alloc (.cells cs t)).heap[w.heap.size]? = some (.cells cs t (0, 0)) := by show (w.heap.push _)[w.heap.size]? = _; simp
  unfold World.frozen?
  rw [h1]
  simp

set_option maxRecDepth 100000 in
theorem New_any (w : World) : Calls Tryz.prog 71 #[] w fun e w' => e = .returned (.pointer (some ⟨w.heap.size, 0, none⟩)) ∧ HeapIs w' w.heap.size 91 (.slice none 0 0) [] ∧ Kept w w' ∧ w'.heap.size = w.heap.size + 1 := by
  have c0 : (w.alloc (.cells #[.slice none 0 0, .func (.func 91) #[] #[]] 140)).cell? ⟨w.heap.size, 0, none⟩ = some (.slice none 0 0) := cell_new rfl rfl
  have c1 : (w.alloc (.cells #[.slice none 0 0, .func (.func 91) #[] #[]] 140)).cell? ⟨w.heap.size, 1, none⟩ = some (.func (.func 91) #[] #[]) := cell_new rfl rfl
  have f0 := frozen_new w #[.slice none 0 0, .func (.func 91) #[] #[]] 140 w.heap.size 0 rfl
  have HH : Hid (HeapIs (w.alloc (.cells #[.slice none 0 0, .func (.func 91) #[] #[]] 140)) w.heap.size 91 (.slice none 0 0) []) := ⟨c0, f0, c1, own_nil _ _ _, by simp [Value.ownBlock]⟩
  clear c0 c1 f0
  go_enter Tryz.func71, Tryz.ntmps71
  go_wp2
  go_ret
  exact ⟨rfl, HH.out, kept_alloc _ _, by simp⟩

def mostOf (m : Int) : Int := min (max m 0) 4096

set_option maxRecDepth 100000 in
theorem NewBest_any (m : Int) (w : World) : Calls Tryz.prog 72 #[.int .i64 m] w fun e w' => e = .returned (.pointer (some ⟨w.heap.size, 0, none⟩)) ∧ HeapIs w' w.heap.size 92 (.slice none 0 0) [] ∧ w'.cell? ⟨w.heap.size, 2, none⟩ = some (.int .i64 (mostOf m)) ∧ Kept w w' ∧ w'.heap.size = w.heap.size + 1 := by
  have mk : ∀ M : Int, HeapIs (w.alloc (.cells #[.slice none 0 0, .func (.func 92) #[] #[], .int .i64 M] 128)) w.heap.size 92 (.slice none 0 0) [] := fun M =>
    ⟨cell_new rfl rfl, frozen_new _ _ _ _ _ rfl, cell_new rfl rfl, own_nil _ _ _, by simp [Value.ownBlock]⟩
  have MK := Lib.hid mk
  clear mk
  have hm : ∀ M : Int, M = mostOf m → Hid (M = mostOf m) := fun M h => Lib.hid h
  unfold mostOf at hm
  generalize hM : mostOf m = M at *
  have HM := Lib.hid hM
  clear hM
  go_enter Tryz.func72, Tryz.ntmps72
  go_wp2
  all_goals (go_ret; refine ⟨rfl, MK.out _, ?_, kept_alloc _ _, by simp⟩; refine (cell_new rfl rfl).trans (congrArg (fun z => some (Value.int .i64 z)) ?_); rw [← HM.out]; unfold mostOf; omega)

set_option maxRecDepth 100000 in
set_option maxHeartbeats 800000 in
theorem Push_any (hb : Nat) (v : Value) (x : Sp) (xs : List Sp) (w : World) (hH : HeapIs w hb 91 v xs) (hl : xs.length ≤ 900000) :
    Calls Tryz.prog 94 #[.pointer (some ⟨hb, 0, none⟩), x.val] w fun e w' => e = .returned (.tuple #[]) ∧ ∃ v' ys, ys.Perm (xs ++ [x]) ∧ HeapIs w' hb 91 v' ys ∧ Far (fun b => b = hb ∨ v.ownBlock = some b) w w' ∧
      (∀ b, v'.ownBlock = some b → v.ownBlock = some b ∨ w.heap.size ≤ b) := by
  have b1 : (w.alloc (.cells #[.int .u64 x.d, .int .u64 x.i, .int .i64 x.s] 60)).cell? ⟨w.heap.size, 0, none⟩ = some (.int .u64 x.d) := cell_new rfl rfl
  have b2 : (w.alloc (.cells #[.int .u64 x.d, .int .u64 x.i, .int .i64 x.s] 60)).cell? ⟨w.heap.size, 1, none⟩ = some (.int .u64 x.i) := cell_new rfl rfl
  have b3 : (w.alloc (.cells #[.int .u64 x.d, .int .u64 x.i, .int .i64 x.s] 60)).cell? ⟨w.heap.size, 2, none⟩ = some (.int .i64 x.s) := cell_new rfl rfl
  have HH := Lib.hid hH
  have l1 := lt_of_cell hH.c0
  clear hH
  go_enter Tryz.func94, Tryz.ntmps94
  go_wp2_with fail
  refine wp_region_kept_tail 4 (by kernel_rfl) (by kernel_rfl) ?_
  simp only [List.take_succ_cons, List.take_zero, List.drop_succ_cons, List.drop_zero]
  repeat (go_big_quiet_step (fail))
  refine wpQuiet_nil ?_
  intro w1 hw1
  have HK : Hid (Kept w w1) := by obtain ⟨p, rfl⟩ := hw1; exact Kept.trans (kept_alloc _ _) (gr_kept _ _ _)
  have HP := Lib.hid (push_any hb _ ordQ v x xs w1 (HH.out.keep HK.out) hl orderQ entersQ)
  clear hw1 b1 b2 b3 l1
  go_wp2_with (first | (go_at_call 106; refine HP.out.mono ?_; rintro e w3 ⟨rfl, v', ys, hp, hh, hf, hv, -⟩))
  go_end0
  exact ⟨rfl, v', ys, hp, hh, (Far.of_kept _ HK.out).trans hf, fun b hb' => (hv b hb').imp id (fun h => Nat.le_trans HK.out.size h)⟩

/-- What is ahead of all, or nothing. -/
def headSp : List Sp → Sp
  | [] => ⟨0, 0, 0⟩
  | x :: _ => x
theorem first_any (hb : Nat) (fn : FuncId) (v : Value) (xs : List Sp) (w : World) (hH : HeapIs w hb fn v xs) (hl : xs.length ≤ 1000000) :
    Calls Tryz.prog 113 #[.pointer (some ⟨hb, 0, none⟩)] w fun e w' => e = .returned (.tuple #[.agg #[.int .u64 (headSp xs).d, .int .u64 (headSp xs).i, .int .i64 (headSp xs).s], .bool (!xs.isEmpty)]) ∧ Kept w w' := by
  cases xs with
  | nil => exact first_none hb fn v w hH
  | cons x xs => exact first_some hb fn v x xs w hH (by simp at hl; omega)

theorem put3 {w1 : World} {B : Nat} {a b c : Value} (d0 : w1.cell? ⟨B, 0, none⟩ = some a) (d1 : w1.cell? ⟨B, 1, none⟩ = some b) (d2 : w1.cell? ⟨B, 2, none⟩ = some c) (a' b' c' : Value) :
    (w1.setCell ⟨B, 0, none⟩ a').cell? ⟨B, 0, none⟩ = some a' ∧ ((w1.setCell ⟨B, 0, none⟩ a').setCell ⟨B, 1, none⟩ b').cell? ⟨B, 1, none⟩ = some b' ∧ (((w1.setCell ⟨B, 0, none⟩ a').setCell ⟨B, 1, none⟩ b').setCell ⟨B, 2, none⟩ c').cell? ⟨B, 2, none⟩ = some c' := by
  have n1 : (w1.setCell ⟨B, 0, none⟩ a').cell? ⟨B, 1, none⟩ = some b := (World.cell?_setCell_other _ _ _ _ (by simp)).trans d1
  have n2 : ((w1.setCell ⟨B, 0, none⟩ a').setCell ⟨B, 1, none⟩ b').cell? ⟨B, 2, none⟩ = some c := (World.cell?_setCell_other _ _ _ _ (by simp)).trans ((World.cell?_setCell_other _ _ _ _ (by simp)).trans d2)
  exact ⟨World.cell?_setCell_same' _ _ _ (by rw [d0]; rfl), World.cell?_setCell_same' _ _ _ (by rw [n1]; rfl), World.cell?_setCell_same' _ _ _ (by rw [n2]; rfl)⟩

/-- A new box of a spot, behind a call that kept all. -/
theorem box3 {w w1 : World} {a b c : Value} {t B : Nat} (hk : Kept (w.alloc (.cells #[a, b, c] t)) w1) (hB : B = w.heap.size) :
    (w1.cell? ⟨B, 0, none⟩ = some a ∧ w1.cell? ⟨B, 1, none⟩ = some b ∧ w1.cell? ⟨B, 2, none⟩ = some c) ∧ (w1.frozen? ⟨B, 0, none⟩ = false ∧ w1.frozen? ⟨B, 1, none⟩ = false ∧ w1.frozen? ⟨B, 2, none⟩ = false) ∧ B < w1.heap.size := by
  subst hB
  have hl : w.heap.size < (w.alloc (.cells #[a, b, c] t)).heap.size := by simp
  have hb := hk.block _ hl
  exact ⟨⟨(World.cell?_of_block hb).trans (cell_new rfl rfl), (World.cell?_of_block hb).trans (cell_new rfl rfl), (World.cell?_of_block hb).trans (cell_new rfl rfl)⟩,
    ⟨(World.frozen?_of_block hb).trans (frozen_new _ _ _ _ _ rfl), (World.frozen?_of_block hb).trans (frozen_new _ _ _ _ _ rfl), (World.frozen?_of_block hb).trans (frozen_new _ _ _ _ _ rfl)⟩, Nat.lt_of_lt_of_le hl hk.size⟩

set_option maxRecDepth 100000 in
theorem Peek_any (hb : Nat) (fn : FuncId) (v : Value) (xs : List Sp) (w : World) (hH : HeapIs w hb fn v xs) (hl : xs.length ≤ 1000000) :
    Calls Tryz.prog 110 #[.pointer (some ⟨hb, 0, none⟩)] w fun e w' => e = .returned (.tuple #[.agg #[.int .u64 (headSp xs).d, .int .u64 (headSp xs).i, .int .i64 (headSp xs).s], .bool (!xs.isEmpty)]) ∧ Kept w w' := by
  have c1 : ∀ W, Kept w W → Calls Tryz.prog 113 #[.pointer (some ⟨hb, 0, none⟩)] W fun e w' => e = .returned (.tuple #[.agg #[.int .u64 (headSp xs).d, .int .u64 (headSp xs).i, .int .i64 (headSp xs).s], .bool (!xs.isEmpty)]) ∧ Kept W w' := fun W hk => first_any hb fn v xs W (hH.keep hk) hl
  have l1 := lt_of_cell hH.c0
  have c1 := Lib.hid c1
  clear hH hl
  generalize (!xs.isEmpty) = r at *
  generalize headSp xs = y at *
  go_enter Tryz.func110, Tryz.ntmps110
  go_wp2_with (first | (go_at_call 113; refine (c1.out _ (kept_alloc _ _)).mono ?_; rintro e w1 ⟨rfl, hk1⟩; obtain ⟨⟨d0, d1, d2⟩, ⟨g0, g1, g2⟩, l2⟩ := box3 hk1 rfl))
  obtain ⟨e0, e1, e2⟩ := put3 d0 d1 d2 (.int .u64 y.d) (.int .u64 y.i) (.int .i64 y.s)
  exact bodyPost_ret (v := .tuple #[y.val, .bool r]) (by simp [results, Tryz.results110, go_sem, e0, e1, e2]) rfl ⟨rfl, ((((kept_alloc w _).trans hk1).setCell (Nat.le_refl _) _).setCell (Nat.le_refl _) _).setCell (Nat.le_refl _) _⟩
end Go.Proofs.YtajbimmfkbgcpaaGreat

/- queue: Worst, Pop, Full. -/
namespace Go.Proofs.YtajbimmfkbgcpaaGreat
open Go.RowKit

theorem HeapIs.far {w w' : World} {hb : Nat} {fn : FuncId} {v : Value} {xs : List Sp} {F : Nat → Prop} (h : HeapIs w hb fn v xs) (hf : Far F w w') (h1 : ¬ F hb) (h2 : ∀ b, v.ownBlock = some b → ¬ F b) : HeapIs w' hb fn v xs :=
  ⟨hf.cell h.c0 h1, (World.frozen?_of_block (hf.block hb (lt_of_cell h.c0) h1)).trans h.f0, hf.cell h.c1 h1, own_far h.own h2 hf, h.ne⟩
theorem far_put3 (w : World) (B : Nat) (a b c : Value) : Far (fun k => k = B) w (((w.setCell ⟨B, 0, none⟩ a).setCell ⟨B, 1, none⟩ b).setCell ⟨B, 2, none⟩ c) :=
  ((Far.of_only (F := fun k => k = B) (only_setCell' w B 0 a) rfl).trans (Far.of_only (F := fun k => k = B) (only_setCell' _ B 1 b) rfl)).trans (Far.of_only (F := fun k => k = B) (only_setCell' _ B 2 c) rfl)

set_option maxRecDepth 100000 in
theorem Worst_any (hb : Nat) (fn : FuncId) (v : Value) (xs : List Sp) (w : World) (hH : HeapIs w hb fn v xs) (hl : xs.length ≤ 1000000) :
    Calls Tryz.prog 108 #[.pointer (some ⟨hb, 0, none⟩)] w fun e w' => e = .returned (.tuple #[.agg #[.int .u64 (headSp xs).d, .int .u64 (headSp xs).i, .int .i64 (headSp xs).s], .bool (!xs.isEmpty)]) ∧ Kept w w' := by
  have c1 : ∀ W, Kept w W → Calls Tryz.prog 113 #[.pointer (some ⟨hb, 0, none⟩)] W fun e w' => e = .returned (.tuple #[.agg #[.int .u64 (headSp xs).d, .int .u64 (headSp xs).i, .int .i64 (headSp xs).s], .bool (!xs.isEmpty)]) ∧ Kept W w' := fun W hk => first_any hb fn v xs W (hH.keep hk) hl
  have l1 := lt_of_cell hH.c0
  have c1 := Lib.hid c1
  clear hH hl
  generalize (!xs.isEmpty) = r at *
  generalize headSp xs = y at *
  go_enter Tryz.func108, Tryz.ntmps108
  go_wp2_with (first | (go_at_call 113; refine (c1.out _ (kept_alloc _ _)).mono ?_; rintro e w1 ⟨rfl, hk1⟩; obtain ⟨⟨d0, d1, d2⟩, ⟨g0, g1, g2⟩, l2⟩ := box3 hk1 rfl))
  obtain ⟨e0, e1, e2⟩ := put3 d0 d1 d2 (.int .u64 y.d) (.int .u64 y.i) (.int .i64 y.s)
  exact bodyPost_ret (v := .tuple #[y.val, .bool r]) (by simp [results, Tryz.results108, go_sem, e0, e1, e2]) rfl ⟨rfl, ((((kept_alloc w _).trans hk1).setCell (Nat.le_refl _) _).setCell (Nat.le_refl _) _).setCell (Nat.le_refl _) _⟩

set_option maxRecDepth 100000 in
set_option maxHeartbeats 1000000 in
theorem Pop_any (hb : Nat) (v : Value) (x : Sp) (xs : List Sp) (w : World) (hH : HeapIs w hb 91 v (x :: xs)) (hl : xs.length ≤ 900000) :
    Calls Tryz.prog 97 #[.pointer (some ⟨hb, 0, none⟩)] w fun e w' => e = .returned (.tuple #[.agg #[.int .u64 x.d, .int .u64 x.i, .int .i64 x.s], .bool true]) ∧ ∃ v' ys, ys.Perm xs ∧ HeapIs w' hb 91 v' ys ∧ Far (fun b => b = hb ∨ v.ownBlock = some b) w w' ∧ v'.ownBlock = v.ownBlock := by
  have c1 : ∀ W, Kept w W → Calls Tryz.prog 110 #[.pointer (some ⟨hb, 0, none⟩)] W fun e w' => e = .returned (.tuple #[.agg #[.int .u64 x.d, .int .u64 x.i, .int .i64 x.s], .bool true]) ∧ Kept W w' := fun W hk => Peek_any hb _ v (x :: xs) W (hH.keep hk) (by simp; omega)
  have c2 : ∀ W, Kept w W → Calls Tryz.prog 109 #[.pointer (some ⟨hb, 0, none⟩)] W fun e w' => e = .returned (.tuple #[]) ∧ ∃ v' ys, ys.Perm xs ∧ HeapIs w' hb 91 v' ys ∧ Far (fun b => b = hb ∨ v.ownBlock = some b) W w' ∧ v'.ownBlock = v.ownBlock := fun W hk =>
    (pop_any hb _ ordQ v x xs W (hH.keep hk) hl orderQ entersQ).mono fun e w' ⟨h, v', ys, hp, hh, hf, hv, _⟩ => ⟨h, v', ys, hp, hh, hf, hv⟩
  have l1 := lt_of_cell hH.c0
  have c1 := Lib.hid c1; have c2 := Lib.hid c2
  have nb : ∀ b, v.ownBlock = some b → b < w.heap.size := fun b h => (hH.own.lt b h).2
  have NB := Lib.hid nb
  clear hH hl nb
  go_enter Tryz.func97, Tryz.ntmps97
  go_wp2_with (first
    | (go_at_call 110; refine (c1.out _ (kept_alloc _ _)).mono ?_; rintro e w1 ⟨rfl, hk1⟩; obtain ⟨⟨d0, d1, d2⟩, ⟨g0, g1, g2⟩, l2⟩ := box3 hk1 rfl; have hs1 := hk1.size; have K1 := Lib.hid (Kept.trans (kept_alloc w _) hk1); clear hk1)
    | (go_at_call 109; refine (c2.out _ (K1.out.trans (kept_alloc _ _))).mono ?_; rintro e w2 ⟨rfl, v', ys, hp, hh, hf, hv⟩
       have A1 : ¬ (w.heap.size = hb ∨ v.ownBlock = some w.heap.size) := fun h => h.elim (fun e => by omega) (fun e => by have := NB.out _ e; omega)
       have A2 : ¬ (w1.heap.size = hb ∨ v.ownBlock = some w1.heap.size) := fun h => h.elim (fun e => by omega) (fun e => by have := NB.out _ e; omega)
       have p0 := hf.cell (cell_old d0) A1; have p1 := hf.cell (cell_old d1) A1; have p2 := hf.cell (cell_old d2) A1
       have q0 := hf.cell (cell_new (cs := #[.int .u64 x.d, .int .u64 x.i, .int .i64 x.s]) (t := 60) (b := w1.heap.size) (i := 0) rfl rfl) A2
       have q1 := hf.cell (cell_new (cs := #[.int .u64 x.d, .int .u64 x.i, .int .i64 x.s]) (t := 60) (b := w1.heap.size) (i := 1) rfl rfl) A2
       have q2 := hf.cell (cell_new (cs := #[.int .u64 x.d, .int .u64 x.i, .int .i64 x.s]) (t := 60) (b := w1.heap.size) (i := 2) rfl rfl) A2
       have r0 := (World.frozen?_of_block (hf.block w.heap.size (by simp; omega) A1)).trans ((kept_alloc w1 (.cells #[.int .u64 x.d, .int .u64 x.i, .int .i64 x.s] 60)).frozen (p := ⟨w.heap.size, 0, none⟩) l2 |>.trans g0)
       have r1 := (World.frozen?_of_block (hf.block w.heap.size (by simp; omega) A1)).trans ((kept_alloc w1 (.cells #[.int .u64 x.d, .int .u64 x.i, .int .i64 x.s] 60)).frozen (p := ⟨w.heap.size, 1, none⟩) l2 |>.trans g1)
       have r2 := (World.frozen?_of_block (hf.block w.heap.size (by simp; omega) A1)).trans ((kept_alloc w1 (.cells #[.int .u64 x.d, .int .u64 x.i, .int .i64 x.s] 60)).frozen (p := ⟨w.heap.size, 2, none⟩) l2 |>.trans g2)
       have l3 := lt_of_cell p0
       have l4 := lt_of_cell q0
       have A1 := Lib.hid A1; have HV := Lib.hid hv; have HF := Lib.hid hf; have HH := Lib.hid hh; clear d0 d1 d2 g0 g1 g2 hv hf hh))
  obtain ⟨e0, e1, e2⟩ := put3 p0 p1 p2 (.int .u64 x.d) (.int .u64 x.i) (.int .i64 x.s)
  have FP := far_put3 w2 w.heap.size (.int .u64 x.d) (.int .u64 x.i) (.int .i64 x.s)
  refine bodyPost_ret (v := .tuple #[x.val, .bool true]) (by simp [results, Tryz.results97, go_sem, e0, e1, e2]) rfl ⟨rfl, v', ys, hp, HH.out.far FP (by omega) (fun b hb' e => ?_), (((Far.of_kept _ K1.out).trans (Far.of_kept _ (kept_alloc _ _))).trans HF.out).trans' FP (fun i hi => .inr (by omega)), HV.out⟩
  rw [HV.out] at hb'
  have := NB.out b hb'
  omega

theorem heap_slice {w : World} {hb : Nat} {fn : FuncId} {v : Value} {xs : List Sp} (h : HeapIs w hb fn v xs) : ∃ a c, v = .slice a xs.length c := by
  rcases h.own.2 with ⟨h1, h0⟩ | ⟨g, cap', cur, hv, _⟩
  · rw [h0]; exact ⟨none, 0, h1⟩
  · exact ⟨_, cap', hv⟩

set_option maxRecDepth 100000 in
theorem Full_any (hb : Nat) (fn : FuncId) (v : Value) (xs : List Sp) (m : Int) (w : World) (hH : HeapIs w hb fn v xs) (hm : w.cell? ⟨hb, 2, none⟩ = some (.int .i64 m)) :
    Calls Tryz.prog 107 #[.pointer (some ⟨hb, 0, none⟩)] w fun e w' => e = .returned (.bool (decide (m ≤ (xs.length : Int)))) ∧ Kept w w' := by
  obtain ⟨a, c, rfl⟩ := heap_slice hH
  have c0 := hH.c0
  have l1 := lt_of_cell c0
  clear hH
  generalize xs.length = n at *
  generalize hd : decide (m ≤ (n : Int)) = r
  have HD := Lib.hid hd
  clear hd
  go_enter Tryz.func107, Tryz.ntmps107
  go_wp2_with fail
  refine wp_region_kept (by kernel_rfl) (by kernel_rfl) ?_
  repeat (go_big_quiet_step (fail))
  refine wpQuiet_nil ?_
  intro w1 hw1
  have HK : Hid (Kept w w1) := by obtain ⟨p, rfl⟩ := hw1; exact gr_kept _ _ _
  clear hw1
  go_wp2
  rw [HD.out]
  go_ret
  exact ⟨rfl, HK.out⟩
end Go.Proofs.YtajbimmfkbgcpaaGreat

/- queue.Best.Offer. -/
namespace Go.Proofs.YtajbimmfkbgcpaaGreat
open Go.RowKit

theorem kcell {w w' : World} {b i : Nat} {v : Value} (hk : Kept w w') (h : w.cell? ⟨b, i, none⟩ = some v) : w'.cell? ⟨b, i, none⟩ = some v := (Far.of_kept (fun _ => False) hk).cell h id

/-- What an offer makes of a list of at most m. -/
structure OfferPost (hb : Nat) (v : Value) (x : Sp) (xs : List Sp) (m : Int) (w w' : World) (v' : Value) (ys : List Sp) : Prop where
  heap : HeapIs w' hb 92 v' ys
  most : w'.cell? ⟨hb, 2, none⟩ = some (.int .i64 m)
  far : Far (fun b => b = hb ∨ v.ownBlock = some b) w w'
  own : ∀ b, v'.ownBlock = some b → v.ownBlock = some b ∨ w.heap.size ≤ b
  room : (xs.length : Int) < m → ys.Perm (xs ++ [x])
  part : ∃ zs, (ys ++ zs).Perm (xs ++ [x])
  le : (ys.length : Int) ≤ m

set_option maxRecDepth 100000 in
theorem Offer_zero (hb : Nat) (v : Value) (x : Sp) (xs : List Sp) (w : World) (hH : HeapIs w hb 92 v xs) (hm : w.cell? ⟨hb, 2, none⟩ = some (.int .i64 0)) (hl : (xs.length : Int) ≤ 0) :
    Calls Tryz.prog 95 #[.pointer (some ⟨hb, 0, none⟩), x.val] w fun e w' => ∃ r v' ys, e = .returned (.bool r) ∧ OfferPost hb v x xs 0 w w' v' ys := by
  have HH := Lib.hid hH
  have l1 := lt_of_cell hH.c0
  have M := Lib.hid hm
  have hm' : (w.alloc (.cells #[.int .u64 x.d, .int .u64 x.i, .int .i64 x.s] 60)).cell? ⟨hb, 2, none⟩ = some (.int .i64 0) := cell_old hm
  clear hH hm
  go_enter Tryz.func95, Tryz.ntmps95
  go_wp2
  go_ret
  exact ⟨false, v, xs, rfl, HH.out.keep (kept_alloc _ _), cell_old M.out, Far.of_kept _ (kept_alloc _ _), fun b h => .inl h, fun h => by omega, ⟨[x], .refl _⟩, hl⟩

set_option maxRecDepth 100000 in
set_option maxHeartbeats 1600000 in
theorem Offer_room (hb : Nat) (v : Value) (x : Sp) (xs : List Sp) (m : Int) (w : World) (hH : HeapIs w hb 92 v xs) (hm : w.cell? ⟨hb, 2, none⟩ = some (.int .i64 m)) (hl : (xs.length : Int) < m) (h4 : m ≤ 4096) :
    Calls Tryz.prog 95 #[.pointer (some ⟨hb, 0, none⟩), x.val] w fun e w' => ∃ r v' ys, e = .returned (.bool r) ∧ OfferPost hb v x xs m w w' v' ys := by
  have HH := Lib.hid hH
  have l1 := lt_of_cell hH.c0
  have M := Lib.hid hm
  have hd : (m == 0) = false := by rw [beq_eq_false_iff_ne]; omega
  have hm' : (w.alloc (.cells #[.int .u64 x.d, .int .u64 x.i, .int .i64 x.s] 60)).cell? ⟨hb, 2, none⟩ = some (.int .i64 m) := cell_old hm
  have F1 : ∀ W, Kept w W → Calls Tryz.prog 107 #[.pointer (some ⟨hb, 0, none⟩)] W fun e w' => e = .returned (.bool false) ∧ Kept W w' := fun W hk => (Full_any hb _ v xs m W (hH.keep hk) (kcell hk hm)).mono fun e w' h => ⟨by rw [h.1]; simp; omega, h.2⟩
  have F1 := Lib.hid F1
  have HL := Lib.hid hl
  clear hH hm hl
  go_enter Tryz.func95, Tryz.ntmps95
  go_wp2_with (first
    | (go_at_call 107; refine (F1.out _ (kept_alloc _ _)).mono ?_; rintro e w1 ⟨rfl, hk1⟩; obtain ⟨⟨d0, d1, d2⟩, ⟨g0, g1, g2⟩, l2⟩ := box3 hk1 rfl; have K1 := Lib.hid (Kept.trans (kept_alloc w _) hk1); have hs1 := hk1.size; clear hk1))
  refine wp_region_kept_tail 4 (by kernel_rfl) (by kernel_rfl) ?_
  simp only [List.take_succ_cons, List.take_zero, List.drop_succ_cons, List.drop_zero]
  repeat (go_big_quiet_step (fail))
  refine wpQuiet_nil ?_
  intro w2 hw2
  have HK : Hid (Kept w w2) := by obtain ⟨p, rfl⟩ := hw2; exact Kept.trans K1.out (gr_kept _ _ _)
  have HP := Lib.hid (push_any hb _ ordB v x xs w2 (HH.out.keep HK.out) (by have := HL.out; omega) orderB entersB)
  clear hw2 d0 d1 d2 g0 g1 g2
  go_wp2_with (first | (go_at_call 106; refine HP.out.mono ?_; rintro e w3 ⟨rfl, v', ys, hp, hh, hf, hv, hc⟩))
  go_ret
  have hlen : ys.length = xs.length + 1 := by rw [hp.length_eq]; simp
  have := HL.out
  exact ⟨true, v', ys, rfl, hh, hc 2 _ (by omega) (kcell HK.out M.out), (Far.of_kept _ HK.out).trans hf, fun b hb' => (hv b hb').imp id (fun h => Nat.le_trans HK.out.size h), fun _ => hp, ⟨[], by simpa using hp⟩, by omega⟩

set_option maxRecDepth 100000 in
set_option maxHeartbeats 1600000 in
theorem Offer_full (hb : Nat) (v : Value) (x y : Sp) (xs : List Sp) (m : Int) (w : World) (hH : HeapIs w hb 92 v (y :: xs)) (hm : w.cell? ⟨hb, 2, none⟩ = some (.int .i64 m)) (hl : ((xs.length + 1 : Nat) : Int) = m) (h4 : m ≤ 4096) :
    Calls Tryz.prog 95 #[.pointer (some ⟨hb, 0, none⟩), x.val] w fun e w' => ∃ r v' ys, e = .returned (.bool r) ∧ OfferPost hb v x (y :: xs) m w w' v' ys := by
  have HH := Lib.hid hH
  have l1 := lt_of_cell hH.c0
  have M := Lib.hid hm
  have hd : (m == 0) = false := by rw [beq_eq_false_iff_ne]; omega
  have hm' : (w.alloc (.cells #[.int .u64 x.d, .int .u64 x.i, .int .i64 x.s] 60)).cell? ⟨hb, 2, none⟩ = some (.int .i64 m) := cell_old hm
  have F1 : ∀ W, Kept w W → Calls Tryz.prog 107 #[.pointer (some ⟨hb, 0, none⟩)] W fun e w' => e = .returned (.bool true) ∧ Kept W w' := fun W hk => (Full_any hb _ v (y :: xs) m W (hH.keep hk) (kcell hk hm)).mono fun e w' h => ⟨by rw [h.1]; simp; omega, h.2⟩
  have F2 : ∀ W, Kept w W → Calls Tryz.prog 108 #[.pointer (some ⟨hb, 0, none⟩)] W fun e w' => e = .returned (.tuple #[.agg #[.int .u64 y.d, .int .u64 y.i, .int .i64 y.s], .bool true]) ∧ Kept W w' := fun W hk => Worst_any hb _ v (y :: xs) W (hH.keep hk) (by simp; omega)
  have F3 : ∀ W, Calls Tryz.prog 91 #[.agg #[.int .u64 x.d, .int .u64 x.i, .int .i64 x.s], .agg #[.int .u64 y.d, .int .u64 y.i, .int .i64 y.s]] W fun e w' => e = .returned (.bool (ordQ x y)) ∧ Kept W w' := fun W => orderQ x y W
  have NB := Lib.hid (show ∀ b, v.ownBlock = some b → b < w.heap.size from fun b h => (hH.own.lt b h).2)
  have F1 := Lib.hid F1; have F2 := Lib.hid F2; have F3 := Lib.hid F3
  have HL := Lib.hid hl
  clear hH hm hl
  generalize ordQ x y = r at *
  cases r with
  | false =>
    go_enter Tryz.func95, Tryz.ntmps95
    go_wp2_with (first
      | (go_at_call 107; refine (F1.out _ (kept_alloc _ _)).mono ?_; rintro e w1 ⟨rfl, hk1⟩; obtain ⟨⟨d0, d1, d2⟩, ⟨g0, g1, g2⟩, l2⟩ := box3 hk1 rfl; have K1 := Lib.hid (Kept.trans (kept_alloc w _) hk1); have hs1 := hk1.size; clear hk1)
      | (go_at_call 108; refine (F2.out _ K1.out).mono ?_; rintro e w2 ⟨rfl, hk2⟩; have p0 := kcell hk2 d0; have p1 := kcell hk2 d1; have p2 := kcell hk2 d2; have l3 := lt_of_cell p0; have K2 := Lib.hid (Kept.trans K1.out hk2); have hs2 := hk2.size; clear hk2 d0 d1 d2 g0 g1 g2)
      | (go_at_call 91; refine (F3.out _).mono ?_; rintro e w3 ⟨rfl, hk3⟩; have K3 := Lib.hid (Kept.trans K2.out (Kept.trans (kept_alloc w2 (.cells #[.int .u64 y.d, .int .u64 y.i, .int .i64 y.s] 60)) hk3)); clear hk3))
    go_ret
    have := HL.out
    exact ⟨false, v, y :: xs, rfl, HH.out.keep K3.out, kcell K3.out M.out, Far.of_kept _ K3.out, fun b h => .inl h, fun h => by simp at h; omega, ⟨[x], .refl _⟩, by simp; omega⟩
  | true =>
    go_enter Tryz.func95, Tryz.ntmps95
    go_wp2_with (first
      | (go_at_call 107; refine (F1.out _ (kept_alloc _ _)).mono ?_; rintro e w1 ⟨rfl, hk1⟩; obtain ⟨⟨d0, d1, d2⟩, ⟨g0, g1, g2⟩, l2⟩ := box3 hk1 rfl; have K1 := Lib.hid (Kept.trans (kept_alloc w _) hk1); have hs1 := hk1.size; clear hk1)
      | (go_at_call 108; refine (F2.out _ K1.out).mono ?_; rintro e w2 ⟨rfl, hk2⟩; have p0 := kcell hk2 d0; have p1 := kcell hk2 d1; have p2 := kcell hk2 d2; have l3 := lt_of_cell p0; have K2 := Lib.hid (Kept.trans K1.out hk2); have hs2 := hk2.size; clear hk2 d0 d1 d2 g0 g1 g2)
      | (go_at_call 91; refine (F3.out _).mono ?_; rintro e w3 ⟨rfl, hk3⟩; have q0 := kcell hk3 (cell_old p0); have q1 := kcell hk3 (cell_old p1); have q2 := kcell hk3 (cell_old p2); have l4 := lt_of_cell q0; have K3 := Lib.hid (Kept.trans K2.out (Kept.trans (kept_alloc w2 (.cells #[.int .u64 y.d, .int .u64 y.i, .int .i64 y.s] 60)) hk3)); have hs3 := K3.out.size; have PP := Lib.hid (pop_any hb _ ordB v y xs w3 (HH.out.keep K3.out) (by have := HL.out; omega) orderB entersB); clear hk3)
      | (go_at_call 109; refine PP.out.mono ?_; rintro e w4 ⟨rfl, v4, zs, hp4, hh4, hf4, hv4, hc4⟩
         have A1 : ¬ (w.heap.size = hb ∨ v.ownBlock = some w.heap.size) := fun h => h.elim (fun e => by omega) (fun e => by have := NB.out _ e; omega)
         have r0 := hf4.cell q0 A1; have r1 := hf4.cell q1 A1; have r2 := hf4.cell q2 A1
         have l5 := lt_of_cell r0
         have l6 := lt_of_cell hh4.c0
         have HP4 := Lib.hid hp4; have HH4 := Lib.hid hh4; have HF4 := Lib.hid hf4; have HV4 := Lib.hid hv4; have HC4 := Lib.hid (hc4 2 _ (by omega) (kcell K3.out M.out)); have hs4 := hf4.size
         clear hp4 hh4 hf4 hv4 hc4 A1 q0 q1 q2))
    refine wp_region_kept_tail 4 (by kernel_rfl) (by kernel_rfl) ?_
    simp only [List.take_succ_cons, List.take_zero, List.drop_succ_cons, List.drop_zero]
    repeat (go_big_quiet_step (fail))
    refine wpQuiet_nil ?_
    intro w5 hw5
    have HK : Hid (Kept w4 w5) := by obtain ⟨p, rfl⟩ := hw5; exact gr_kept _ _ _
    have HP := Lib.hid (push_any hb _ ordB v4 x zs w5 (HH4.out.keep HK.out) (by have := HL.out; have := HP4.out.length_eq; omega) orderB entersB)
    clear hw5 r0 r1 r2
    go_wp2_with (first | (go_at_call 106; refine HP.out.mono ?_; rintro e w6 ⟨rfl, v', ys, hp, hh, hf, hv, hc⟩))
    go_ret
    have hlen : ys.length = xs.length + 1 := by rw [hp.length_eq, List.length_append, HP4.out.length_eq]; simp
    have h1 := HL.out
    refine ⟨true, v', ys, rfl, hh, hc 2 _ (by omega) (kcell HK.out HC4.out), ((Far.of_kept _ K3.out).trans HF4.out).trans ((Far.of_kept _ HK.out).trans (hf.mono fun k _ h => h.imp id (fun h => by rw [← HV4.out]; exact h))), fun b hb' => ?_, fun h => by simp at h; omega, ⟨[y], ?_⟩, by omega⟩
    · rcases hv b hb' with h | h
      · exact .inl (by rw [← HV4.out]; exact h)
      · exact .inr (by have := HK.out.size; omega)
    · refine (List.perm_append_singleton y ys).trans ?_
      exact List.Perm.cons y (hp.trans (HP4.out.append_right [x]))

theorem Offer_any (hb : Nat) (v : Value) (x : Sp) (xs : List Sp) (m : Int) (w : World) (hH : HeapIs w hb 92 v xs) (hm : w.cell? ⟨hb, 2, none⟩ = some (.int .i64 m)) (hl : (xs.length : Int) ≤ m) (h4 : m ≤ 4096) :
    Calls Tryz.prog 95 #[.pointer (some ⟨hb, 0, none⟩), x.val] w fun e w' => ∃ r v' ys, e = .returned (.bool r) ∧ OfferPost hb v x xs m w w' v' ys := by
  by_cases h1 : (xs.length : Int) < m
  · exact Offer_room hb v x xs m w hH hm h1 h4
  · have h2 : (xs.length : Int) = m := by omega
    cases xs with
    | nil =>
      have h0 : m = 0 := by simpa using h2.symm
      subst h0
      exact Offer_zero hb v x [] w hH hm hl
    | cons y ys => exact Offer_full hb v x y ys m w hH hm (by simpa using h2) h4
end Go.Proofs.YtajbimmfkbgcpaaGreat
