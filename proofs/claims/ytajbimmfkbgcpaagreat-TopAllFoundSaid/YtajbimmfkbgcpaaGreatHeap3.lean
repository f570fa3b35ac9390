/-
  heap.down.
-/
import Derived.Test.YtajbimmfkbgcpaaGreatKHeap
namespace Go.Proofs.YtajbimmfkbgcpaaGreat
open Go.RowKit

def DownRel (hb : Nat) (fn : FuncId) (v : Value) (xs : List Sp) (w : World) (i : Value) (wr : World) : Prop :=
  ∃ (k : Nat) (ys : List Sp), i = .int .i64 (k : Int) ∧ k ≤ xs.length ∧ ys.Perm xs ∧ HeapIs wr hb fn v ys ∧ Far (fun b => v.ownBlock = some b) w wr
theorem kept_heap {w w1 : World} {hb : Nat} {fn : FuncId} {v : Value} {ys : List Sp} (h : HeapIs w hb fn v ys) (hk : Kept w w1) : HeapIs w1 hb fn v ys := h.keep hk

set_option maxRecDepth 100000 in
set_option maxHeartbeats 4000000 in
theorem down_any (hb : Nat) (fn : FuncId) (lt : Sp → Sp → Bool) (v : Value) (xs : List Sp) (w : World) (hH : HeapIs w hb fn v xs) (hl : xs.length ≤ 1000000) (hO : OrderFn fn lt)
    (eg : ∀ args W, (callFunc fn args).run Tryz.prog W = .ok (.enter fn args) W) :
    Calls Tryz.prog 114 #[.pointer (some ⟨hb, 0, none⟩)] w fun e w' => e = .returned (.tuple #[]) ∧ ∃ ys : List Sp, ys.Perm xs ∧ HeapIs w' hb fn v ys ∧ Far (fun b => v.ownBlock = some b) w w' := by
  have HH := Lib.hid hH; have HO := Lib.hid hO; clear hH hO
  go_enter Tryz.func114, Tryz.ntmps114
  go_wp2_with fail
  go_loopw [2] (DownRel hb fn v xs w) (fun i _ => xs.length - (intOf i).toNat)
  case atStart => exact ⟨0, xs, rfl, Nat.zero_le _, List.Perm.refl _, HH.out, Far.refl _ _⟩
  case round =>
    obtain ⟨i, ys, rfl, hi, hperm, hH, hfar⟩ := hrel
    have hyl := hperm.length_eq
    have HP := Lib.hid hperm; have HF := Lib.hid hfar; have Hyl := Lib.hid hyl; have HHr := Lib.hid hH
    have hlen : ys.length ≤ 1000000 := by omega
    have hi' : i ≤ ys.length := by omega
    have hxy : xs.length ≤ ys.length := by omega
    have hyx : ys.length ≤ xs.length := by omega
    clear HH hperm hfar hyl
    by_cases h1 : 2 * i + 1 < ys.length
    · have hil : i < ys.length := by omega
      obtain ⟨g, c, rfl⟩ : ∃ g c, v = .slice (some ⟨g, 0, none⟩) ys.length c := by
        rcases hH.own.2 with ⟨_, h0⟩ | ⟨g, cap', cur, hv, _⟩
        · omega
        · exact ⟨g, cap', hv⟩
      clear hH
      by_cases h2 : 2 * i + 1 + 1 < ys.length
      · obtain ⟨c0, f0, c1, hown, -⟩ := HHr.out
        obtain ⟨x0, x1, x2⟩ := own_sp_cell hown h2
        obtain ⟨y0, y1, y2⟩ := own_sp_cell hown h1
        have l1 := lt_of_cell c0
        have l2 := lt_of_cell x0
        clear hown
        have hc1 : ∀ W, Calls Tryz.prog fn #[(ys[2 * i + 1 + 1]'h2).val, (ys[2 * i + 1]'h1).val] W fun e w' => e = .returned (.bool (lt (ys[2 * i + 1 + 1]'h2) (ys[2 * i + 1]'h1))) ∧ Kept W w' := fun W => HO.out _ _ W
        have H1 := Lib.hid h1; have H2 := Lib.hid h2
        generalize (ys[2 * i + 1 + 1]'h2) = A at *
        generalize (ys[2 * i + 1]'h1) = B at *
        have HC1 := Lib.hid hc1
        clear hc1
        have d1 : decide (2 * (i : Int) + 1 + 1 < (ys.length : Int)) = true := by simp; omega
        go_wp2_with fail
        refine wp_region_kept (by kernel_rfl) (by kernel_rfl) ?_
        repeat (go_big_quiet_step (first | (go_at_fn fn; exact Calls.kept_of (HC1.out _))))
        refine wpQuiet_nil ?_
        intro w1 hw
        have hk' : Kept wr w1 := by obtain ⟨p, rfl⟩ := hw; exact gr_kept _ _ _
        clear hw
        have HH1 := Lib.hid (HHr.out.keep hk')
        have HF1 := Lib.hid (HF.out.trans (Far.of_kept _ hk'))
        clear hk' c0 f0 c1 x0 x1 x2 y0 y1 y2 l1 l2 d1
        cases hlt1 : lt A B with
        | true =>
          obtain ⟨c0, f0, c1, hown, -⟩ := HH1.out
          obtain ⟨x0, x1, x2⟩ := own_sp_cell hown H2.out
          obtain ⟨y0, y1, y2⟩ := own_sp_cell hown hil
          have l1 := lt_of_cell c0
          have l2 := lt_of_cell x0
          clear hown
          have h2 := H2.out
          have hc2 : ∀ W, Calls Tryz.prog fn #[(ys[2 * i + 1 + 1]'h2).val, (ys[i]'hil).val] W fun e w' => e = .returned (.bool (lt (ys[2 * i + 1 + 1]'h2) (ys[i]'hil))) ∧ Kept W w' := fun W => HO.out _ _ W
          generalize hX : (ys[2 * i + 1 + 1]'h2) = X at *
          generalize hY : (ys[i]'hil) = Y at *
          have HX := Lib.hid hX; have HY := Lib.hid hY; have HC2 := Lib.hid hc2; have HBD := Lib.hid h2
          clear hX hY hc2
          go_wp2_with fail
          refine wp_region_kept (by kernel_rfl) (by kernel_rfl) ?_
          repeat (go_big_quiet_step (first | (go_at_fn fn; exact Calls.kept_of (HC2.out _))))
          refine wpQuiet_nil ?_
          intro w2 hw
          have hk' : Kept w1 w2 := by obtain ⟨p, rfl⟩ := hw; exact gr_kept _ _ _
          clear hw
          have HH2 := Lib.hid (HH1.out.keep hk')
          have HF2 := Lib.hid (HF1.out.trans (Far.of_kept _ hk'))
          clear hk' c0 f0 c1 x0 x1 x2 y0 y1 y2 l1 l2
          cases hlt : lt X Y with
          | false =>
            obtain ⟨c0, f0, c1, hown, -⟩ := HH2.out
            clear hown
            go_wp2
            exact bodyPost_ret (results_none rfl _ _ _) rfl ⟨rfl, ys, HP.out, HH2.out, HF2.out⟩
          | true =>
            obtain ⟨c0, f0, c1, hown, -⟩ := HH2.out
            obtain ⟨x0, x1, x2⟩ := own_sp_cell hown h2
            obtain ⟨y0, y1, y2⟩ := own_sp_cell hown hil
            rw [HX.out] at x0 x1 x2
            rw [HY.out] at y0 y1 y2
            have hfz := fun j => hown.frozenAt j
            have z0 := hfz ((2 * i + 1 + 1) * 3); have z1 := hfz ((2 * i + 1 + 1) * 3 + 1); have z2 := hfz ((2 * i + 1 + 1) * 3 + 2)
            have u0 := hfz (i * 3); have u1 := hfz (i * 3 + 1); have u2 := hfz (i * 3 + 2)
            clear hown hfz f0
            go_wp2_with fail
            go_region
            go_wp2_with fail
            obtain ⟨r1, r2, r3⟩ := heap_swap HH2.out hil HBD.out HY.out HX.out HP.out HF2.out
            exact ⟨⟨2 * i + 1 + 1, _, by go_num, by omega, r1, r2, r3⟩, by simp [intOf]; omega⟩
        | false =>
          obtain ⟨c0, f0, c1, hown, -⟩ := HH1.out
          obtain ⟨x0, x1, x2⟩ := own_sp_cell hown H1.out
          obtain ⟨y0, y1, y2⟩ := own_sp_cell hown hil
          have l1 := lt_of_cell c0
          have l2 := lt_of_cell x0
          clear hown
          have h1 := H1.out
          have hc2 : ∀ W, Calls Tryz.prog fn #[(ys[2 * i + 1]'h1).val, (ys[i]'hil).val] W fun e w' => e = .returned (.bool (lt (ys[2 * i + 1]'h1) (ys[i]'hil))) ∧ Kept W w' := fun W => HO.out _ _ W
          generalize hX : (ys[2 * i + 1]'h1) = X at *
          generalize hY : (ys[i]'hil) = Y at *
          have HX := Lib.hid hX; have HY := Lib.hid hY; have HC2 := Lib.hid hc2; have HBD := Lib.hid h1
          clear hX hY hc2
          go_wp2_with fail
          refine wp_region_kept (by kernel_rfl) (by kernel_rfl) ?_
          repeat (go_big_quiet_step (first | (go_at_fn fn; exact Calls.kept_of (HC2.out _))))
          refine wpQuiet_nil ?_
          intro w2 hw
          have hk' : Kept w1 w2 := by obtain ⟨p, rfl⟩ := hw; exact gr_kept _ _ _
          clear hw
          have HH2 := Lib.hid (HH1.out.keep hk')
          have HF2 := Lib.hid (HF1.out.trans (Far.of_kept _ hk'))
          clear hk' c0 f0 c1 x0 x1 x2 y0 y1 y2 l1 l2
          cases hlt : lt X Y with
          | false =>
            obtain ⟨c0, f0, c1, hown, -⟩ := HH2.out
            clear hown
            go_wp2
            exact bodyPost_ret (results_none rfl _ _ _) rfl ⟨rfl, ys, HP.out, HH2.out, HF2.out⟩
          | true =>
            obtain ⟨c0, f0, c1, hown, -⟩ := HH2.out
            obtain ⟨x0, x1, x2⟩ := own_sp_cell hown h1
            obtain ⟨y0, y1, y2⟩ := own_sp_cell hown hil
            rw [HX.out] at x0 x1 x2
            rw [HY.out] at y0 y1 y2
            have hfz := fun j => hown.frozenAt j
            have z0 := hfz ((2 * i + 1) * 3); have z1 := hfz ((2 * i + 1) * 3 + 1); have z2 := hfz ((2 * i + 1) * 3 + 2)
            have u0 := hfz (i * 3); have u1 := hfz (i * 3 + 1); have u2 := hfz (i * 3 + 2)
            clear hown hfz f0
            go_wp2_with fail
            go_region
            go_wp2_with fail
            obtain ⟨r1, r2, r3⟩ := heap_swap HH2.out hil HBD.out HY.out HX.out HP.out HF2.out
            exact ⟨⟨2 * i + 1, _, by go_num, by omega, r1, r2, r3⟩, by simp [intOf]; omega⟩
      · have d1 : decide (2 * (i : Int) + 1 + 1 < (ys.length : Int)) = false := by simp; omega
        obtain ⟨c0, f0, c1, hown, -⟩ := HHr.out
        have l1 := lt_of_cell c0
        obtain ⟨x0, x1, x2⟩ := own_sp_cell hown h1
        obtain ⟨y0, y1, y2⟩ := own_sp_cell hown hil
        have l2 := lt_of_cell x0
        clear hown
        go_wp2_with fail
        refine wp_region_kept (by kernel_rfl) (by kernel_rfl) ?_
        repeat (go_big_quiet_step (fail))
        refine wpQuiet_nil ?_
        intro w1 hw
        have hk' : Kept wr w1 := by obtain ⟨p, rfl⟩ := hw; exact gr_kept _ _ _
        clear hw
        have HH1 := Lib.hid (HHr.out.keep hk')
        have HF1 := Lib.hid (HF.out.trans (Far.of_kept _ hk'))
        clear hk' c0 f0 c1 x0 x1 x2 y0 y1 y2 l1 l2 d1
        obtain ⟨c0, f0, c1, hown, -⟩ := HH1.out
        obtain ⟨x0, x1, x2⟩ := own_sp_cell hown h1
        obtain ⟨y0, y1, y2⟩ := own_sp_cell hown hil
        have l1 := lt_of_cell c0
        have l2 := lt_of_cell x0
        clear hown
        have hc2 : ∀ W, Calls Tryz.prog fn #[(ys[2 * i + 1]'h1).val, (ys[i]'hil).val] W fun e w' => e = .returned (.bool (lt (ys[2 * i + 1]'h1) (ys[i]'hil))) ∧ Kept W w' := fun W => HO.out _ _ W
        generalize hX : (ys[2 * i + 1]'h1) = X at *
        generalize hY : (ys[i]'hil) = Y at *
        have HX := Lib.hid hX; have HY := Lib.hid hY; have HC2 := Lib.hid hc2; have HBD := Lib.hid h1
        clear hX hY hc2
        go_wp2_with fail
        refine wp_region_kept (by kernel_rfl) (by kernel_rfl) ?_
        repeat (go_big_quiet_step (first | (go_at_fn fn; exact Calls.kept_of (HC2.out _))))
        refine wpQuiet_nil ?_
        intro w2 hw
        have hk' : Kept w1 w2 := by obtain ⟨p, rfl⟩ := hw; exact gr_kept _ _ _
        clear hw
        have HH2 := Lib.hid (HH1.out.keep hk')
        have HF2 := Lib.hid (HF1.out.trans (Far.of_kept _ hk'))
        clear hk' c0 f0 c1 x0 x1 x2 y0 y1 y2 l1 l2
        cases hlt : lt X Y with
        | false =>
          obtain ⟨c0, f0, c1, hown, -⟩ := HH2.out
          clear hown
          go_wp2
          exact bodyPost_ret (results_none rfl _ _ _) rfl ⟨rfl, ys, HP.out, HH2.out, HF2.out⟩
        | true =>
          obtain ⟨c0, f0, c1, hown, -⟩ := HH2.out
          obtain ⟨x0, x1, x2⟩ := own_sp_cell hown h1
          obtain ⟨y0, y1, y2⟩ := own_sp_cell hown hil
          rw [HX.out] at x0 x1 x2
          rw [HY.out] at y0 y1 y2
          have hfz := fun j => hown.frozenAt j
          have z0 := hfz ((2 * i + 1) * 3); have z1 := hfz ((2 * i + 1) * 3 + 1); have z2 := hfz ((2 * i + 1) * 3 + 2)
          have u0 := hfz (i * 3); have u1 := hfz (i * 3 + 1); have u2 := hfz (i * 3 + 2)
          clear hown hfz f0
          go_wp2_with fail
          go_region
          go_wp2_with fail
          obtain ⟨r1, r2, r3⟩ := heap_swap HH2.out hil HBD.out HY.out HX.out HP.out HF2.out
          exact ⟨⟨2 * i + 1, _, by go_num, by omega, r1, r2, r3⟩, by simp [intOf]; omega⟩
    · obtain ⟨c0, f0, c1, hown, -⟩ := HHr.out
      have hv := own_refl_slice hown
      obtain ⟨a, c, rfl⟩ := hv
      clear hown hH
      go_wp2
      exact bodyPost_ret (results_none rfl _ _ _) rfl ⟨rfl, ys, HP.out, HHr.out, HF.out⟩
end Go.Proofs.YtajbimmfkbgcpaaGreat
