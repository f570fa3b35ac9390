/-
  bitset at sets of one word: cut, short, both, Union, Less, Count; sketch.Apart of {0} and {1}.
  bitset at sets of one word: both, Union, Less, Count; sketch.Apart of {0} and {1}.
-/
import Derived.Test.YtajbimmfkbgcpaaGreatKRing
/- bitset at sets of one word: cut, short, both, Union, Less, Count; sketch.Apart of {0} and {1}. -/
namespace Go.Proofs.YtajbimmfkbgcpaaGreat
open Go.RowKit

set_option maxRecDepth 100000 in
theorem cut_one (b c : Nat) (w : World) (hc : 1 ≤ c) : Calls Tryz.prog 44 #[.slice (some ⟨b, 0, none⟩) 1 c] w fun e w' => e = .returned (.slice (some ⟨b, 0, none⟩) 1 c) ∧ w = w' := by
  go_enter Tryz.func44, Tryz.ntmps44
  go_wp2
  go_ret
  exact ⟨rfl, rfl⟩
set_option maxRecDepth 100000 in
theorem at_one (b c : Nat) (x : Int) (w : World) (hx : w.cell? ⟨b, 0, none⟩ = some (.int .u64 x)) : Calls Tryz.prog 62 #[.slice (some ⟨b, 0, none⟩) 1 c, .int .i64 0] w fun e w' => e = .returned (.int .u64 x) ∧ w = w' := by
  go_enter Tryz.func62, Tryz.ntmps62
  go_wp2
  go_ret
  exact ⟨rfl, rfl⟩
set_option maxRecDepth 100000 in
theorem short_one (b c : Nat) (x : Int) (w : World) (hc : 1 ≤ c) (hx : w.cell? ⟨b, 0, none⟩ = some (.int .u64 x)) (h0 : (x == 0) = false) : Calls Tryz.prog 63 #[.slice (some ⟨b, 0, none⟩) 1 c] w fun e w' => e = .returned (.slice (some ⟨b, 0, none⟩) 1 c) ∧ w = w' := by
  go_enter Tryz.func63, Tryz.ntmps63
  go_wp2
  go_loop [3] (fun n => n = .int .i64 1) (fun _ => 0)
  case atStart => rfl
  case round =>
    obtain rfl := hrel
    go_wp2
    go_ret
    exact ⟨rfl, rfl⟩
set_option maxRecDepth 100000 in
theorem ones_3 (w : World) : Calls Tryz.prog 45 #[.int .u64 3] w fun e w' => e = .returned (.int .i64 2) ∧ w = w' := by
  go_enter Tryz.func45, Tryz.ntmps45
  go_wp2
  go_ret
  exact ⟨by first | rfl | kernel_rfl, rfl⟩
end Go.Proofs.YtajbimmfkbgcpaaGreat

/- bitset at sets of one word: both, Union, Less, Count; sketch.Apart of {0} and {1}. -/
namespace Go.Proofs.YtajbimmfkbgcpaaGreat
open Go.RowKit

def OneU (z : Int) (w : World) (e : Ending) (w' : World) : Prop :=
  ∃ b c, e = .returned (.slice (some ⟨b, 0, none⟩) 1 c) ∧ 1 ≤ c ∧ w'.cell? ⟨b, 0, none⟩ = some (.int .u64 z) ∧ Kept w w'
def OneRel (z : Int) (w : World) (i : Value) (wr : World) : Prop :=
  ∃ k : Nat, k ≤ 1 ∧ i = .int .i64 (k : Int) ∧ Hid (Kept w wr ∧ w.heap.size < wr.heap.size ∧ wr.frozen? ⟨w.heap.size, 0, none⟩ = false ∧ wr.cell? ⟨w.heap.size, 0, none⟩ = some (.int .u64 (if k = 1 then z else 0)))
theorem below_setCell {w w' : World} {b o : Nat} {v : Value} (h : Kept w w') (hb : w.heap.size ≤ b) : Kept w (w'.setCell ⟨b, o, none⟩ v) := Below.setCell h hb v
set_option maxRecDepth 100000 in
theorem both_one (g : FuncId) (b1 c1 b2 c2 : Nat) (x y z : Int) (w : World) (h1 : 1 ≤ c1) (h2 : 1 ≤ c2) (hx : w.cell? ⟨b1, 0, none⟩ = some (.int .u64 x)) (hy : w.cell? ⟨b2, 0, none⟩ = some (.int .u64 y)) (hz : (z == 0) = false)
    (eg : ∀ args W, (callFunc g args).run Tryz.prog W = .ok (.enter g args) W) (hg : ∀ W, Calls Tryz.prog g #[.int .u64 x, .int .u64 y] W fun e w' => e = .returned (.int .u64 z) ∧ W = w') :
    Calls Tryz.prog 46 #[.slice (some ⟨b1, 0, none⟩) 1 c1, .slice (some ⟨b2, 0, none⟩) 1 c2, .func (.func g) #[] #[]] w (OneU z w) := by
  have hmk : ∀ w, (Instr.makeSlice 44 (.int .i64 1) (.int .i64 1)).run Tryz.prog w = .ok (.slice (some ⟨w.heap.size, 0, none⟩) 1 1) (w.alloc (.cells #[.int .u64 0] 26)) := fun _ => by kernel_rfl
  have hb1 := lt_of_cell hx
  have hb2 := lt_of_cell hy
  have HX := Lib.hid hx; have HY := Lib.hid hy; have HG := Lib.hid hg; have HZ := Lib.hid hz
  clear hx hy hg hz
  have ea : ∀ args W, (callFunc 62 args).run Tryz.prog W = .ok (.enter 62 args) W := fun args W => enters_of Tryz.func62 (by kernel_rfl) rfl args W
  go_enter Tryz.func46, Tryz.ntmps46
  go_wp2_with (first
    | (go_at_call 44; refine (cut_one _ _ _ (by assumption)).mono ?_; rintro e w' ⟨rfl, rfl⟩))
  clear hmk
  have hat : OneRel z w (.int .i64 0) (w.alloc (.cells #[.int .u64 0] 26)) := ⟨0, by omega, rfl, kept_alloc _ _, by simp, by simp, by simp⟩
  have HAT := Lib.hid hat
  clear hat
  go_loopw [9, 22] (fun _ i wr => OneRel z w i wr) (fun _ i _ => 1 - (intOf i).toNat)
  case atStart => exact HAT.out
  case round =>
    obtain ⟨k, hk, rfl, H⟩ := hrel
    clear HAT
    have Hk := Lib.hid H.out.1
    have hs := H.out.2.1
    have hf := H.out.2.2.1
    have hc := H.out.2.2.2
    clear H
    by_cases hlt : k < 1
    · obtain rfl : k = 0 := by omega
      have kx := Lib.hid ((Far.of_kept (fun _ => False) Hk.out).cell HX.out id)
      have ky := Lib.hid ((Far.of_kept (fun _ => False) Hk.out).cell HY.out id)
      go_wp2_with (first
        | (go_at_fn 62; (first | (with_reducible refine (at_one b1 c1 x _ (by exact kx.out)).mono ?_) | (with_reducible refine (at_one b2 c2 y _ (by exact ky.out)).mono ?_)); rintro e w' ⟨rfl, rfl⟩)
        | (go_at_fn g; refine (HG.out _).mono ?_; rintro e w' ⟨rfl, rfl⟩))
      go_roundw
      case rel => exact ⟨1, by omega, by go_num, below_setCell Hk.out (Nat.le_refl _), by simpa using hs, by simpa using hf, by rw [World.cell?_setCell_same _ _ _ hc]; rfl⟩
      case measure => simp [intOf]
    · obtain rfl : k = 1 := by omega
      go_wp2_with (first
        | (go_at_call 63; refine (short_one _ _ z _ (by omega) (by simpa using hc) HZ.out).mono ?_; rintro e w' ⟨rfl, rfl⟩))
      go_ret
      exact ⟨_, _, rfl, by omega, by simpa using hc, Hk.out⟩

theorem enters_un (args : Array Value) (W : World) : (callFunc 47 args).run Tryz.prog W = .ok (.enter 47 args) W := enters_of Tryz.func47 (by kernel_rfl) rfl args W
theorem enters_le (args : Array Value) (W : World) : (callFunc 48 args).run Tryz.prog W = .ok (.enter 48 args) W := enters_of Tryz.func48 (by kernel_rfl) rfl args W
theorem un_any (x y : Int) (W : World) : Calls Tryz.prog 47 #[.int .u64 x, .int .u64 y] W fun e w' => e = .returned (.int .u64 (bits .or .u64 x y)) ∧ W = w' := by
  go_enter Tryz.func47, Tryz.ntmps47
  go_wp2
  go_ret
  exact ⟨rfl, rfl⟩
theorem le_any (x y : Int) (W : World) : Calls Tryz.prog 48 #[.int .u64 x, .int .u64 y] W fun e w' => e = .returned (.int .u64 (bits .andNot .u64 x y)) ∧ W = w' := by
  go_enter Tryz.func48, Tryz.ntmps48
  go_wp2
  go_ret
  exact ⟨rfl, rfl⟩
theorem Union_one (b1 c1 b2 c2 : Nat) (x y z : Int) (w : World) (h1 : 1 ≤ c1) (h2 : 1 ≤ c2) (hx : w.cell? ⟨b1, 0, none⟩ = some (.int .u64 x)) (hy : w.cell? ⟨b2, 0, none⟩ = some (.int .u64 y)) (hz : (z == 0) = false) (e : bits .or .u64 x y = z) :
    Calls Tryz.prog 29 #[.slice (some ⟨b1, 0, none⟩) 1 c1, .slice (some ⟨b2, 0, none⟩) 1 c2] w (OneU z w) := by
  have B := Lib.hid (both_one 47 b1 c1 b2 c2 x y z w h1 h2 hx hy hz enters_un (fun W => e ▸ un_any x y W))
  clear hx hy hz e
  go_enter Tryz.func29, Tryz.ntmps29
  go_wp2_with (first | (go_at_call 46; refine B.out.mono ?_; rintro e w1 ⟨b, c, rfl, h⟩; have H := Lib.hid h; clear h))
  go_ret
  exact ⟨_, _, rfl, H.out⟩
theorem Less_one (b1 c1 b2 c2 : Nat) (x y z : Int) (w : World) (h1 : 1 ≤ c1) (h2 : 1 ≤ c2) (hx : w.cell? ⟨b1, 0, none⟩ = some (.int .u64 x)) (hy : w.cell? ⟨b2, 0, none⟩ = some (.int .u64 y)) (hz : (z == 0) = false) (e : bits .andNot .u64 x y = z) :
    Calls Tryz.prog 30 #[.slice (some ⟨b1, 0, none⟩) 1 c1, .slice (some ⟨b2, 0, none⟩) 1 c2] w (OneU z w) := by
  have B := Lib.hid (both_one 48 b1 c1 b2 c2 x y z w h1 h2 hx hy hz enters_le (fun W => e ▸ le_any x y W))
  clear hx hy hz e
  go_enter Tryz.func30, Tryz.ntmps30
  go_wp2_with (first | (go_at_call 46; refine B.out.mono ?_; rintro e w1 ⟨b, c, rfl, h⟩; have H := Lib.hid h; clear h))
  go_ret
  exact ⟨_, _, rfl, H.out⟩
set_option maxRecDepth 100000 in
theorem Count_3 (b c : Nat) (w : World) (h1 : 1 ≤ c) (hx : w.cell? ⟨b, 0, none⟩ = some (.int .u64 3)) :
    Calls Tryz.prog 28 #[.slice (some ⟨b, 0, none⟩) 1 c] w fun e w' => e = .returned (.int .i64 2) ∧ w = w' := by
  go_enter Tryz.func28, Tryz.ntmps28
  go_wp2_with (first | (go_at_call 44; refine (cut_one _ _ _ (by assumption)).mono ?_; rintro e w' ⟨rfl, rfl⟩))
  go_loop [3, 5, 9] (fun n _ i => ∃ k : Nat, k ≤ 1 ∧ i = .int .i64 (k : Int) ∧ n = .int .i64 (2 * (k : Int))) (fun _ _ i => 1 - (intOf i).toNat)
  case atStart => exact ⟨0, by omega, rfl, rfl⟩
  case round =>
    obtain ⟨k, hk, rfl, rfl⟩ := hrel
    by_cases hlt : k < 1
    · obtain rfl : k = 0 := by omega
      go_wp2_with (first | (go_at_call 45; refine (ones_3 _).mono ?_; rintro e w' ⟨rfl, rfl⟩))
      go_round
      case rel => exact ⟨1, by omega, by go_num, by go_num⟩
      case measure => simp [intOf]
    · obtain rfl : k = 1 := by omega
      go_wp2
      go_ret
      exact ⟨rfl, rfl⟩
set_option maxRecDepth 100000 in
theorem Apart_12 (b1 c1 b2 c2 : Nat) (w : World) (h1 : 1 ≤ c1) (h2 : 1 ≤ c2) (hx : w.cell? ⟨b1, 0, none⟩ = some (.int .u64 1)) (hy : w.cell? ⟨b2, 0, none⟩ = some (.int .u64 2)) :
    Calls Tryz.prog 13 #[.slice (some ⟨b1, 0, none⟩) 1 c1, .slice (some ⟨b2, 0, none⟩) 1 c2] w fun e w' => e = .returned (.int .i64 2) ∧ Kept w w' := by
  have HX := Lib.hid hx; have HY := Lib.hid hy
  clear hx hy
  go_enter Tryz.func13, Tryz.ntmps13
  go_wp2_with fail
  refine (Less_one b1 c1 b2 c2 1 2 1 _ h1 h2 HX.out HY.out rfl rfl).mono ?_
  rintro e w1 ⟨b3, c3, rfl, h3, hc3, hk1⟩
  have HC3 := Lib.hid hc3; have HK1 := Lib.hid hk1
  clear hc3 hk1
  go_wp2_with fail
  refine (Less_one b2 c2 b1 c1 2 1 2 _ h2 h1 ((Far.of_kept (fun _ => False) HK1.out).cell HY.out id) ((Far.of_kept (fun _ => False) HK1.out).cell HX.out id) rfl rfl).mono ?_
  rintro e w2 ⟨b4, c4, rfl, h4, hc4, hk2⟩
  have HC4 := Lib.hid hc4; have HK2 := Lib.hid hk2
  clear hc4 hk2
  go_wp2_with fail
  refine (Union_one b3 c3 b4 c4 1 2 3 _ h3 h4 ((Far.of_kept (fun _ => False) HK2.out).cell HC3.out id) HC4.out rfl rfl).mono ?_
  rintro e w3 ⟨b5, c5, rfl, h5, hc5, hk3⟩
  have HC5 := Lib.hid hc5; have HK3 := Lib.hid hk3
  clear hc5 hk3
  go_wp2_with fail
  refine (Count_3 b5 c5 _ h5 HC5.out).mono ?_
  rintro e w4 ⟨rfl, rfl⟩
  go_wp2
  go_ret
  exact ⟨rfl, Kept.trans HK1.out (Kept.trans HK2.out HK3.out)⟩
end Go.Proofs.YtajbimmfkbgcpaaGreat
