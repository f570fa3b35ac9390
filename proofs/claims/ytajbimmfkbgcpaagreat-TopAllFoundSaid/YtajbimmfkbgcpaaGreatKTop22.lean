/-
  begins22.
  TopAllFound: the walk.
  TopAllFound: the walk, whatever the input.
-/
import Derived.Test.YtajbimmfkbgcpaaGreatKLaw22
/- begins22. -/
namespace Go.Proofs.YtajbimmfkbgcpaaGreat
open Go.RowKit

set_option maxRecDepth 100000 in
set_option maxHeartbeats 400000 in
theorem begins22_any (w : World) : Calls Tryz.prog 4 #[] w fun e w' => e = .returned (.bool true) ∧ Kept w w' := by
  have o1 : (w.alloc (.cells #[.int .u64 0, .int .u64 1] 42)).ownsRow w.heap.size 42 2 (.slice (some ⟨w.heap.size, 0, none⟩) 1 1) 1 (flatH [⟨0, 1⟩]) := own_made1 (Nat.le_refl _) rfl
  have o2 : ((w.alloc (.cells #[.int .u64 0, .int .u64 1] 42)).alloc (.cells #[.int .u64 0, .int .u64 1] 42)).ownsRow (w.heap.size + 1) 42 2 (.slice (some ⟨w.heap.size + 1, 0, none⟩) 1 1) 1 (flatH [⟨0, 1⟩]) := by
    have h := own_made1 (w := w.alloc (.cells #[.int .u64 0, .int .u64 1] 42)) (base := w.heap.size + 1) (e := 42) (size := 2) (arr := #[.int .u64 0, .int .u64 1]) (by simp) rfl
    rw [alloc_size] at h
    exact h
  have e1 : ((hitsIn (([⟨0, 1⟩] : List Ht).take (1 : Int).toNat) (([⟨0, 1⟩] : List Ht).take (1 : Int).toNat)).length : Int) = 1 := by decide
  have e2 : ((([⟨0, 1⟩] : List Ht).take (1 : Int).toNat).length : Int) = 1 := by decide
  have c := RCount_any w.heap.size (w.heap.size + 1) _ _ [⟨0, 1⟩] [⟨0, 1⟩] 1 _ (by simp) (by simp) (o1.alloc (.cells #[.int .u64 0, .int .u64 1] 42)) o2
  rw [e1, e2] at c
  have C := Lib.hid c
  clear c e1 e2
  have K := Lib.hid (Kept.trans (kept_alloc w (.cells #[.int .u64 0, .int .u64 1] 42)) (kept_alloc _ (.cells #[.int .u64 0, .int .u64 1] 42)))
  clear o1 o2
  go_enter Tryz.func4, Tryz.ntmps4
  go_wp2_with fail
  refine C.out.mono ?_
  rintro e w1 ⟨rfl, hk1⟩
  have K1 := Lib.hid (Kept.trans K.out hk1)
  clear hk1 C
  have k2 := kept_alloc w1 (.cells #[.int .u64 1] 26)
  have x1 : ((w1.alloc (.cells #[.int .u64 1] 26)).alloc (.cells #[.int .u64 2] 26)).cell? ⟨w1.heap.size, 0, none⟩ = some (.int .u64 1) := cell_old (cell_new rfl rfl)
  have x2 : ((w1.alloc (.cells #[.int .u64 1] 26)).alloc (.cells #[.int .u64 2] 26)).cell? ⟨w1.heap.size + 1, 0, none⟩ = some (.int .u64 2) := cell_new (by simp) rfl
  have A := Lib.hid (Apart_12 w1.heap.size 1 (w1.heap.size + 1) 1 _ (by omega) (by omega) x1 x2)
  have K2 := Lib.hid (Kept.trans (kept_alloc w1 (.cells #[.int .u64 1] 26)) (kept_alloc _ (.cells #[.int .u64 2] 26)))
  clear x1 x2 k2
  go_wp2_with fail
  refine A.out.mono ?_
  rintro e w2 ⟨rfl, hk2⟩
  have K3 := Lib.hid (Kept.trans K1.out (Kept.trans K2.out hk2))
  clear hk2 A
  go_wp2
  go_ret
  exact ⟨rfl, K3.out⟩
end Go.Proofs.YtajbimmfkbgcpaaGreat

/- TopAllFound: the walk. -/
namespace Go.Proofs.YtajbimmfkbgcpaaGreat
open Go.RowKit

theorem mostI_le (links level : Int) : mostI links level ≤ 64 := by unfold mostI; split <;> omega
theorem good_lists {ns : List Nd} {en tp links : Int} (hG : PlaneGood ns en tp links) : ∀ k n, ns[k]? = some n → 0 < k → ∀ l ∈ n.lists, l.length ≤ 1099511627776 := by
  intro k n hn h0 l hl
  have hk := (List.getElem?_eq_some_iff.1 hn).1
  cases ht : there ns (k : Int) with
  | false =>
    have hb := hG.ring.bare k hk n hn h0 ht
    unfold bareB at hb
    simp only [Bool.and_eq_true, decide_eq_true_eq] at hb
    have : n.lists = [] := List.length_eq_zero_iff.1 hb.2
    rw [this] at hl
    simp at hl
  | true =>
    have hlive : k ∈ live ns := List.mem_filter.2 ⟨List.mem_range.2 hk, ht⟩
    have hng := hG.nodes k hlive n hn
    obtain ⟨i, hi⟩ := List.getElem?_of_mem hl
    have hil := (List.getElem?_eq_some_iff.1 hi).1
    have hlb := hng.list i hil
    unfold listB listOf at hlb
    rw [hn] at hlb
    simp only [Bool.and_eq_true] at hlb
    have hr := hlb.1
    unfold rightE at hr
    simp only [Bool.and_eq_true, decide_eq_true_eq] at hr
    have h2 := hr.2
    have e : n.lists.getD i [] = l := by rw [List.getD_eq_getElem?_getD, hi]; rfl
    rw [e] at h2
    have := mostI_le links (i : Int)
    omega
theorem items_at {w : World} {a : Option Addr} {ns : List Nd} (hN : NodesAt w a ns) : ∀ n ∈ itemsOf ns, IntsAt .i32 w n.va n.vec ∧ n.Fits := by
  intro n hn
  unfold itemsOf at hn
  obtain ⟨k, hk, rfl⟩ := List.mem_map.1 hn
  have hl := List.mem_range.1 (List.mem_filter.1 hk).1
  have hx := List.getElem?_eq_getElem hl
  obtain ⟨b, o, _, _, _, hv, _, hf⟩ := hN k _ hx
  rw [getElem!_def, hx]
  exact ⟨hv, hf⟩

def TruePost (w : World) (e : Ending) (w' : World) : Prop := e = .returned (.bool true) ∧ Kept w w'
set_option maxRecDepth 100000 in
set_option maxHeartbeats 1000000 in
theorem top22_main (a : Option Addr) (ns : List Nd) (cap : Nat) (en tp links : Int) (aq : Option Addr) (cq : Nat) (q : List Int) (mask k ef : Int) (w : World) (hN : NodesAt w a ns) (hq : IntsAt .i32 w aq q) (iq : I32s q) (hm : ns.length ≤ 20)
    (hql : q.length ≤ 50) (hk0 : 0 ≤ k) (hk1 : k ≤ 40) :
    Calls Tryz.prog 3 #[PlaneV a ns.length cap en tp, .int .i64 links, .slice aq q.length cq, .int .u64 mask, .int .i64 k, .int .i64 ef] w (TruePost w) := by
  have kb := Lib.hid (kept_alloc w (.cells #[.slice a ns.length cap, .int .i64 en, .int .i64 tp] 24))
  have PB0 := Lib.hid (PBox.new w a ns.length cap en tp 24)
  have HN := Lib.hid hN; have HQ := Lib.hid hq
  clear hN hq
  go_enter Tryz.func3, Tryz.ntmps3
  go_wp2_with fail
  refine (begins22_any _).mono ?_
  rintro e w1 ⟨rfl, hk⟩
  have K1 := Lib.hid (Kept.trans kb.out hk)
  obtain ⟨p0, p1, p2⟩ := PB0.out.keep hk
  have PB := Lib.hid (PB0.out.keep hk)
  clear hk kb PB0
  go_wp2_with fail
  refine (Check_any a ns cap en tp links w1 (by omega) (HN.out.keep K1.out)).mono ?_
  rintro e w2 ⟨hk, rfl | ⟨rfl, hG⟩⟩
  · have K2 := Lib.hid (Kept.trans K1.out hk)
    clear hk
    go_wp2
    go_ret
    exact ⟨rfl, K2.out⟩
  · have K2 := Lib.hid (Kept.trans K1.out hk)
    have PB2 := Lib.hid (PB.out.keep hk)
    have HG := Lib.hid hG
    clear hk hG PB p0 p1 p2 K1
    obtain ⟨p0, p1, p2⟩ := PB2.out
    go_wp2_with fail
    refine (All_any a ns cap en tp w2 (HN.out.keep K2.out) (by omega)).mono ?_
    rintro e w3 ⟨vi, rfl, ho, hk⟩
    have K3 := Lib.hid (Kept.trans K2.out hk)
    have OI := Lib.hid ho
    have PB3 := Lib.hid (PB2.out.keep hk)
    clear ho hk PB2 p0 p1 p2
    have il : (itemsOf ns).length ≤ 1000 := by rw [itemsOf_len]; have := live_len ns; omega
    go_wp2_with fail
    refine (XSearch_any _ vi (itemsOf ns) aq cq q mask k w3 il OI.out (items_at (HN.out.keep K3.out)) (HQ.out.keep K3.out) iq (by omega)).mono ?_
    rintro e w4 ⟨vt, rfl, ho, hk⟩
    have K4 := Lib.hid (Kept.trans K3.out hk)
    have OT := Lib.hid ho
    have OI4 := Lib.hid (own_kept OI.out hk)
    obtain ⟨p0, p1, p2⟩ := PB3.out.keep hk
    clear ho hk PB3 OI
    obtain ⟨hs, ehs⟩ : ∃ hs, hs = (sortSp (selOf q mask (itemsOf ns))).map Sp.ht := ⟨_, rfl⟩
    rw [← ehs] at OT
    have EH := Lib.hid ehs
    clear ehs
    have hn0 : ∃ n0, ns[0]? = some n0 := ⟨_, List.getElem?_eq_getElem (by have := HG.out.len0; omega)⟩
    obtain ⟨n0, hn0⟩ := hn0
    have N0 := Lib.hid hn0
    clear hn0
    have HPG : Hid (PG w4 a ns aq q) := ⟨HN.out.keep K4.out, HQ.out.keep K4.out, iq, by omega, good_lists HG.out, by omega⟩
    have S1 : Hid (∀ W, Kept w4 W → Calls Tryz.prog 8 #[PlaneV a ns.length cap en tp, .slice aq q.length cq, .int .u64 mask, .int .i64 k, .int .i64 40] W fun e w' => ∃ xb, Reached ns q mask 40 xb ∧ HitsPost (((sortSp xb).take k.toNat).map Sp.ht) W e w') := fun W hW => by
      have h := Search_any a ns cap en tp aq cq q mask k 40 n0 W (HPG.out.keep hW) (by omega) N0.out
      rw [show max k 40 = 40 by omega] at h
      exact h
    have S2 : Hid (∀ W, Kept w4 W → Calls Tryz.prog 8 #[PlaneV a ns.length cap en tp, .slice aq q.length cq, .int .u64 mask, .int .i64 k, .int .i64 ef] W fun e w' => ∃ xb, Reached ns q mask (max k ef) xb ∧ HitsPost (((sortSp xb).take k.toNat).map Sp.ht) W e w') := fun W hW =>
      Search_any a ns cap en tp aq cq q mask k ef n0 W (HPG.out.keep hW) (by omega) N0.out
    have lb := lt_of_cell p0
    go_wp2_with fail
    go_region_held3 (fun w' => w'.cell? ⟨w.heap.size, 0, none⟩ = some (.slice a ns.length cap) ∧ w'.cell? ⟨w.heap.size, 1, none⟩ = some (.int .i64 en) ∧ w'.cell? ⟨w.heap.size, 2, none⟩ = some (.int .i64 tp))
      (first | exact ⟨p0, p1, p2⟩ | exact ⟨e0, e1, e2⟩ | exact ⟨d0, d1, d2⟩ | go_keep)
      (first
        | (go_at_call 8; (with_reducible refine (S1.out _ (by first | exact drewK _ | exact Kept.trans (drewK _) HK2.out)).mono ?_); rintro e w5 ⟨x1, hr1, v1, rfl, ho1, hk5⟩; have d0 := kcell hk5 (by first | exact p0 | exact e0); have d1 := kcell hk5 (by first | exact p1 | exact e1); have d2 := kcell hk5 (by first | exact p2 | exact e2); have HR1 := Lib.hid hr1; have HO1 := Lib.hid ho1; have HK1 := Lib.hid hk5; clear hr1 ho1 hk5)
        | (go_at_call 8; (with_reducible refine (S2.out _ (by first | exact drewK _ | exact Kept.trans (drewK _) HK1.out)).mono ?_); rintro e w6 ⟨x2, hr2, v2, rfl, ho2, hk6⟩; have e0 := kcell hk6 (by first | exact p0 | exact d0); have e1 := kcell hk6 (by first | exact p1 | exact d1); have e2 := kcell hk6 (by first | exact p2 | exact d2); have HR2 := Lib.hid hr2; have HO2 := Lib.hid ho2; have HK2 := Lib.hid hk6; clear hr2 ho2 hk6))
    have L := Lib.hid (law22 (k := k) hm HG.out HR1.out HR2.out EH.out rfl rfl)
    have OF := Lib.hid (own_kept HO1.out HK2.out)
    have K6 := Lib.hid (Kept.trans K4.out (Kept.trans (drewK _) (Kept.trans HK1.out HK2.out)))
    have OT6 := Lib.hid (own_kept OT.out (Kept.trans (drewK _) (Kept.trans HK1.out HK2.out)))
    have OI6 := Lib.hid (own_kept OI4.out (Kept.trans (drewK _) (Kept.trans HK1.out HK2.out)))
    clear HR1 HR2 HO1 HK1 S1 S2 HPG OT OI4 p0 p1 p2 d0 d1 d2 e0 e1 e2 lb
    generalize ((sortSp x1).take k.toNat).map Sp.ht = full at *
    generalize ((sortSp x2).take k.toNat).map Sp.ht = some_ at *
    obtain ⟨l1, l2, l3, l4, l5, l6⟩ := L.out
    subst l1
    have L2 := Lib.hid l2; have L3 := Lib.hid l3; have L4 := Lib.hid l4
    clear l2 l3 l4 L
    have tl : (hs.take k.toNat).length ≤ 20 := Nat.le_trans (List.length_take_le' _ _) l5
    have C := Lib.hid (RCount_any _ _ v1 vt (hs.take k.toNat) (hs.take k.toNat) k w6 (by omega) (by omega) OF.out OT6.out)
    rw [hitsIn_self] at C
    have tk : ((hs.take k.toNat).take k.toNat).length ≤ 20 := Nat.le_trans (List.length_take_le' _ _) tl
    have NN := Lib.hid (fun W => Permille_eq ((hs.take k.toNat).take k.toNat).length W (by omega))
    generalize ((hs.take k.toNat).take k.toNat).length = nn at C NN tk
    go_wp2_with fail
    refine C.out.mono ?_
    rintro e w7 ⟨rfl, hk7⟩
    have HK7 := Lib.hid hk7
    clear hk7 C
    go_wp2_with fail
    refine (NN.out _).mono ?_
    rintro e w8 ⟨rfl, hk8⟩
    have HK8 := Lib.hid (Kept.trans HK7.out hk8)
    clear hk8 NN HK7
    have M := Lib.hid (Missing_any _ _ v1 vt (hs.take k.toNat) (hs.take k.toNat) w8 (by omega) (by omega) (own_kept OF.out HK8.out) (own_kept OT6.out HK8.out))
    go_wp2_with fail
    refine M.out.mono ?_
    rintro e w9 ⟨a9, c9, rfl, hk9⟩
    rw [lacks_self]
    have HK9 := Lib.hid (Kept.trans HK8.out hk9)
    clear hk9 M HK8
    have X := Lib.hid (XSearch_any _ vi (itemsOf ns) aq cq q mask 40 w9 il (own_kept OI6.out HK9.out) (items_at (HN.out.keep (Kept.trans K6.out HK9.out))) (HQ.out.keep (Kept.trans K6.out HK9.out)) iq (by omega))
    rw [← EH.out] at X
    have E40 : Hid (hs.take (40 : Int).toNat = hs.take 40) := rfl
    rw [E40.out] at X
    go_wp2_with fail
    refine X.out.mono ?_
    rintro e w10 ⟨ve, rfl, ho, hk10⟩
    have OE := Lib.hid ho
    have HK10 := Lib.hid (Kept.trans HK9.out hk10)
    clear ho hk10 X HK9
    have el : (hs.take 40).length ≤ 20 := Nat.le_trans (List.length_take_le' _ _) l5
    clear E40
    generalize hs.take 40 = ev at *
    have B := Lib.hid (Behind_zero _ _ vt v2 (hs.take k.toNat) some_ k w10 (by omega) (by omega) (own_kept OT6.out HK10.out) (own_kept HO2.out HK10.out) L2.out)
    go_wp2_with fail
    refine B.out.mono ?_
    rintro e w11 ⟨rfl, hk11⟩
    have HK11 := Lib.hid (Kept.trans HK10.out hk11)
    have OE11 := Lib.hid (own_kept OE.out hk11)
    clear hk11 B HK10 OE
    have M := Lib.hid (Missing_any _ _ ve v2 ev some_ w11 (by omega) (by omega) OE11.out (own_kept HO2.out HK11.out))
    go_wp2_with fail
    refine M.out.mono ?_
    rintro e w12 ⟨a12, c12, rfl, hk12⟩
    rw [L3.out]
    have HK12 := Lib.hid (Kept.trans HK11.out hk12)
    have OE12 := Lib.hid (own_kept OE11.out hk12)
    clear hk12 M HK11 OE11
    have M := Lib.hid (Missing_any _ _ v2 ve some_ ev w12 (by omega) (by omega) (own_kept HO2.out HK12.out) OE12.out)
    go_wp2_with fail
    refine M.out.mono ?_
    rintro e w13 ⟨a13, c13, rfl, hk13⟩
    have HK13 := Lib.hid (Kept.trans K6.out (Kept.trans HK12.out hk13))
    have L4' := L4.out
    obtain ⟨a2, c2, rfl, -, -⟩ := own_slice HO2.out
    obtain ⟨ae, ce, rfl, -, -⟩ := own_slice OE12.out
    have hd : (((lacks some_ ev).length : Int) == (ev.length : Int) - (some_.length : Int)) = true := by rw [beq_iff_eq]; omega
    clear hk13 M HK12 OE12 L4' L4 L3 L2
    go_wp2
    go_ret
    exact ⟨rfl, HK13.out⟩
end Go.Proofs.YtajbimmfkbgcpaaGreat

/- TopAllFound: the walk, whatever the input. -/
namespace Go.Proofs.YtajbimmfkbgcpaaGreat
open Go.RowKit

set_option maxRecDepth 100000 in
set_option maxHeartbeats 1000000 in
theorem top22_any (a : Option Addr) (ns : List Nd) (cap : Nat) (en tp links : Int) (aq : Option Addr) (cq : Nat) (q : List Int) (mask k ef : Int) (w : World) (hN : NodesAt w a ns) (hq : IntsAt .i32 w aq q) (iq : I32s q) (hm : ns.length ≤ 4398046511104) (hqm : q.length ≤ 35184372088832) :
    Calls Tryz.prog 3 #[PlaneV a ns.length cap en tp, .int .i64 links, .slice aq q.length cq, .int .u64 mask, .int .i64 k, .int .i64 ef] w (TruePost w) := by
  by_cases h1 : 20 < ns.length
  · have kb := Lib.hid (kept_alloc w (.cells #[.slice a ns.length cap, .int .i64 en, .int .i64 tp] 24))
    have PB0 := Lib.hid (PBox.new w a ns.length cap en tp 24)
    clear hN hq
    go_enter Tryz.func3, Tryz.ntmps3
    go_wp2_with fail
    refine (begins22_any _).mono ?_
    rintro e w1 ⟨rfl, hk⟩
    have K1 := Lib.hid (Kept.trans kb.out hk)
    obtain ⟨p0, p1, p2⟩ := PB0.out.keep hk
    clear hk kb PB0
    go_wp2
    go_ret
    exact ⟨rfl, K1.out⟩
  · by_cases h2 : q.length ≤ 50 ∧ 0 ≤ k ∧ k ≤ 40
    · exact top22_main a ns cap en tp links aq cq q mask k ef w hN hq iq (by omega) h2.1 h2.2.1 h2.2.2
    · have h3 : 50 < q.length ∨ (¬ 50 < q.length ∧ k < 0) ∨ (¬ 50 < q.length ∧ ¬ k < 0 ∧ 40 < k) := by omega
      have kb := Lib.hid (kept_alloc w (.cells #[.slice a ns.length cap, .int .i64 en, .int .i64 tp] 24))
      have PB0 := Lib.hid (PBox.new w a ns.length cap en tp 24)
      have HN := Lib.hid hN
      clear hN hq h2
      rcases h3 with h3 | ⟨h3, h4⟩ | ⟨h3, h4, h5⟩
      all_goals
        go_enter Tryz.func3, Tryz.ntmps3
        go_wp2_with fail
        refine (begins22_any _).mono ?_
        rintro e w1 ⟨rfl, hk⟩
        have K1 := Lib.hid (Kept.trans kb.out hk)
        obtain ⟨p0, p1, p2⟩ := PB0.out.keep hk
        clear hk kb PB0
        go_wp2_with fail
        refine (Check_any a ns cap en tp links w1 (by omega) (HN.out.keep K1.out)).mono ?_
        rintro e w2 ⟨hk, rfl | ⟨rfl, _⟩⟩
        all_goals
          have K2 := Lib.hid (Kept.trans K1.out hk)
          clear hk
          go_wp2
          go_ret
          exact ⟨rfl, K2.out⟩
end Go.Proofs.YtajbimmfkbgcpaaGreat
