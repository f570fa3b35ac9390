/-
  Hits as they lie; beam.Search.
  gangliontop.all.
  exact.hits.
  exact.Search.
-/
import Derived.Test.YtajbimmfkbgcpaaGreatKBeam
/- Hits as they lie; beam.Search. -/
namespace Go.Proofs.YtajbimmfkbgcpaaGreat
open Go.RowKit

structure Ht where
  d : Int
  i : Int
  deriving DecidableEq
def Ht.cells (x : Ht) : List Value := [.int .u64 x.d, .int .u64 x.i]
def flatH (xs : List Ht) : List Value := xs.flatMap Ht.cells
theorem flatH_length (xs : List Ht) : (flatH xs).length = xs.length * 2 := by
  induction xs with
  | nil => rfl
  | cons x xs ih => simp only [flatH, List.flatMap_cons, List.length_append] at ih ⊢; rw [ih]; simp [Ht.cells]; omega
theorem flatH_append (xs ys : List Ht) : flatH (xs ++ ys) = flatH xs ++ flatH ys := by simp [flatH]
theorem flatH_at {xs : List Ht} {k j : Nat} (hk : k < xs.length) (hj : j < 2) : (flatH xs)[k * 2 + j]? = (xs[k].cells)[j]? := by
  induction xs generalizing k with
  | nil => simp at hk
  | cons x xs ih =>
    have e : flatH (x :: xs) = x.cells ++ flatH xs := rfl
    rw [e]
    cases k with
    | zero => rw [List.getElem?_append_left (by simp [Ht.cells]; omega)]; simp
    | succ k =>
      rw [List.getElem?_append_right (by simp [Ht.cells]; omega)]
      have h3 : (k + 1) * 2 + j - x.cells.length = k * 2 + j := by simp [Ht.cells]; omega
      rw [h3, ih (by simpa using hk)]
      simp
theorem Tryz.elemHit : Elem Tryz.prog 32 42 (.agg #[.int .u64 0, .int .u64 0]) 2 16 := ⟨Tryz.underlying32, by kernel_rfl, rfl, by omega⟩
theorem own_ht_cell {w : World} {base g c n : Nat} {xs : List Ht} (h : w.ownsRow base 42 2 (.slice (some ⟨g, 0, none⟩) n c) n (flatH xs)) {k : Nat} (hk : k < xs.length) :
    w.cell? ⟨g, k * 2, none⟩ = some (.int .u64 xs[k].d) ∧ w.cell? ⟨g, k * 2 + 1, none⟩ = some (.int .u64 xs[k].i) := by
  have hn : n = xs.length := by have := h.1; rw [flatH_length] at this; omega
  refine ⟨?_, ?_⟩
  · rw [h.cellAt (k * 2) (by omega)]; exact flatH_at (j := 0) hk (by omega)
  · rw [h.cellAt (k * 2 + 1) (by omega)]; exact flatH_at (j := 1) hk (by omega)
def HitsPost (hs : List Ht) (w : World) (e : Ending) (w' : World) : Prop :=
  ∃ v, e = .returned v ∧ w'.ownsRow w.heap.size 42 2 v hs.length (flatH hs) ∧ Kept w w'

def Sp.ht (x : Sp) : Ht := ⟨x.d, x.i⟩
def SearchRel (L : List Sp) (k : Int) (w2 : World) (v i : Value) (wr : World) : Prop :=
  ∃ j : Nat, j ≤ L.length ∧ (j : Int) ≤ max k 0 ∧ i = .int .i64 (j : Int) ∧ Hid (wr.ownsRow w2.heap.size 42 2 v j (flatH ((L.take j).map Sp.ht)) ∧ Kept w2 wr)

set_option maxRecDepth 100000 in
set_option maxHeartbeats 1000000 in
theorem Search_any (a : Option Addr) (ns : List Nd) (cap : Nat) (en tp : Int) (aq : Option Addr) (cq : Nat) (q : List Int) (mask k ef : Int) (n0 : Nd) (w : World) (hG : PG w a ns aq q) (hql : q.length ≤ 4398046511104) (hn : ns[0]? = some n0) :
    Calls Tryz.prog 8 #[PlaneV a ns.length cap en tp, .slice aq q.length cq, .int .u64 mask, .int .i64 k, .int .i64 ef] w fun e w' => ∃ xb, Reached ns q mask (max k ef) xb ∧ HitsPost (((sortSp xb).take k.toNat).map Sp.ht) w e w' := by
  have F := Lib.hid (Find_any a ns cap en tp aq cq q mask (max k ef) n0 _ (hG.keep (kept_alloc w (.cells #[.slice a ns.length cap, .int .i64 en, .int .i64 tp] 24))) hql hn)
  clear hG hn
  go_enter Tryz.func8, Tryz.ntmps8
  go_wp2_with (first
    | (go_at_call 19; refine F.out.mono ?_; rintro e w2 ⟨v, xb, rfl, ho, hk2, hR, hxl⟩
       obtain ⟨al, cl, rfl, hnone, hsome⟩ := own_slice ho
       have HO := Lib.hid ho; have HK2 := Lib.hid (Kept.trans (kept_alloc _ _) hk2); have HR := Lib.hid hR; have HS := Lib.hid hsome
       have hll : (sortSp xb).length ≤ 1000 := by unfold sortSp; simpa using hxl
       clear ho hk2 hR hnone hsome hxl))
  generalize hL : sortSp xb = L at *
  have HL := Lib.hid hL
  clear hL
  go_loopw [11, 22] (SearchRel L k w2) (fun _ i _ => L.length - (intOf i).toNat)
  case atStart => exact ⟨0, Nat.zero_le _, by omega, rfl, World.ownsRow_nil _ _ _ _, Kept.rfl' _⟩
  case round =>
    obtain ⟨j, hj, hjk, rfl, hr⟩ := hrel
    by_cases hlt : j < L.length
    · rcases al with _ | A
      · have h := (HO.out).2
        rcases h with ⟨_, h0⟩ | ⟨g, cap', cur, hv, _⟩
        · omega
        · simp at hv
      · obtain ⟨g, rfl, hgb, hgl⟩ := HS.out A rfl
        obtain ⟨x0, x1, x2⟩ := own_sp_cell (own_kept HO.out hr.out.2) hlt
        have HX := Lib.hid (show (L.take (j + 1)).map Sp.ht = (L.take j).map Sp.ht ++ [(L[j]'hlt).ht] by rw [List.take_succ_eq_append_getElem hlt, List.map_append]; rfl)
        generalize (L[j]'hlt) = X at *
        have hgw : g < wr.heap.size := Nat.lt_of_lt_of_le hgl hr.out.2.size
        have HV := Lib.hid hr.out.1; have HKr := Lib.hid hr.out.2
        clear hr
        by_cases hk : k ≤ (j : Int)
        · go_wp2
          go_ret
          refine ⟨xb, HR.out, _, rfl, ?_, Kept.trans HK2.out (Kept.trans HKr.out (kept_alloc _ _))⟩
          have e1 : (sortSp xb).take k.toNat = L.take j := by rw [HL.out]; congr 1; omega
          have e2 : ((L.take j).map Sp.ht).length = j := by simp; omega
          rw [e1, e2]
          exact own_weaken (HV.out.alloc _) HK2.out.size
        · have hjb : j ≤ 1000 := by omega
          go_wp2_with (first
            | (at_builtin; refine wpList_push_far Tryz.elemHit rfl _ _ rfl w2.heap.size _ _ _ #[.int .u64 X.d, .int .u64 X.i] _ (by simp) rfl rfl (by exact HV.out.alloc _) rfl ?c1 ?c2 ?c3 ?c4 ?_))
          case c1 => simp [Value.oneCell']
          case c2 => unfold maxLen; omega
          case c3 => omega
          case c4 => have := HKr.out.size; simp; omega
          intro g' c' w4 hown4 hf4 hg4 hl4
          have K4 : Hid (Kept w2 w4) := kept_far (Kept.trans HKr.out (kept_alloc _ _)) hf4 (fun b hb e => by have := (HV.out.lt b e).1; omega)
          have HO4 := Lib.hid hown4
          clear hown4 hf4 hg4
          go_wp2
          go_roundw
          case rel => exact ⟨j + 1, hlt, by omega, by go_num, by have h := HO4.out; rw [← List.map_take] at h; rw [HX.out, flatH_append]; exact h, K4.out⟩
          case measure => simp [intOf]; omega
    · obtain rfl : j = L.length := by omega
      have HV := Lib.hid hr.out.1; have HKr := Lib.hid hr.out.2
      clear hr
      go_wp2
      go_ret
      refine ⟨xb, HR.out, _, rfl, ?_, Kept.trans HK2.out HKr.out⟩
      have e1 : (sortSp xb).take k.toNat = L.take L.length := by rw [HL.out, List.take_length, List.take_of_length_le (by omega)]
      have e2 : ((L.take L.length).map Sp.ht).length = L.length := by simp
      rw [e1, e2]
      exact own_weaken HV.out HK2.out.size
end Go.Proofs.YtajbimmfkbgcpaaGreat

/- gangliontop.all. -/
namespace Go.Proofs.YtajbimmfkbgcpaaGreat
open Go.RowKit

instance : Inhabited Nd := ⟨⟨0, none, 0, [], 0, 0, none, 0, [], 0, 0⟩⟩
def Nd.it (n : Nd) : List Value := [.int .u64 n.id, .slice n.va n.vec.length n.vc, .int .u64 n.tags]
def flatI (xs : List Nd) : List Value := xs.flatMap Nd.it
theorem flatI_length (xs : List Nd) : (flatI xs).length = xs.length * 3 := by
  induction xs with
  | nil => rfl
  | cons x xs ih => simp only [flatI, List.flatMap_cons, List.length_append] at ih ⊢; rw [ih]; simp [Nd.it]; omega
theorem flatI_append (xs ys : List Nd) : flatI (xs ++ ys) = flatI xs ++ flatI ys := by simp [flatI]
theorem flatI_at {xs : List Nd} {k j : Nat} (hk : k < xs.length) (hj : j < 3) : (flatI xs)[k * 3 + j]? = (xs[k].it)[j]? := by
  induction xs generalizing k with
  | nil => simp at hk
  | cons x xs ih =>
    have e : flatI (x :: xs) = x.it ++ flatI xs := rfl
    rw [e]
    cases k with
    | zero => rw [List.getElem?_append_left (by simp [Nd.it]; omega)]; simp
    | succ k =>
      rw [List.getElem?_append_right (by simp [Nd.it]; omega)]
      have h3 : (k + 1) * 3 + j - x.it.length = k * 3 + j := by simp [Nd.it]; omega
      rw [h3, ih (by simpa using hk)]
      simp
theorem Tryz.elemItem : Elem Tryz.prog 30 50 (.agg #[.int .u64 0, .slice none 0 0, .int .u64 0]) 3 40 := ⟨Tryz.underlying30, by kernel_rfl, rfl, by omega⟩
/-- The nodes that are there. -/
def itemsOf (ns : List Nd) : List Nd := (live ns).map fun k => ns[k]!
theorem itemsOf_len (ns : List Nd) : (itemsOf ns).length = (live ns).length := by simp [itemsOf]
theorem mem_liveT {ns : List Nd} {k : Nat} (h : k ∈ live ns) : there ns (k : Int) = true := by
  unfold live liveTo at h
  exact (List.mem_filter.1 h).2

def AllRel (ns : List Nd) (w2 : World) (v i : Value) (wr : World) : Prop :=
  ∃ j : Nat, j ≤ (live ns).length ∧ i = .int .i64 (j : Int) ∧ Hid (wr.ownsRow w2.heap.size 50 3 v j (flatI ((itemsOf ns).take j)) ∧ Kept w2 wr)

set_option maxRecDepth 100000 in
set_option maxHeartbeats 1000000 in
theorem All_any (a : Option Addr) (ns : List Nd) (cap : Nat) (en tp : Int) (w : World) (hN : NodesAt w a ns) (hlen : ns.length ≤ 1000) :
    Calls Tryz.prog 6 #[PlaneV a ns.length cap en tp] w fun e w' => ∃ v, e = .returned v ∧ w'.ownsRow w.heap.size 50 3 v (itemsOf ns).length (flatI (itemsOf ns)) ∧ Kept w w' := by
  have N := Lib.hid hN
  have ll : (live ns).length ≤ 1000 := by have := liveTo_len ns ns.length; unfold live; omega
  have L := Lib.hid (Live_any a ns cap en tp _ (by omega) (hN.keep (kept_alloc w (.cells #[.slice a ns.length cap, .int .i64 en, .int .i64 tp] 24))))
  clear hN hlen
  go_enter Tryz.func6, Tryz.ntmps6
  go_wp2_with (first
    | (go_at_call 15; refine L.out.mono ?_; rintro e w2 ⟨v, rfl, ho, hk2⟩
       obtain ⟨al, cl, rfl, hcl, hI, -⟩ := ints_of_own' ho
       have HI := Lib.hid hI
       have HK2 := Lib.hid (Kept.trans (kept_alloc _ _) hk2)
       have hnl : (nats (live ns)).length = (live ns).length := by simp [nats]
       rw [hnl] at hcl ⊢
       have q0 := kcell hk2 (cell_new (w := w) (cs := #[.slice a ns.length cap, .int .i64 en, .int .i64 tp]) (t := 24) (b := w.heap.size) (i := 0) rfl rfl)
       have Q0 := Lib.hid q0
       have HNL := Lib.hid hnl
       clear ho hk2 hI q0 hnl))
  go_loopw [3, 9] (AllRel ns w2) (fun _ i _ => (live ns).length - (intOf i).toNat)
  case atStart => exact ⟨0, Nat.zero_le _, rfl, World.ownsRow_nil _ _ _ _, Kept.rfl' _⟩
  case round =>
    obtain ⟨j, hj, rfl, hr⟩ := hrel
    have HV := Lib.hid hr.out.1; have HKr := Lib.hid hr.out.2
    clear hr
    by_cases hlt : j < (live ns).length
    · obtain ⟨b, o, rfl, hbl, hc⟩ := (HI.out.keep HKr.out).at_ (i := j) (by rw [HNL.out]; exact hlt)
      have ht := mem_liveT (List.getElem_mem hlt)
      have he : (nats (live ns))[j]'(by rw [HNL.out]; exact hlt) = (((live ns)[j]'hlt : Nat) : Int) := by simp [nats]
      rw [he] at hc
      obtain ⟨k', n, hk', hn, hk0, hkl⟩ := there_nat ht
      obtain rfl : (live ns)[j]'hlt = k' := by omega
      have HX := Lib.hid (show (itemsOf ns).take (j + 1) = (itemsOf ns).take j ++ [n] by
        rw [List.take_succ_eq_append_getElem (by rw [itemsOf_len]; exact hlt)]
        congr 2
        unfold itemsOf
        rw [List.getElem_map, getElem!_pos ns _ hkl]
        rw [List.getElem?_eq_getElem hkl] at hn
        injection hn)
      generalize (live ns)[j]'hlt = k at *
      obtain ⟨bn, on, rfl, hbn, hcn, hvn, -, hfn⟩ := (N.out.keep (Kept.trans HK2.out HKr.out)) k n hn
      have x0 : wr.cell? ⟨bn, on + k * 7, none⟩ = some (.int .u64 n.id) := hcn 0 _ rfl
      have x1 : wr.cell? ⟨bn, on + k * 7 + 1, none⟩ = some (.slice n.va n.vec.length n.vc) := hcn 1 _ rfl
      have x2 : wr.cell? ⟨bn, on + k * 7 + 2, none⟩ = some (.int .u64 n.tags) := hcn 2 _ rfl
      have p0 := kcell HKr.out Q0.out
      have l0 := lt_of_cell p0
      have hkl' : (k : Int) < (ns.length : Int) := by omega
      clear ht he hk' hn hk0 hcn hvn hfn
      go_wp2_with (first
        | (at_builtin; refine wpList_push_far Tryz.elemItem rfl _ _ rfl w2.heap.size _ _ _ #[.int .u64 n.id, .slice n.va n.vec.length n.vc, .int .u64 n.tags] _ rfl rfl rfl (by exact HV.out) rfl ?c1 ?c2 ?c3 ?c4 ?_))
      case c1 => simp [Value.oneCell']
      case c2 => unfold maxLen; omega
      case c3 => omega
      case c4 => exact HKr.out.size
      intro g' c' w4 hown4 hf4 hg4 hl4
      have K4 : Hid (Kept w2 w4) := kept_far HKr.out hf4 (fun b hb e => by have := (HV.out.lt b e).1; omega)
      have HO4 : Hid (w4.ownsRow w2.heap.size 50 3 (.slice (some ⟨g', 0, none⟩) (j + 1) c') (j + 1) (flatI ((itemsOf ns).take (j + 1)))) := by
        rw [HX.out, flatI_append]; exact hown4
      clear hown4 hf4 hg4
      go_wp2
      go_roundw
      case rel => exact ⟨j + 1, hlt, by go_num, HO4.out, K4.out⟩
      case measure => simp [intOf]; omega
    · obtain rfl : j = (live ns).length := by omega
      go_wp2
      go_ret
      refine ⟨_, rfl, ?_, Kept.trans HK2.out HKr.out⟩
      have h := HV.out
      rw [List.take_of_length_le (by rw [itemsOf_len]; omega)] at h
      rw [itemsOf_len]
      exact own_weaken h HK2.out.size
end Go.Proofs.YtajbimmfkbgcpaaGreat

/- exact.hits. -/
namespace Go.Proofs.YtajbimmfkbgcpaaGreat
open Go.RowKit

def sp0 (q : List Int) (n : Nd) : Sp := ⟨dist q n.vec, n.id, 0⟩
/-- The items that have the tags, as spots. -/
def selOf (q : List Int) (mask : Int) (l : List Nd) : List Sp := (l.filter fun n => hasB n.tags mask).map (sp0 q)
theorem own_it_cell {w : World} {base g c n : Nat} {xs : List Nd} (h : w.ownsRow base 50 3 (.slice (some ⟨g, 0, none⟩) n c) n (flatI xs)) {k : Nat} (hk : k < xs.length) :
    w.cell? ⟨g, k * 3, none⟩ = some (.int .u64 xs[k].id) ∧ w.cell? ⟨g, k * 3 + 1, none⟩ = some (.slice xs[k].va xs[k].vec.length xs[k].vc) ∧ w.cell? ⟨g, k * 3 + 2, none⟩ = some (.int .u64 xs[k].tags) := by
  have hn : n = xs.length := by have := h.1; rw [flatI_length] at this; omega
  refine ⟨?_, ?_, ?_⟩
  · rw [h.cellAt (k * 3) (by omega)]; exact flatI_at (j := 0) hk (by omega)
  · rw [h.cellAt (k * 3 + 1) (by omega)]; exact flatI_at (j := 1) hk (by omega)
  · rw [h.cellAt (k * 3 + 2) (by omega)]; exact flatI_at (j := 2) hk (by omega)
def SelRel (q : List Int) (mask : Int) (l : List Nd) (w : World) (v i : Value) (wr : World) : Prop :=
  ∃ j : Nat, j ≤ l.length ∧ i = .int .i64 (j : Int) ∧ Hid (wr.ownsRow w.heap.size 60 3 v (selOf q mask (l.take j)).length (flat (selOf q mask (l.take j))) ∧ Kept w wr)

/-- The hits of a list of spots, one after the other. -/
def OutRel (L : List Sp) (v2 : Value) (w : World) (v i : Value) (wr : World) : Prop :=
  ∃ j : Nat, j ≤ L.length ∧ i = .int .i64 (j : Int) ∧ Hid (wr.ownsRow w.heap.size 42 2 v j (flatH ((L.take j).map Sp.ht)) ∧ (∃ base, wr.ownsRow base 60 3 v2 L.length (flat L)) ∧ (∀ b, v2.ownBlock = some b → v.ownBlock ≠ some b) ∧ Kept w wr)
theorem news_at2 {W : World} {B t : Nat} {arr : Array Value} (hB : B = W.heap.size) : ∀ j u, arr.toList[j]? = some u → (W.alloc (.cells arr t)).cell? ((⟨B, 0, none⟩ : Addr).add j) = some u := by
  subst hB
  exact cells_new W arr t

set_option maxRecDepth 100000 in
set_option maxHeartbeats 1000000 in
theorem hits_any (base : Nat) (v : Value) (l : List Nd) (aq : Option Addr) (cq : Nat) (q : List Int) (mask : Int) (w : World) (hl : l.length ≤ 1000) (hO : w.ownsRow base 50 3 v l.length (flatI l)) (hV : ∀ n ∈ l, IntsAt .i32 w n.va n.vec ∧ n.Fits)
    (hq : IntsAt .i32 w aq q) (iq : I32s q) (hql : q.length ≤ 35184372088832) :
    Calls Tryz.prog 18 #[v, .slice aq q.length cq, .int .u64 mask] w (HitsPost ((sortSp (selOf q mask l)).map Sp.ht) w) := by
  obtain ⟨al, cl, rfl, hnone, hsome⟩ := own_slice hO
  have HO := Lib.hid hO; have HV := Lib.hid hV; have HQ := Lib.hid hq; have HS := Lib.hid hsome
  clear hO hV hq hnone hsome
  go_enter Tryz.func18, Tryz.ntmps18
  go_wp2_with fail
  go_loopw [7, 15] (SelRel q mask l w) (fun _ i _ => l.length - (intOf i).toNat)
  case atStart => exact ⟨0, Nat.zero_le _, rfl, World.ownsRow_nil _ _ _ _, Kept.rfl' _⟩
  case round =>
    obtain ⟨j, hj, rfl, hr⟩ := hrel
    have HR := Lib.hid hr.out.1; have HKr := Lib.hid hr.out.2
    clear hr
    by_cases hlt : j < l.length
    · rcases al with _ | A
      · rcases HO.out.2 with ⟨_, h0⟩ | ⟨g, cap', cur, hv, _⟩
        · omega
        · simp at hv
      · obtain ⟨g, rfl, hgb, hgl⟩ := HS.out A rfl
        obtain ⟨x0, x1, x2⟩ := own_it_cell (own_kept HO.out HKr.out) hlt
        have HN := Lib.hid (HV.out (l[j]'hlt) (List.getElem_mem hlt))
        have hx : selOf q mask (l.take (j + 1)) = selOf q mask (l.take j) ++ (if hasB (l[j]'hlt).tags mask then [sp0 q (l[j]'hlt)] else []) := by
          unfold selOf
          rw [List.take_succ_eq_append_getElem hlt, List.filter_append, List.map_append]
          cases hb : hasB (l[j]'hlt).tags mask <;> simp [hb]
        have HX := Lib.hid hx
        clear hx
        generalize (l[j]'hlt) = n at *
        have hgw : g < wr.heap.size := Nat.lt_of_lt_of_le hgl HKr.out.size
        have D : Hid (∀ W, Kept wr W → Calls Tryz.prog 39 #[.slice aq q.length cq, .slice n.va n.vec.length n.vc] W fun e w' => e = .returned (.int .u64 (dist q n.vec)) ∧ W = w') := fun W hk =>
          (Dist_any aq n.va cq n.vc q n.vec W hql HN.out.2.veclen (HQ.out.keep (Kept.trans HKr.out hk)) (HN.out.1.keep (Kept.trans HKr.out hk)) iq HN.out.2.vec)
        have T : Hid (∀ W, Calls Tryz.prog 38 #[.int .u64 n.tags, .int .u64 mask] W fun e w' => e = .returned (.bool (hasB n.tags mask)) ∧ W = w') := fun W => (tagHas_any n.tags mask W)
        unfold sp0 at HX
        generalize dist q n.vec = dd at *
        cases hb : hasB n.tags mask with
        | false =>
          rw [hb] at T HX
          go_wp2_with (first | (go_at_call 38; refine (T.out _).mono ?_; rintro e w1 ⟨rfl, rfl⟩))
          go_roundw
          case rel => exact ⟨j + 1, hlt, by go_num, by rw [HX.out]; simpa using HR.out.alloc _, Kept.trans HKr.out (kept_alloc _ _)⟩
          case measure => simp [intOf]; omega
        | true =>
          rw [hb] at T HX
          have i0 : (wr.alloc (.cells #[.int .u64 n.id, .slice n.va n.vec.length n.vc, .int .u64 n.tags] 50)).cell? ⟨wr.heap.size, 0, none⟩ = some (.int .u64 n.id) := cell_new rfl rfl
          have i1 : (wr.alloc (.cells #[.int .u64 n.id, .slice n.va n.vec.length n.vc, .int .u64 n.tags] 50)).cell? ⟨wr.heap.size, 1, none⟩ = some (.slice n.va n.vec.length n.vc) := cell_new rfl rfl
          go_wp2_with (first | (go_at_call 38; refine (T.out _).mono ?_; rintro e w1 ⟨rfl, rfl⟩))
          have K1 : Hid (Kept wr (wr.alloc (.cells #[.int .u64 n.id, .slice n.va n.vec.length n.vc, .int .u64 n.tags] 50))) := kept_alloc _ _
          have HR1 := Lib.hid (HR.out.alloc (.cells #[.int .u64 n.id, .slice n.va n.vec.length n.vc, .int .u64 n.tags] 50))
          have hsl : (selOf q mask (l.take j)).length ≤ j := by
            unfold selOf
            rw [List.length_map]
            exact Nat.le_trans (List.length_filter_le _ _) (by simp; omega)
          have HSL := Lib.hid hsl
          clear hsl
          have hne : ¬ u7.ownBlock = some wr.heap.size := fun e => by have := (HR.out.lt _ e).2; omega
          have HNE := Lib.hid hne
          clear hne
          obtain ⟨ei, hi0, hz0, hz1, hz2⟩ := info_parts Tryz.elemSpot.info
          go_region_held3 (fun w' => w'.cell? ⟨wr.heap.size, 0, none⟩ = some (.int .u64 n.id) ∧ w'.cell? ⟨wr.heap.size, 1, none⟩ = some (.slice n.va n.vec.length n.vc))
            (first | exact ⟨i0, i1⟩ | exact ⟨cell_old i0, cell_old i1⟩ | exact ⟨e0, e1⟩ | go_keep)
            (first
              | (go_at_call 39; refine (D.out _ (by exact Kept.trans K1.out (drewK _))).mono ?_; rintro e w3 ⟨rfl, rfl⟩)
              | (refine step_append_lies _ (by rfl) _ _ _ (by rfl) w.heap.size 60 ei _ 3 24 Tryz.underlying57 hi0 hz0 hz1 hz2 rfl (by omega) u7 (selOf q mask (l.take j)).length (flat (selOf q mask (l.take j))) (by rfl) (by exact ((HR1.out.drew).alloc _))
                  ⟨wr.heap.size + 1, 0, none⟩ 1 1 [.int .u64 dd, .int .u64 n.id, .int .i64 0] (by rfl) (by rfl) (by exact news_at2 (arr := #[.int .u64 dd, .int .u64 n.id, .int .i64 0]) (by simp)) (by simp [Value.oneCell'])
                  (by omega) (by unfold maxLen; have := HSL.out; omega) (by have := HSL.out; omega) (by have := HKr.out.size; simp; omega) _ rfl ?_; intro gg cap4 w4 hown4 hgrow hat hlt4; have e0 := (far_of_grown hgrow).cell (cell_old i0) HNE.out; have e1 := (far_of_grown hgrow).cell (cell_old i1) HNE.out; have K4 := Lib.hid (kept_far (Kept.trans HKr.out (Kept.trans K1.out (Kept.trans (drewK _) (kept_alloc _ (.cells #[.int .u64 dd, .int .u64 n.id, .int .i64 0] 60))))) (far_of_grown hgrow) (fun b hb e => by have := (HR.out.lt b e).1; omega)); have HO4 := Lib.hid hown4; clear hown4 hgrow hat hlt4))
          all_goals (
            clear e0 e1 i0 i1
            go_wp2
            go_roundw
            case rel => exact ⟨j + 1, hlt, by go_num, by rw [HX.out, if_pos trivial, flat_append, List.length_append]; exact HO4.out, K4.out⟩
            case measure => simp [intOf]; omega)
    · obtain rfl : j = l.length := by omega
      have hR := HR.out
      rw [List.take_length] at hR
      have hsl : (selOf q mask l).length ≤ 1000 := by
        unfold selOf
        rw [List.length_map]
        exact Nat.le_trans (List.length_filter_le _ _) hl
      have HRR := Lib.hid hR
      clear hR HR
      have S := Lib.hid (fun W (hk : Kept wr W) => Sort_any w.heap.size u7 (selOf q mask l) W (by omega) (own_kept HRR.out hk))
      obtain ⟨a7, c7, hu7, -, -⟩ := own_slice HRR.out
      subst hu7
      have hc7 := own_cap2 HRR.out
      have hmx := own_max HRR.out
      obtain ⟨ih, hih, hhz, hhs, hhb⟩ := info_parts Tryz.elemHit.info
      obtain ⟨wm, hrm, hom, hgm⟩ := run_make_own (P := Tryz.prog) wr w.heap.size 32 42 ih _ 2 Tryz.underlying32 hih hhz hhs .i64 .i64 (selOf q mask l).length (by rw [hhb]; omega) (by unfold maxLen; omega) HKr.out.size
      have Kwm : Hid (Kept wr wm) := ⟨hgm.os, hgm.tape, hgm.output, hgm.size, fun k hk => hgm.block k hk (by simp)⟩
      have HOM := Lib.hid hom
      clear hih hhz hhs hhb hom hgm
      go_wp2_with (first
        | (go_at_call 40; refine (S.out _ Kwm.out).mono ?_; rintro e w2 ⟨v2, rfl, hown2, hk2⟩
           obtain ⟨a2, c2, rfl, -, hs2⟩ := own_slice hown2
           have HO2 := Lib.hid hown2; have HK2 := Lib.hid hk2; have HS2 := Lib.hid hs2; clear hown2 hk2 hs2 hrm))
      have hLl : (sortSp (selOf q mask l)).length = (selOf q mask l).length := by unfold sortSp; simp
      generalize hL : sortSp (selOf q mask l) = L at *
      have HL := Lib.hid hL
      have hl2 : L.length ≤ 1000 := by omega
      clear hL hLl
      have hat : OutRel L (.slice a2 L.length c2) w (.slice (some ⟨wr.heap.size, 0, none⟩) 0 (selOf q mask l).length) (.int .i64 0) w2 :=
        ⟨0, Nat.zero_le _, rfl, own_kept HOM.out HK2.out, ⟨_, HO2.out⟩, fun b hb e => by
          simp only [Value.ownBlock, Option.some.injEq] at e
          have := HO2.out.lt b hb
          have := HOM.out.lt wr.heap.size rfl
          omega, Kept.trans HKr.out (Kept.trans Kwm.out HK2.out)⟩
      have HAT := Lib.hid hat
      clear hat
      go_loopw [10, 41] (OutRel L (.slice a2 L.length c2) w) (fun _ i _ => L.length - (intOf i).toNat)
      case atStart => exact HAT.out
      case round =>
        obtain ⟨j, hj, rfl, hr⟩ := hrel
        have HV2 := Lib.hid hr.out.1; have HB2 := Lib.hid hr.out.2.1; have HN2 := Lib.hid hr.out.2.2.1; have HKr2 := Lib.hid hr.out.2.2.2
        clear hr HAT S
        by_cases hlt : j < L.length
        · rcases a2 with _ | A
          · obtain ⟨base2, hb2⟩ := HB2.out
            rcases hb2.2 with ⟨_, h0⟩ | ⟨g, cap', cur, hv, _⟩
            · omega
            · simp at hv
          · obtain ⟨g, rfl, hgb, -⟩ := HS2.out A rfl
            obtain ⟨base2, hb2⟩ := HB2.out
            obtain ⟨x0, x1, x2⟩ := own_sp_cell hb2 hlt
            have HBB := Lib.hid hb2
            have HX := Lib.hid (show (L.take (j + 1)).map Sp.ht = (L.take j).map Sp.ht ++ [(L[j]'hlt).ht] by rw [List.take_succ_eq_append_getElem hlt, List.map_append]; rfl)
            generalize (L[j]'hlt) = X at *
            have hgw := lt_of_cell x0
            have hjb : j ≤ 1000 := by omega
            clear hb2
            go_wp2_with (first
              | (at_builtin; refine wpList_push_far Tryz.elemHit rfl _ _ rfl w.heap.size _ _ _ #[.int .u64 X.d, .int .u64 X.i] _ (by simp) rfl rfl (by exact HV2.out.alloc _) rfl ?c1 ?c2 ?c3 ?c4 ?_))
            case c1 => simp [Value.oneCell']
            case c2 => unfold maxLen; omega
            case c3 => omega
            case c4 => have := HKr2.out.size; simp; omega
            intro g' c' w4 hown4 hf4 hg4 hl4
            have K4 : Hid (Kept w w4) := kept_far (Kept.trans HKr2.out (kept_alloc _ _)) hf4 (fun b hb e => by have := (HV2.out.lt b e).1; omega)
            have HO4 : Hid (w4.ownsRow w.heap.size 42 2 (.slice (some ⟨g', 0, none⟩) (j + 1) c') (j + 1) (flatH ((L.take (j + 1)).map Sp.ht))) := by
              rw [← List.map_take] at hown4
              rw [HX.out, flatH_append]; exact hown4
            have HB4 := Lib.hid (own_far (HBB.out.alloc _) (fun b hb e => HN2.out b hb e) hf4)
            have HN4 : Hid (∀ b, (Value.slice (some ⟨g, 0, none⟩) L.length c2).ownBlock = some b → (Value.slice (some ⟨g', 0, none⟩) (j + 1) c').ownBlock ≠ some b) := fun b hb e => by
              simp only [Value.ownBlock, Option.some.injEq] at hb e
              subst hb; subst e
              rcases hg4 with h | h
              · exact HN2.out _ rfl h
              · omega
            clear hown4 hf4 hg4
            go_wp2
            go_roundw
            case rel =>
              exact ⟨j + 1, hlt, by go_num, HO4.out, ⟨_, HB4.out⟩, HN4.out, K4.out⟩
            case measure => simp [intOf]; omega
        · obtain rfl : j = L.length := by omega
          go_wp2
          go_ret
          refine ⟨_, rfl, ?_, HKr2.out⟩
          have h := HV2.out
          rw [List.take_length] at h
          simp only [List.length_map]
          exact h
end Go.Proofs.YtajbimmfkbgcpaaGreat

/- exact.Search. -/
namespace Go.Proofs.YtajbimmfkbgcpaaGreat
open Go.RowKit

theorem flatH_take (ys : List Ht) (n : Nat) : (flatH ys).take (n * 2) = flatH (ys.take n) := by
  induction ys generalizing n with
  | nil => simp [flatH]
  | cons y ys ih =>
    cases n with
    | zero => simp [flatH]
    | succ n =>
      have e : flatH (y :: ys) = .int .u64 y.d :: .int .u64 y.i :: flatH ys := rfl
      have e2 : flatH ((y :: ys).take (n + 1)) = .int .u64 y.d :: .int .u64 y.i :: flatH (ys.take n) := rfl
      have h0 : (n + 1) * 2 = n * 2 + 2 := by omega
      rw [e, e2, h0, ← ih n]
      rfl

set_option maxRecDepth 100000 in
theorem XSearch_any (base : Nat) (v : Value) (l : List Nd) (aq : Option Addr) (cq : Nat) (q : List Int) (mask k : Int) (w : World) (hl : l.length ≤ 1000) (hO : w.ownsRow base 50 3 v l.length (flatI l)) (hV : ∀ n ∈ l, IntsAt .i32 w n.va n.vec ∧ n.Fits)
    (hq : IntsAt .i32 w aq q) (iq : I32s q) (hql : q.length ≤ 35184372088832) :
    Calls Tryz.prog 7 #[v, .slice aq q.length cq, .int .u64 mask, .int .i64 k] w (HitsPost (((sortSp (selOf q mask l)).map Sp.ht).take k.toNat) w) := by
  have H := Lib.hid (hits_any base v l aq cq q mask w hl hO hV hq iq hql)
  clear hO hV hq
  generalize (sortSp (selOf q mask l)).map Sp.ht = L at *
  go_enter Tryz.func7, Tryz.ntmps7
  go_wp2_with (first
    | (go_at_call 18; refine H.out.mono ?_; rintro e w1 ⟨v1, rfl, ho, hk⟩
       obtain ⟨a1, c1, rfl, hnone, hsome⟩ := own_slice ho
       have hcc := own_cap2 ho
       have hmx := own_max ho
       have HO := Lib.hid ho; have HK := Lib.hid hk; have HN := Lib.hid hnone; have HS := Lib.hid hsome
       clear ho hk hnone hsome))
  go_ret
  have e1 : (min (max k 0) (L.length : Int)).toNat = (L.take k.toNat).length := by rw [List.length_take]; omega
  refine ⟨_, rfl, ?_, HK.out⟩
  rcases a1 with _ | A
  · obtain ⟨h1, h2⟩ := HN.out rfl
    have h3 : L = [] := List.length_eq_zero_iff.1 h2
    subst h1; subst h3
    have e3 : (min (max k 0) (([] : List Ht).length : Int)).toNat = 0 := by simp; omega
    rw [show ∀ W : World, (Value.slice none (min (max k 0) (([] : List Ht).length : Int)).toNat 0) = Value.slice none 0 0 from fun _ => by rw [e3]] <;> first | exact w | simpa using HO.out
  · obtain ⟨g, rfl, -, -⟩ := HS.out A rfl
    have h := own_shrink HO.out (m := (L.take k.toNat).length) (by rw [List.length_take]; omega)
    rw [flatH_take, List.length_take] at h
    have e2 : L.take (min k.toNat L.length) = L.take k.toNat := by
      rcases Nat.le_total k.toNat L.length with h0 | h0
      · rw [Nat.min_eq_left h0]
      · rw [Nat.min_eq_right h0, List.take_length, List.take_of_length_le h0]
    rw [e2, ← List.length_take, ← e1] at h
    rw [← e1]
    exact h
end Go.Proofs.YtajbimmfkbgcpaaGreat
