/-
  plane.ring.
-/
import Derived.Test.YtajbimmfkbgcpaaGreatKRing
namespace Go.Proofs.YtajbimmfkbgcpaaGreat
open Go.RowKit


def bareOK (ns : List Nd) (k : Nat) : Prop := ∀ n, ns[k]? = some n → 0 < k → there ns (k : Int) = false → bareB n = true
def ringOK (ns : List Nd) (k : Nat) : Prop := ∀ n, ns[k]? = some n → (k = 0 ∨ there ns (k : Int) = true) → placeB ns n.next = true ∧ placeB ns n.prev = true ∧ ∃ x m, n.next = ((x : Nat) : Int) ∧ ns[x]? = some m ∧ m.prev = (k : Int)
/-- What plane.ring finds out, where it says yes. -/
structure RingGood (ns : List Nd) : Prop where
  bare : ∀ k, k < ns.length → bareOK ns k
  ring : ∀ k, k < ns.length → ringOK ns k
  all : ∃ (r : List Nat) (cur : Int), r.length = (live ns).length ∧ r.Nodup ∧ (∀ x ∈ r, there ns (x : Int) = true) ∧ Chain ns (nextOf ns 0) r cur
structure RingGood' (ns : List Nd) : Prop where
  bare : ∀ k, k < ns.length → bareOK ns k
  ring : ∀ k, k < ns.length → ringOK ns k
theorem nats_length (l : List Nat) : (nats l).length = l.length := by simp [nats]
theorem drew_kept (w : World) : Kept w w.drew := ⟨rfl, rfl, rfl, Nat.le_refl _, fun _ _ => rfl⟩
def ringPost (ns : List Nd) (w : World) (e : Ending) (w' : World) : Prop := ∃ bl, e = .returned (.bool bl) ∧ Kept w w' ∧ (bl = true → RingGood ns)

/-- A number that may stand in the ring is the place of a node. -/
theorem place_node {ns : List Nd} {s : Int} (h0 : 0 < ns.length) (h : placeB ns s = true) : ∃ (x : Nat) (m : Nd), s = (x : Int) ∧ ns[x]? = some m := by
  unfold placeB at h
  simp only [Bool.or_eq_true, decide_eq_true_eq] at h
  rcases h with h | h
  · exact ⟨0, ns[0], by omega, List.getElem?_eq_getElem h0⟩
  · have := there_lt h
    obtain ⟨x, rfl⟩ := Int.eq_ofNat_of_zero_le (Int.le_of_lt this.1)
    exact ⟨x, ns[x]'(by omega), rfl, List.getElem?_eq_getElem (by omega)⟩

set_option maxRecDepth 100000 in
set_option maxHeartbeats 2000000 in
theorem ring_any (a : Option Addr) (ns : List Nd) (cap : Nat) (en tp : Int) (w : World) (hm : ns.length ≤ 4398046511104) (hN : NodesAt w a ns) :
    Calls Tryz.prog 14 #[PlaneV a ns.length cap en tp] w (ringPost ns w) := by
  have HN := Lib.hid hN; clear hN
  go_enter Tryz.func14, Tryz.ntmps14
  go_wp2_with fail
  go_loopw [11] (fun i wr => ∃ k : Nat, k ≤ ns.length ∧ i = .int .i64 (k : Int) ∧ Hid (Below (w.heap.size + 1) (w.alloc (.cells #[.slice a ns.length cap, .int .i64 en, .int .i64 tp] 24)) wr) ∧ Hid (∀ j, j < k → bareOK ns j ∧ ringOK ns j)) (fun i _ => ns.length - (intOf i).toNat)
  case atStart => exact ⟨0, Nat.zero_le _, rfl, Below.refl _ _, fun j hj => absurd hj (by omega)⟩
  case round =>
    obtain ⟨k, hk, rfl, HB, HG⟩ := hrel
    by_cases hlk : k < ns.length
    · obtain ⟨n, hn⟩ : ∃ n, ns[k]? = some n := ⟨ns[k]'(by omega), List.getElem?_eq_getElem (by omega)⟩
      have hkw : Kept w wr := ((Kept.rfl' w).alloc (Nat.le_refl _) _).trans (HB.out.mono (by omega))
      have hNr := HN.out.keep hkw
      obtain ⟨b, o, rfl, hlt, hc, -, -, -⟩ := hNr k n hn
      have q0 := hc 0 _ rfl
      have q1 := hc 1 _ rfl
      have q2 := hc 2 _ rfl
      have q3 := hc 3 _ rfl
      have q4 := hc 4 _ rfl
      have q5 := hc 5 _ rfl
      have q6 := hc 6 _ rfl
      simp only [Nat.add_zero] at q0
      have hw0 : Kept (wr.alloc (.cells #[.int .u64 n.id, .slice n.va n.vec.length n.vc, .int .u64 n.tags, .int .i64 n.level, .slice n.la n.lists.length n.lc, .int .i64 n.next, .int .i64 n.prev] 53)) (wr.alloc (.cells #[.int .u64 n.id, .slice n.va n.vec.length n.vc, .int .u64 n.tags, .int .i64 n.level, .slice n.la n.lists.length n.lc, .int .i64 n.next, .int .i64 n.prev] 53)) := Kept.rfl' _
      have hsz : w.heap.size < wr.heap.size := by have := HB.out.size; rw [alloc_size] at this; omega
      have hkw1 : Kept wr (wr.alloc (.cells #[.int .u64 n.id, .slice n.va n.vec.length n.vc, .int .u64 n.tags, .int .i64 n.level, .slice n.la n.lists.length n.lc, .int .i64 n.next, .int .i64 n.prev] 53)) := (Kept.rfl' wr).alloc (Nat.le_refl _) _
      have hpb : PBox wr w.heap.size (some ⟨b, o, none⟩) ns.length cap en tp := by
        have h1 := PBox.new w (some ⟨b, o, none⟩) ns.length cap en tp 24
        have hb' := HB.out
        exact ⟨(hb'.cell (p := ⟨w.heap.size, 0, none⟩) (by simp)).trans h1.c0, (hb'.cell (p := ⟨w.heap.size, 1, none⟩) (by simp)).trans h1.c1, (hb'.cell (p := ⟨w.heap.size, 2, none⟩) (by simp)).trans h1.c2⟩
      have hpbW : ∀ W, Kept (wr.alloc (.cells #[.int .u64 n.id, .slice n.va n.vec.length n.vc, .int .u64 n.tags, .int .i64 n.level, .slice n.la n.lists.length n.lc, .int .i64 n.next, .int .i64 n.prev] 53)) W → PBox W w.heap.size (some ⟨b, o, none⟩) ns.length cap en tp := fun W h => hpb.keep (hkw1.trans h)
      have hP : ∀ s W, Kept (wr.alloc (.cells #[.int .u64 n.id, .slice n.va n.vec.length n.vc, .int .u64 n.tags, .int .i64 n.level, .slice n.la n.lists.length n.lc, .int .i64 n.next, .int .i64 n.prev] 53)) W → Calls Tryz.prog 32 #[.int .i64 s, .pointer (some ⟨w.heap.size, 0, none⟩)] W fun e w' => e = .returned (.bool (placeB ns s)) ∧ Kept (wr.alloc (.cells #[.int .u64 n.id, .slice n.va n.vec.length n.vc, .int .u64 n.tags, .int .i64 n.level, .slice n.la n.lists.length n.lc, .int .i64 n.next, .int .i64 n.prev] 53)) w' :=
        fun s W h => (place_slot _ _ ns cap en tp s W (hNr.keep (hkw1.trans h)) (hpbW W h)).mono fun e w' hh => ⟨hh.1, h.trans hh.2⟩
      have hT := Lib.hid (fun W (h : Kept (wr.alloc (.cells #[.int .u64 n.id, .slice n.va n.vec.length n.vc, .int .u64 n.tags, .int .i64 n.level, .slice n.la n.lists.length n.lc, .int .i64 n.next, .int .i64 n.prev] 53)) W) => (There_any (some ⟨b, o, none⟩) ns cap en tp k W (hNr.keep (hkw1.trans h))).mono fun e w' hh => (⟨hh.1, h.trans hh.2⟩ : e = .returned (.bool (there ns k)) ∧ Kept (wr.alloc (.cells #[.int .u64 n.id, .slice n.va n.vec.length n.vc, .int .u64 n.tags, .int .i64 n.level, .slice n.la n.lists.length n.lc, .int .i64 n.next, .int .i64 n.prev] 53)) w'))
      have hBr := Lib.hid (fun W (h : Kept (wr.alloc (.cells #[.int .u64 n.id, .slice n.va n.vec.length n.vc, .int .u64 n.tags, .int .i64 n.level, .slice n.la n.lists.length n.lc, .int .i64 n.next, .int .i64 n.prev] 53)) W) => (bare_any n W).mono fun e w' hh => (⟨hh.1, h.trans hh.2⟩ : e = .returned (.bool (bareB n)) ∧ Kept (wr.alloc (.cells #[.int .u64 n.id, .slice n.va n.vec.length n.vc, .int .u64 n.tags, .int .i64 n.level, .slice n.la n.lists.length n.lc, .int .i64 n.next, .int .i64 n.prev] 53)) w'))
      have hcell : ∀ (W : World) (j : Nat) (v : Value), Kept (wr.alloc (.cells #[.int .u64 n.id, .slice n.va n.vec.length n.vc, .int .u64 n.tags, .int .i64 n.level, .slice n.la n.lists.length n.lc, .int .i64 n.next, .int .i64 n.prev] 53)) W → (wr.alloc (.cells #[.int .u64 n.id, .slice n.va n.vec.length n.vc, .int .u64 n.tags, .int .i64 n.level, .slice n.la n.lists.length n.lc, .int .i64 n.next, .int .i64 n.prev] 53)).cell? ⟨wr.heap.size, j, none⟩ = some v → W.cell? ⟨wr.heap.size, j, none⟩ = some v := fun W j v h hv => (h.cell (p := ⟨wr.heap.size, j, none⟩) (by simp)).trans hv
      have n0 : ∀ W, Kept (wr.alloc (.cells #[.int .u64 n.id, .slice n.va n.vec.length n.vc, .int .u64 n.tags, .int .i64 n.level, .slice n.la n.lists.length n.lc, .int .i64 n.next, .int .i64 n.prev] 53)) W → W.cell? ⟨wr.heap.size, 0, none⟩ = some (.int .u64 n.id) := fun W h => hcell W 0 _ h (by simp)
      have n1 : ∀ W, Kept (wr.alloc (.cells #[.int .u64 n.id, .slice n.va n.vec.length n.vc, .int .u64 n.tags, .int .i64 n.level, .slice n.la n.lists.length n.lc, .int .i64 n.next, .int .i64 n.prev] 53)) W → W.cell? ⟨wr.heap.size, 1, none⟩ = some (.slice n.va n.vec.length n.vc) := fun W h => hcell W 1 _ h (by simp)
      have n2 : ∀ W, Kept (wr.alloc (.cells #[.int .u64 n.id, .slice n.va n.vec.length n.vc, .int .u64 n.tags, .int .i64 n.level, .slice n.la n.lists.length n.lc, .int .i64 n.next, .int .i64 n.prev] 53)) W → W.cell? ⟨wr.heap.size, 2, none⟩ = some (.int .u64 n.tags) := fun W h => hcell W 2 _ h (by simp)
      have n3 : ∀ W, Kept (wr.alloc (.cells #[.int .u64 n.id, .slice n.va n.vec.length n.vc, .int .u64 n.tags, .int .i64 n.level, .slice n.la n.lists.length n.lc, .int .i64 n.next, .int .i64 n.prev] 53)) W → W.cell? ⟨wr.heap.size, 3, none⟩ = some (.int .i64 n.level) := fun W h => hcell W 3 _ h (by simp)
      have n4 : ∀ W, Kept (wr.alloc (.cells #[.int .u64 n.id, .slice n.va n.vec.length n.vc, .int .u64 n.tags, .int .i64 n.level, .slice n.la n.lists.length n.lc, .int .i64 n.next, .int .i64 n.prev] 53)) W → W.cell? ⟨wr.heap.size, 4, none⟩ = some (.slice n.la n.lists.length n.lc) := fun W h => hcell W 4 _ h (by simp)
      have n5 : ∀ W, Kept (wr.alloc (.cells #[.int .u64 n.id, .slice n.va n.vec.length n.vc, .int .u64 n.tags, .int .i64 n.level, .slice n.la n.lists.length n.lc, .int .i64 n.next, .int .i64 n.prev] 53)) W → W.cell? ⟨wr.heap.size, 5, none⟩ = some (.int .i64 n.next) := fun W h => hcell W 5 _ h (by simp)
      have n6 : ∀ W, Kept (wr.alloc (.cells #[.int .u64 n.id, .slice n.va n.vec.length n.vc, .int .u64 n.tags, .int .i64 n.level, .slice n.la n.lists.length n.lc, .int .i64 n.next, .int .i64 n.prev] 53)) W → W.cell? ⟨wr.heap.size, 6, none⟩ = some (.int .i64 n.prev) := fun W h => hcell W 6 _ h (by simp)
      have p0 := fun W h => (hpbW W h).c0
      have p1 := fun W h => (hpbW W h).c1
      have p2 := fun W h => (hpbW W h).c2
      have hK : Hid (∀ W, Kept (wr.alloc (.cells #[.int .u64 n.id, .slice n.va n.vec.length n.vc, .int .u64 n.tags, .int .i64 n.level, .slice n.la n.lists.length n.lc, .int .i64 n.next, .int .i64 n.prev] 53)) W → Kept w W) := fun W h => (hkw.trans hkw1).trans h
      have hBel : Hid (∀ W, Kept (wr.alloc (.cells #[.int .u64 n.id, .slice n.va n.vec.length n.vc, .int .u64 n.tags, .int .i64 n.level, .slice n.la n.lists.length n.lc, .int .i64 n.next, .int .i64 n.prev] 53)) W → Hid (Below (w.heap.size + 1) (w.alloc (.cells #[.slice (some ⟨b, o, none⟩) ns.length cap, .int .i64 en, .int .i64 tp] 24)) W)) := fun W h => HB.out.trans ((hkw1.trans h).mono (by omega))
      have hback : placeB ns n.next = true → ∃ (x : Nat) (m : Nd), n.next = (x : Int) ∧ ns[x]? = some m ∧ ∀ W, Kept (wr.alloc (.cells #[.int .u64 n.id, .slice n.va n.vec.length n.vc, .int .u64 n.tags, .int .i64 n.level, .slice n.la n.lists.length n.lc, .int .i64 n.next, .int .i64 n.prev] 53)) W → W.cell? ⟨b, o + x * 7 + 6, none⟩ = some (.int .i64 m.prev) := fun h => by
        obtain ⟨x, m, hx, hm⟩ := place_node (by omega) h
        refine ⟨x, m, hx, hm, fun W hW => ?_⟩
        obtain ⟨b', o', hbo, _, hc', -, -, -⟩ := hNr.keep (hkw1.trans hW) x m hm
        obtain ⟨rfl, rfl⟩ : b' = b ∧ o' = o := by injection hbo with h; injection h with h1 h2; exact ⟨h1.symm, h2.symm⟩
        exact hc' 6 _ rfl
      have hgoodA : (k = 0 ∨ there ns (k : Int) = true) → placeB ns n.next = true → placeB ns n.prev = true → ∀ x m, n.next = ((x : Nat) : Int) → ns[x]? = some m → m.prev = (k : Int) → Hid (∀ j, j < k + 1 → bareOK ns j ∧ ringOK ns j) := fun h0 h1 h2 x m hx hm hp j hj => by
        by_cases e : j = k
        · subst e
          refine ⟨fun n' hn' hpos hnt => ?_, fun n' hn' _ => ?_⟩
          · rcases h0 with h0 | h0
            · omega
            · rw [h0] at hnt; cases hnt
          · obtain rfl : n' = n := Option.some.inj (hn'.symm.trans hn)
            exact ⟨h1, h2, x, m, hx, hm, hp⟩
        · exact HG.out j (by omega)
      have hgoodB : 0 < k → there ns (k : Int) = false → bareB n = true → Hid (∀ j, j < k + 1 → bareOK ns j ∧ ringOK ns j) := fun h0 h1 h2 j hj => by
        by_cases e : j = k
        · subst e
          refine ⟨fun n' hn' _ _ => ?_, fun n' hn' h => ?_⟩
          · obtain rfl : n' = n := Option.some.inj (hn'.symm.trans hn)
            exact h2
          · rcases h with h | h
            · omega
            · rw [h1] at h; cases h
        · exact HG.out j (by omega)
      clear hc hNr hn hpb hpbW hcell hkw hkw1 HG HB HN
      by_cases hk0 : k = 0
      · replace hgoodA := hgoodA (.inl hk0)
        have hk00 : (k : Int) ≤ 0 := by omega
        have Hth := Lib.hid (rfl : there ns 0 = there ns 0)
        clear hk0
        clear hgoodB
        cases hp1 : placeB ns n.next with
        | false =>
          have hP1 := Lib.hid (fun W h => hp1 ▸ hP n.next W h)
          have hP2 := Lib.hid (fun W h => hP n.prev W h)
          clear hP hp1 hgoodA
          go_wp2_with (first  | (go_at_call 17; refine (hT.out _ (by assumption)).mono ?_; rw [Hth.out]; rintro e w2 ⟨rfl, hw2⟩)  | (go_at_call_of 32 (Value.int .i64 n.next); refine (hP1.out _ (by assumption)).mono ?_; rintro e w2 ⟨rfl, hw2⟩)  | (go_at_call_of 32 (Value.int .i64 n.prev); refine (hP2.out _ (by assumption)).mono ?_; rintro e w2 ⟨rfl, hw2⟩)  | (go_at_call 31; refine (hBr.out _ (by assumption)).mono ?_; rintro e w2 ⟨rfl, hw2⟩))
          go_ret
          exact ⟨_, rfl, hK.out _ (by assumption), fun h => absurd h Bool.false_ne_true⟩
        | true =>
          have hP1 := Lib.hid (fun W h => hp1 ▸ hP n.next W h)
          cases hp2 : placeB ns n.prev with
          | false =>
            have hP2 := Lib.hid (fun W h => hp2 ▸ hP n.prev W h)
            clear hP hp1 hp2 hgoodA
            go_wp2_with (first  | (go_at_call 17; refine (hT.out _ (by assumption)).mono ?_; rw [Hth.out]; rintro e w2 ⟨rfl, hw2⟩)  | (go_at_call_of 32 (Value.int .i64 n.next); refine (hP1.out _ (by assumption)).mono ?_; rintro e w2 ⟨rfl, hw2⟩)  | (go_at_call_of 32 (Value.int .i64 n.prev); refine (hP2.out _ (by assumption)).mono ?_; rintro e w2 ⟨rfl, hw2⟩)  | (go_at_call 31; refine (hBr.out _ (by assumption)).mono ?_; rintro e w2 ⟨rfl, hw2⟩))
            go_ret
            exact ⟨_, rfl, hK.out _ (by assumption), fun h => absurd h Bool.false_ne_true⟩
          | true =>
            have hP2 := Lib.hid (fun W h => hp2 ▸ hP n.prev W h)
            obtain ⟨x, m, hx, hm, hmc⟩ := hback hp1
            have hxl : x < ns.length := (List.getElem?_eq_some_iff.1 hm).1
            have Hx := Lib.hid hx
            by_cases hbk : m.prev = (k : Int)
            · have hgood := hgoodA hp1 hp2 x m hx hm hbk
              have hd : (m.prev == (k : Int)) = true := by simpa using hbk
              clear hP hp1 hp2 hgoodA hback hx hm hbk
              generalize n.next = nx at *
              obtain rfl := Hx.out
              go_wp2_with (first  | (go_at_call 17; refine (hT.out _ (by assumption)).mono ?_; rw [Hth.out]; rintro e w2 ⟨rfl, hw2⟩)  | (go_at_call_of 32 (Value.int .i64 (x : Int)); refine (hP1.out _ (by assumption)).mono ?_; rintro e w2 ⟨rfl, hw2⟩)  | (go_at_call_of 32 (Value.int .i64 n.prev); refine (hP2.out _ (by assumption)).mono ?_; rintro e w2 ⟨rfl, hw2⟩)  | (go_at_call 31; refine (hBr.out _ (by assumption)).mono ?_; rintro e w2 ⟨rfl, hw2⟩))
              go_roundw
              case rel => exact ⟨k + 1, by omega, by go_num, hBel.out _ (by assumption), hgood⟩
              case measure => simp [intOf]; omega
            · have hd : (m.prev == (k : Int)) = false := by simpa using hbk
              clear hP hp1 hp2 hgoodA hback hx hm hbk
              generalize n.next = nx at *
              obtain rfl := Hx.out
              go_wp2_with (first  | (go_at_call 17; refine (hT.out _ (by assumption)).mono ?_; rw [Hth.out]; rintro e w2 ⟨rfl, hw2⟩)  | (go_at_call_of 32 (Value.int .i64 (x : Int)); refine (hP1.out _ (by assumption)).mono ?_; rintro e w2 ⟨rfl, hw2⟩)  | (go_at_call_of 32 (Value.int .i64 n.prev); refine (hP2.out _ (by assumption)).mono ?_; rintro e w2 ⟨rfl, hw2⟩)  | (go_at_call 31; refine (hBr.out _ (by assumption)).mono ?_; rintro e w2 ⟨rfl, hw2⟩))
              go_ret
              exact ⟨_, rfl, hK.out _ (by assumption), fun h => absurd h Bool.false_ne_true⟩
      · have hkp : 0 < k := by omega
        cases hth : there ns (k : Int) with
        | true =>
          replace hgoodA := hgoodA (.inr hth)
          have Hth := Lib.hid hth
          clear hth hgoodB
          cases hp1 : placeB ns n.next with
          | false =>
            have hP1 := Lib.hid (fun W h => hp1 ▸ hP n.next W h)
            have hP2 := Lib.hid (fun W h => hP n.prev W h)
            clear hP hp1 hgoodA
            go_wp2_with (first  | (go_at_call 17; refine (hT.out _ (by assumption)).mono ?_; rw [Hth.out]; rintro e w2 ⟨rfl, hw2⟩)  | (go_at_call_of 32 (Value.int .i64 n.next); refine (hP1.out _ (by assumption)).mono ?_; rintro e w2 ⟨rfl, hw2⟩)  | (go_at_call_of 32 (Value.int .i64 n.prev); refine (hP2.out _ (by assumption)).mono ?_; rintro e w2 ⟨rfl, hw2⟩)  | (go_at_call 31; refine (hBr.out _ (by assumption)).mono ?_; rintro e w2 ⟨rfl, hw2⟩))
            go_ret
            exact ⟨_, rfl, hK.out _ (by assumption), fun h => absurd h Bool.false_ne_true⟩
          | true =>
            have hP1 := Lib.hid (fun W h => hp1 ▸ hP n.next W h)
            cases hp2 : placeB ns n.prev with
            | false =>
              have hP2 := Lib.hid (fun W h => hp2 ▸ hP n.prev W h)
              clear hP hp1 hp2 hgoodA
              go_wp2_with (first  | (go_at_call 17; refine (hT.out _ (by assumption)).mono ?_; rw [Hth.out]; rintro e w2 ⟨rfl, hw2⟩)  | (go_at_call_of 32 (Value.int .i64 n.next); refine (hP1.out _ (by assumption)).mono ?_; rintro e w2 ⟨rfl, hw2⟩)  | (go_at_call_of 32 (Value.int .i64 n.prev); refine (hP2.out _ (by assumption)).mono ?_; rintro e w2 ⟨rfl, hw2⟩)  | (go_at_call 31; refine (hBr.out _ (by assumption)).mono ?_; rintro e w2 ⟨rfl, hw2⟩))
              go_ret
              exact ⟨_, rfl, hK.out _ (by assumption), fun h => absurd h Bool.false_ne_true⟩
            | true =>
              have hP2 := Lib.hid (fun W h => hp2 ▸ hP n.prev W h)
              obtain ⟨x, m, hx, hm, hmc⟩ := hback hp1
              have hxl : x < ns.length := (List.getElem?_eq_some_iff.1 hm).1
              have Hx := Lib.hid hx
              by_cases hbk : m.prev = (k : Int)
              · have hgood := hgoodA hp1 hp2 x m hx hm hbk
                have hd : (m.prev == (k : Int)) = true := by simpa using hbk
                clear hP hp1 hp2 hgoodA hback hx hm hbk
                generalize n.next = nx at *
                obtain rfl := Hx.out
                go_wp2_with (first  | (go_at_call 17; refine (hT.out _ (by assumption)).mono ?_; rw [Hth.out]; rintro e w2 ⟨rfl, hw2⟩)  | (go_at_call_of 32 (Value.int .i64 (x : Int)); refine (hP1.out _ (by assumption)).mono ?_; rintro e w2 ⟨rfl, hw2⟩)  | (go_at_call_of 32 (Value.int .i64 n.prev); refine (hP2.out _ (by assumption)).mono ?_; rintro e w2 ⟨rfl, hw2⟩)  | (go_at_call 31; refine (hBr.out _ (by assumption)).mono ?_; rintro e w2 ⟨rfl, hw2⟩))
                go_roundw
                case rel => exact ⟨k + 1, by omega, by go_num, hBel.out _ (by assumption), hgood⟩
                case measure => simp [intOf]; omega
              · have hd : (m.prev == (k : Int)) = false := by simpa using hbk
                clear hP hp1 hp2 hgoodA hback hx hm hbk
                generalize n.next = nx at *
                obtain rfl := Hx.out
                go_wp2_with (first  | (go_at_call 17; refine (hT.out _ (by assumption)).mono ?_; rw [Hth.out]; rintro e w2 ⟨rfl, hw2⟩)  | (go_at_call_of 32 (Value.int .i64 (x : Int)); refine (hP1.out _ (by assumption)).mono ?_; rintro e w2 ⟨rfl, hw2⟩)  | (go_at_call_of 32 (Value.int .i64 n.prev); refine (hP2.out _ (by assumption)).mono ?_; rintro e w2 ⟨rfl, hw2⟩)  | (go_at_call 31; refine (hBr.out _ (by assumption)).mono ?_; rintro e w2 ⟨rfl, hw2⟩))
                go_ret
                exact ⟨_, rfl, hK.out _ (by assumption), fun h => absurd h Bool.false_ne_true⟩
        | false =>
          have hgoodB := hgoodB hkp hth
          have Hth := Lib.hid hth
          have hP1 := Lib.hid (fun W h => hP n.next W h)
          have hP2 := Lib.hid (fun W h => hP n.prev W h)
          clear hth hP hgoodA hback
          cases hbr : bareB n with
          | false =>
            replace hBr := Lib.hid (fun W h => hbr ▸ hBr.out W h)
            clear hgoodB hbr
            go_wp2_with (first  | (go_at_call 17; refine (hT.out _ (by assumption)).mono ?_; rw [Hth.out]; rintro e w2 ⟨rfl, hw2⟩)  | (go_at_call_of 32 (Value.int .i64 n.next); refine (hP1.out _ (by assumption)).mono ?_; rintro e w2 ⟨rfl, hw2⟩)  | (go_at_call_of 32 (Value.int .i64 n.prev); refine (hP2.out _ (by assumption)).mono ?_; rintro e w2 ⟨rfl, hw2⟩)  | (go_at_call 31; refine (hBr.out _ (by assumption)).mono ?_; rintro e w2 ⟨rfl, hw2⟩))
            go_ret
            exact ⟨_, rfl, hK.out _ (by assumption), fun h => absurd h Bool.false_ne_true⟩
          | true =>
            have hgood := hgoodB hbr
            replace hBr := Lib.hid (fun W h => hbr ▸ hBr.out W h)
            clear hgoodB hbr
            go_wp2_with (first  | (go_at_call 17; refine (hT.out _ (by assumption)).mono ?_; rw [Hth.out]; rintro e w2 ⟨rfl, hw2⟩)  | (go_at_call_of 32 (Value.int .i64 n.next); refine (hP1.out _ (by assumption)).mono ?_; rintro e w2 ⟨rfl, hw2⟩)  | (go_at_call_of 32 (Value.int .i64 n.prev); refine (hP2.out _ (by assumption)).mono ?_; rintro e w2 ⟨rfl, hw2⟩)  | (go_at_call 31; refine (hBr.out _ (by assumption)).mono ?_; rintro e w2 ⟨rfl, hw2⟩))
            go_roundw
            case rel => exact ⟨k + 1, by omega, by go_num, hBel.out _ (by assumption), hgood⟩
            case measure => simp [intOf]; omega
    · obtain rfl : k = ns.length := by omega
      have hkw : Kept w wr := ((Kept.rfl' w).alloc (Nat.le_refl _) _).trans (HB.out.mono (by omega))
      have hNr := HN.out.keep hkw
      have hsz : w.heap.size < wr.heap.size := by have := HB.out.size; rw [alloc_size] at this; omega
      have hpb : PBox wr w.heap.size a ns.length cap en tp := by
        have h1 := PBox.new w a ns.length cap en tp 24
        have hb' := HB.out
        exact ⟨(hb'.cell (p := ⟨w.heap.size, 0, none⟩) (by simp)).trans h1.c0, (hb'.cell (p := ⟨w.heap.size, 1, none⟩) (by simp)).trans h1.c1, (hb'.cell (p := ⟨w.heap.size, 2, none⟩) (by simp)).trans h1.c2⟩
      have hpbW : ∀ W, Kept wr W → PBox W w.heap.size a ns.length cap en tp := fun W h => hpb.keep h
      have hR := Lib.hid (fun W (h : Kept wr W) => Ring_any a ns cap en tp W hm (hNr.keep h))
      have hL := Lib.hid (fun W (h : Kept wr W) => Live_any a ns cap en tp W hm (hNr.keep h))
      have hG : RingGood' ns := ⟨fun j hj => (HG.out j hj).1, fun j hj => (HG.out j hj).2⟩
      have HGd := Lib.hid hG
      have Hkw := Lib.hid hkw
      have HP := Lib.hid hpbW
      have hw0 := Lib.hid (Kept.rfl' wr)
      obtain ⟨p0, p1, p2⟩ := hpb
      clear hNr hpbW hG HB HG HN hkw
      go_wp2_with fail
      go_region_held3 (fun w' => w'.cell? ⟨w.heap.size, 0, none⟩ = some (.slice a ns.length cap) ∧ w'.cell? ⟨w.heap.size, 1, none⟩ = some (.int .i64 en) ∧ w'.cell? ⟨w.heap.size, 2, none⟩ = some (.int .i64 tp))
        (first | exact ⟨p0, p1, p2⟩ | go_keep | exact ⟨(HP.out _ (by assumption)).c0, (HP.out _ (by assumption)).c1, (HP.out _ (by assumption)).c2⟩)
        (first
          | (go_at_call 33; refine (hR.out _ (drew_kept _)).mono ?_; rintro e w1 ⟨v1, r, rfl, hown1, hk1, hnd, hth, hch⟩; obtain ⟨a1, c1, rfl, -, -⟩ := ints_of_own hown1; rw [nats_length]; have hk1' := Kept.trans (drew_kept wr) hk1; clear hown1 hk1)
          | (go_at_call 15; refine (hL.out _ (by assumption)).mono ?_; rintro e w2 ⟨v2, rfl, hown2, hk2⟩; obtain ⟨a2, c2, rfl, -, -⟩ := ints_of_own hown2; rw [nats_length]; have hk2' := Kept.trans hk1' hk2; clear hown2 hk2))
      go_wp2
      go_ret
      refine ⟨_, rfl, Kept.trans Hkw.out (by assumption), fun h => ⟨HGd.out.1, HGd.out.2, r, ?_⟩⟩
      obtain ⟨cur, hch⟩ := hch
      exact ⟨cur, by simp at h; omega, hnd, hth, hch⟩
end Go.Proofs.YtajbimmfkbgcpaaGreat
