/-
  Maps by hits: what the model does with such keys; maps that count and never lose a key.
  recall.first, set, Count.
  recall.Count, held, permille, Permille, Missing's own closure.
  recall.Missing: how many are missing.
  recall.Missing: how many are missing.
  recall.Behind, where nothing is behind.
-/
import Derived.Test.YtajbimmfkbgcpaaGreatKExact
import Derived.Laws.StructEq
import Derived.DeepKeys3
import Derived.Test.YtajbimmfkbgcpaaGreatKMaps
import Derived.Test.YtajbimmfkbgcpaaGreatKBits
/- Maps by hits: what the model does with such keys; maps that count and never lose a key. -/
namespace Go.Proofs.YtajbimmfkbgcpaaGreat
open Go.RowKit

abbrev Ht.val (x : Ht) : Value := .agg #[.int .u64 x.d, .int .u64 x.i]

theorem Tryz.eqHit (x y : Ht) (w : World) : (Op.equal 42 x.val y.val).run Tryz.prog w = .ok (decide (x = y)) w := by
  have u26 := Tryz.underlying26
  have a26 := Tryz.isAgg26
  have z26 := Tryz.sizeOf26
  have hS : Tryz.prog.underlying 42 = some (.struct (Tryz.prog.fieldsOf 42)) := by kernel_rfl
  have hp : Tryz.prog.stoodInHeld 42 = false := by kernel_rfl
  unfold Op.equal Op.maxDepth
  rw [show (10000 : Nat) = 9999 + 1 from rfl, run_equalIn_struct w 9999 42 _ _ hS hp]
  simp only [Program.fieldsOf, Tryz.underlying42]
  go_simp
  by_cases h1 : x.d = y.d <;> by_cases h2 : x.i = y.i <;> cases x <;> cases y <;> simp_all
theorem Tryz.findHit (x : Ht) (w : World) : ∀ (m : List (Ht × Value)) (es : List MapEntry) (i : Nat), es.map (fun e => (e.key, e.val)) = m.map (fun p => (p.1.val, p.2)) → (Instr.findAsking 42 x.val es i).run Tryz.prog w = .ok (lookFrom x m i) w
  | [], [], i, _ => by simp [Instr.findAsking, lookFrom]
  | [], _ :: _, i, h => by simp at h
  | _ :: _, [], i, h => by simp at h
  | p :: m, e :: es, i, h => by
    simp only [List.map_cons, List.cons.injEq, Prod.mk.injEq] at h
    obtain ⟨⟨h1, h2⟩, h3⟩ := h
    unfold Instr.findAsking lookFrom
    rw [h1]
    simp only [Sem.run_bind, Tryz.eqHit, Result.andThen_ok]
    by_cases hx : x = p.1
    · simp [hx, h2]
    · simp only [hx, decide_false, Bool.false_eq_true, if_false]
      exact Tryz.findHit x w m es (i + 1) h3
theorem Tryz.keyHit : KeyT Tryz.prog 42 Ht.val where
  check empty x w := by
    have u26 := Tryz.underlying26
    have a26 := Tryz.isAgg26
    have z26 := Tryz.sizeOf26
    have h1 : ∀ y : Int, (Instr.checkKey empty 9999 26 (.int .u64 y)).run Tryz.prog w = .ok () w := fun y => by
      have : ∀ n, (Instr.checkKey empty (n + 1) 26 (.int .u64 y)).run Tryz.prog w = .ok () w := fun n => by simp [Instr.checkKey, run_underlying u26]
      exact this 9998
    rw [show (10000 : Nat) = 9999 + 1 from rfl, Instr.checkKey]
    simp only [Sem.run_bind, run_underlying Tryz.underlying42, Result.andThen_ok]
    rw [← Array.forIn_toList]
    simp only [List.forIn_cons, List.forIn_nil]
    go_simp
  find x m es he w := by
    have := Tryz.findHit x w m es 0 he
    unfold Instr.findKey
    simp only [Sem.run_bind, run_underlying Tryz.underlying42, Result.andThen_ok]
    cases es with
    | nil =>
      cases m with
      | nil => simp [Instr.findNow, lookFrom]
      | cons p m => simp at he
    | cons e es =>
      simp only [Instr.findNow, Instr.sameNow]
      exact this
  same x := by
    have : ∀ n, Instr.sameBits (n + 1) x.val x.val = true := fun n => by simp [Instr.sameBits]
    exact this 9999
end Go.Proofs.YtajbimmfkbgcpaaGreat

/- recall.first, set, Count. -/
namespace Go.Proofs.YtajbimmfkbgcpaaGreat
open Go.RowKit

def SliceHits (hs : List Ht) (base : Nat) (w : World) (e : Ending) (w' : World) : Prop :=
  ∃ v', e = .returned v' ∧ w.ownsRow base 42 2 v' hs.length (flatH hs) ∧ w = w'
set_option maxRecDepth 100000 in
theorem RFirst_any (base : Nat) (v : Value) (L : List Ht) (k : Int) (w : World) (hl : L.length ≤ 1000000) (hO : w.ownsRow base 42 2 v L.length (flatH L)) :
    Calls Tryz.prog 21 #[v, .int .i64 k] w (SliceHits (L.take k.toNat) base w) := by
  obtain ⟨a1, c1, rfl, hnone, hsome⟩ := own_slice hO
  have hcc := own_cap2 hO
  have hmx := own_max hO
  have HO := Lib.hid hO; have HN := Lib.hid hnone; have HS := Lib.hid hsome
  clear hO hnone hsome
  go_enter Tryz.func21, Tryz.ntmps21
  go_wp2
  go_ret
  have e1 : (min (max k 0) (L.length : Int)).toNat = (L.take k.toNat).length := by rw [List.length_take]; omega
  refine ⟨_, rfl, ?_, rfl⟩
  rcases a1 with _ | A
  · obtain ⟨h1, h2⟩ := HN.out rfl
    have h3 : L = [] := List.length_eq_zero_iff.1 h2
    subst h1; subst h3
    have e3 : (min (max k 0) (([] : List Ht).length : Int)).toNat = 0 := by simp; omega
    rw [show ∀ W : World, (Value.slice none (min (max k 0) (([] : List Ht).length : Int)).toNat 0) = Value.slice none 0 0 from fun _ => by rw [e3]] <;> first | exact w | simpa using HO.out
  · obtain ⟨g, rfl, -, -⟩ := HS.out A rfl
    have h := own_shrink HO.out (m := (L.take k.toNat).length) (by rw [List.length_take]; omega)
    rw [flatH_take, List.length_take] at h
    have e2 : L.take (min k.toNat L.length) = L.take k.toNat := by
      rcases Nat.le_total k.toNat L.length with h0 | h0
      · rw [Nat.min_eq_left h0]
      · rw [Nat.min_eq_right h0, List.take_length, List.take_of_length_le h0]
    rw [e2, ← List.length_take, ← e1] at h
    rw [← e1]
    exact h

def SetRel (L : List Ht) (w : World) (i : Value) (wr : World) : Prop :=
  ∃ j : Nat, j ≤ L.length ∧ i = .int .i64 (j : Int) ∧ Hid (MapSt wr w.heap.size Ht.val (cntM (L.take j)) ∧ Kept w wr)
def SetPost (L : List Ht) (w : World) (e : Ending) (w' : World) : Prop :=
  ∃ b, e = .returned (.map (some b)) ∧ w.heap.size ≤ b ∧ MapSt w' b Ht.val (cntM L) ∧ Kept w w'
theorem kept_only {w w1 w2 : World} {b : Nat} (h : Kept w w1) (o : Only b w1 w2) (hb : w.heap.size ≤ b) : Kept w w2 := Below.trans h (o.below hb)
set_option maxRecDepth 100000 in
set_option maxHeartbeats 400000 in
theorem RSet_any (base : Nat) (v : Value) (L : List Ht) (w : World) (hl : L.length ≤ 1000000) (hO : w.ownsRow base 42 2 v L.length (flatH L)) :
    Calls Tryz.prog 20 #[v] w (SetPost L w) := by
  obtain ⟨al, cl, rfl, hnone, hsome⟩ := own_slice hO
  have HO := Lib.hid hO; have HS := Lib.hid hsome
  clear hO hnone hsome
  have hmm := @run_makeMap Tryz.prog
  go_enter Tryz.func20, Tryz.ntmps20
  go_wp2_with fail
  clear hmm
  go_loopw [9] (SetRel L w) (fun i _ => L.length - (intOf i).toNat)
  case atStart => exact ⟨0, Nat.zero_le _, rfl, MapSt.new w _, kept_alloc _ _⟩
  case round =>
    obtain ⟨j, hj, rfl, hr⟩ := hrel
    have HM := Lib.hid hr.out.1; have HK := Lib.hid hr.out.2
    clear hr
    by_cases hlt : j < L.length
    · rcases al with _ | A
      · rcases HO.out.2 with ⟨_, h0⟩ | ⟨g, cap', cur, hv, _⟩
        · omega
        · simp at hv
      · obtain ⟨g, rfl, hgb, hgl⟩ := HS.out A rfl
        obtain ⟨x0, x1⟩ := own_ht_cell (own_kept HO.out HK.out) hlt
        have hts := Lib.hid (show L.take (j + 1) = L.take j ++ [L[j]'hlt] from List.take_succ_eq_append_getElem hlt)
        have hcount : (L.take j).count (L[j]'hlt) ≤ 1000000 := Nat.le_trans List.count_le_length (Nat.le_trans (List.length_take_le _ _) (by omega))
        generalize (L[j]'hlt) = x at *
        have HM1 := Lib.hid (HM.out.keep (Kept.trans (kept_alloc wr (.cells #[.int .u64 x.d, .int .u64 x.i] 42)) (drewK _)))
        have hlook := run_lookup_m (P := Tryz.prog) (t := 61) Tryz.keyHit Tryz.underlying61 (Tryz.zeroInt _) HM1.out.is x
        obtain ⟨st, w1, w2, r1, r2, r3, hms, ho1, ho2⟩ := run_entry_m (P := Tryz.prog) (t := 61) Tryz.keyHit Tryz.underlying61 Tryz.zeroInt HM1.out x (.int .i64 (((L.take j).count x : Int) + 1))
        rw [cntM_get] at hlook r1 r2
        have HM2 : Hid (MapSt w2 w.heap.size Ht.val (cntM (L.take (j + 1))) ∧ Kept w w2) :=
          ⟨by rw [hts.out, ← cntM_put]; exact hms, kept_only (kept_only (Kept.trans HK.out (Kept.trans (kept_alloc wr _) (drewK _))) ho1 (Nat.le_refl _)) ho2 (Nat.le_refl _)⟩
        clear hms ho1 ho2 HM1 HM hts
        generalize (L.take j).count x = cx at *
        unfold Ht.val at hlook r1 r2
        unfold goInt at r1 r3
        go_wp2_with fail
        go_region
        all_goals
          go_wp2
          go_roundw
          case rel => exact ⟨j + 1, hlt, by go_num, HM2.out.1, HM2.out.2⟩
          case measure => simp [intOf]; omega
    · obtain rfl : j = L.length := by omega
      have hM := HM.out
      rw [List.take_length] at hM
      have HMf := Lib.hid hM
      clear hM HM
      go_wp2
      go_ret
      exact ⟨_, rfl, Nat.le_refl _, HMf.out, HK.out⟩
end Go.Proofs.YtajbimmfkbgcpaaGreat

/- recall.Count, held, permille, Permille, Missing's own closure. -/
namespace Go.Proofs.YtajbimmfkbgcpaaGreat
open Go.RowKit

def hitsIn (F T : List Ht) : List Ht := T.filter fun h => decide (0 < F.count h)
theorem hitsIn_snoc (F T : List Ht) (x : Ht) : hitsIn F (T ++ [x]) = hitsIn F T ++ (if 0 < F.count x then [x] else []) := by
  unfold hitsIn
  rw [List.filter_append]
  by_cases h : 0 < F.count x
  · rw [if_pos h, List.filter_cons, if_pos (by simpa using h)]; rfl
  · rw [if_neg h, List.filter_cons, if_neg (by simpa using h)]; rfl
def CountRel (F T : List Ht) (w0 : World) (n i : Value) (wr : World) : Prop :=
  ∃ j : Nat, j ≤ T.length ∧ i = .int .i64 (j : Int) ∧ n = .int .i64 ((hitsIn F (T.take j)).length : Int) ∧ Hid (Kept w0 wr)
set_option maxRecDepth 100000 in
set_option maxHeartbeats 400000 in
theorem RCount_any (base1 base2 : Nat) (v1 v2 : Value) (F T : List Ht) (k : Int) (w : World) (hl1 : F.length ≤ 1000000) (hl2 : T.length ≤ 1000000) (hO1 : w.ownsRow base1 42 2 v1 F.length (flatH F)) (hO2 : w.ownsRow base2 42 2 v2 T.length (flatH T)) :
    Calls Tryz.prog 9 #[v1, v2, .int .i64 k] w fun e w' => e = .returned (.tuple #[.int .i64 ((hitsIn (F.take k.toNat) (T.take k.toNat)).length : Int), .int .i64 ((T.take k.toNat).length : Int)]) ∧ Kept w w' := by
  have H1 := Lib.hid (RFirst_any base1 v1 F k w hl1 hO1)
  have HO2 := Lib.hid hO2
  have hf : (F.take k.toNat).length ≤ 1000000 := Nat.le_trans (List.length_take_le' _ _) hl1
  have ht : (T.take k.toNat).length ≤ 1000000 := Nat.le_trans (List.length_take_le' _ _) hl2
  clear hO1 hO2
  go_enter Tryz.func9, Tryz.ntmps9
  go_wp2_with fail
  refine H1.out.mono ?_
  rintro e w0 ⟨v3, rfl, ho3, rfl⟩
  have S := Lib.hid (RSet_any base1 v3 _ w hf ho3)
  clear ho3 H1
  go_wp2_with fail
  refine S.out.mono ?_
  rintro e w1 ⟨b, rfl, hb, hM, hK⟩
  have H2 := Lib.hid (RFirst_any base2 v2 T k w1 hl2 (own_kept HO2.out hK))
  have HM := Lib.hid hM; have HK := Lib.hid hK
  clear hM hK S HO2
  generalize hF : F.take k.toNat = F' at *
  have HF := Lib.hid hF
  clear hF
  go_wp2_with fail
  refine H2.out.mono ?_
  rintro e w0 ⟨v4, rfl, ho4, rfl⟩
  generalize hT : T.take k.toNat = T' at *
  have HT0 := Lib.hid hT
  clear hT
  obtain ⟨a4, c4, rfl, -, hs4⟩ := own_slice ho4
  have HO := Lib.hid ho4; have HS := Lib.hid hs4
  clear ho4 hs4 H2
  go_wp2_with fail
  go_loopw [9, 22] (CountRel F' T' w1) (fun _ i _ => T'.length - (intOf i).toNat)
  case atStart => exact ⟨0, Nat.zero_le _, rfl, rfl, Kept.rfl' _⟩
  case round =>
    obtain ⟨j, hj, rfl, rfl, hr⟩ := hrel
    have hcl : (hitsIn F' (T'.take j)).length ≤ 1000000 := Nat.le_trans (List.length_filter_le _ _) (Nat.le_trans (List.length_take_le' _ _) ht)
    by_cases hlt : j < T'.length
    · rcases a4 with _ | A
      · rcases HO.out.2 with ⟨_, h0⟩ | ⟨g, cap', cur, hv, _⟩
        · omega
        · simp at hv
      · obtain ⟨g, rfl, hgb, hgl⟩ := HS.out A rfl
        obtain ⟨x0, x1⟩ := own_ht_cell (own_kept HO.out hr.out) hlt
        have hts := Lib.hid (show hitsIn F' (T'.take (j + 1)) = hitsIn F' (T'.take j) ++ (if 0 < F'.count (T'[j]'hlt) then [T'[j]'hlt] else []) by rw [List.take_succ_eq_append_getElem hlt, hitsIn_snoc])
        generalize (T'[j]'hlt) = x at *
        have hlook := run_lookup_m (P := Tryz.prog) (t := 61) Tryz.keyHit Tryz.underlying61 (Tryz.zeroInt _) (HM.out.is.keep (Kept.trans hr.out (kept_alloc wr (.cells #[.int .u64 x.d, .int .u64 x.i] 42)))) x
        rw [cntM_get] at hlook
        unfold Ht.val at hlook
        by_cases hc : 0 < F'.count x
        · have HT : Hid ((hitsIn F' (T'.take (j + 1))).length = (hitsIn F' (T'.take j)).length + 1) := by unfold Hid; rw [hts.out, if_pos hc, List.length_append]; rfl
          clear hts
          generalize F'.count x = cx at *
          go_wp2
          go_roundw
          case rel => exact ⟨j + 1, hlt, by go_num, by rw [HT.out]; go_num, Kept.trans hr.out (kept_alloc _ _)⟩
          case measure => simp [intOf]; omega
        · have HT : Hid ((hitsIn F' (T'.take (j + 1))).length = (hitsIn F' (T'.take j)).length) := by unfold Hid; rw [hts.out, if_neg hc, List.append_nil]
          have hc0 : F'.count x = 0 := by omega
          rw [hc0] at hlook
          clear hts hc hc0
          go_wp2
          go_roundw
          case rel => exact ⟨j + 1, hlt, by go_num, by rw [HT.out], Kept.trans hr.out (kept_alloc _ _)⟩
          case measure => simp [intOf]; omega
    · obtain rfl : j = T'.length := by omega
      go_wp2
      go_ret2
      exact ⟨by rw [HF.out, HT0.out, ← List.take_length (l := T')]; simp, Kept.trans HK.out hr.out⟩

set_option maxRecDepth 100000 in
theorem Held_eq (n : Nat) (w : World) (hn : n ≤ 1000000) : Calls Tryz.prog 22 #[.int .i64 (n : Int), .int .i64 (n : Int)] w fun e w' => e = .returned (.agg #[.int .i64 (n : Int), .int .i64 (n : Int)]) ∧ Kept w w' := by
  go_enter Tryz.func22, Tryz.ntmps22
  go_wp2
  have e1 : min (n : Int) 2147483647 = n := by omega
  have e2 : max (n : Int) 0 = n := by omega
  refine bodyPost_ret (v := .agg #[.int .i64 (n : Int), .int .i64 (n : Int)]) (by simp [results, Tryz.results22, go_sem, e1, e2]) rfl ⟨rfl, ?_⟩
  exact kept_alloc _ _
set_option maxRecDepth 100000 in
theorem permille_eq (n : Nat) (w : World) (hn : n ≤ 1000000) : Calls Tryz.prog 23 #[.agg #[.int .i64 (n : Int), .int .i64 (n : Int)]] w fun e w' => e = .returned (.int .i64 1000) ∧ Kept w w' := by
  by_cases h : (n : Int) < 1
  · go_enter Tryz.func23, Tryz.ntmps23
    go_wp2
    go_ret
    exact ⟨rfl, kept_alloc _ _⟩
  · have e : (1000 * (n : Int)) / n = 1000 := Int.mul_ediv_cancel _ (by omega)
    have H := Lib.hid e
    clear e
    go_enter Tryz.func23, Tryz.ntmps23
    go_wp2
    go_ret
    exact ⟨ret_int H.out, kept_alloc _ _⟩
set_option maxRecDepth 100000 in
theorem Permille_eq (n : Nat) (w : World) (hn : n ≤ 1000000) : Calls Tryz.prog 10 #[.int .i64 (n : Int), .int .i64 (n : Int)] w fun e w' => e = .returned (.int .i64 1000) ∧ Kept w w' := by
  go_enter Tryz.func10, Tryz.ntmps10
  go_wp2_with (first
    | (go_at_call 22; refine (Held_eq n _ hn).mono ?_; rintro e w1 ⟨rfl, h1⟩; have H1 := Lib.hid h1; clear h1)
    | (go_at_call 23; refine (permille_eq n _ hn).mono ?_; rintro e w2 ⟨rfl, h2⟩; have H2 := Lib.hid h2; clear h2))
  go_ret
  exact ⟨rfl, Kept.trans H1.out H2.out⟩

set_option maxRecDepth 100000 in
theorem missC_any (mb M : Nat) (F : List Ht) (x : Ht) (w : World) (hl : F.length ≤ 1000000) (hm : w.cell? ⟨mb, 0, none⟩ = some (.map (some M))) (hM : MapIs w M Ht.val (cntM F)) :
    Calls Tryz.prog 26 #[x.val, .pointer (some ⟨mb, 0, none⟩)] w fun e w' => e = .returned (.bool (decide (0 < F.count x))) ∧ Kept w w' := by
  have hlook := run_lookup_m (P := Tryz.prog) (t := 61) Tryz.keyHit Tryz.underlying61 (Tryz.zeroInt _) (hM.keep (kept_alloc w (.cells #[.int .u64 x.d, .int .u64 x.i] 42))) x
  rw [cntM_get] at hlook
  unfold Ht.val at hlook
  have hc : F.count x ≤ 1000000 := Nat.le_trans List.count_le_length hl
  have hlt := lt_of_cell hm
  clear hM
  generalize F.count x = cx at *
  go_enter Tryz.func26, Tryz.ntmps26
  go_wp2
  go_ret
  exact ⟨by simp, kept_alloc _ _⟩
end Go.Proofs.YtajbimmfkbgcpaaGreat

/- recall.Missing: how many are missing. -/
namespace Go.Proofs.YtajbimmfkbgcpaaGreat
open Go.RowKit

theorem flatH_oneC (xs : List Ht) : ∀ v ∈ flatH xs, v.oneCell' = true := by
  intro v hv
  unfold flatH at hv
  obtain ⟨x, _, hx⟩ := List.mem_flatMap.1 hv
  simp [Ht.cells] at hx
  rcases hx with rfl | rfl <;> rfl
def CloneHPost (xs : List Ht) (w : World) (e : Ending) (w' : World) : Prop :=
  ∃ v, e = .returned v ∧ w'.ownsRow w.heap.size 42 2 v xs.length (flatH xs) ∧ Kept w w'
set_option maxRecDepth 100000 in
theorem Clone_ht (base : Nat) (v : Value) (xs : List Ht) (w : World) (hl : xs.length ≤ 1000000) (hX : w.ownsRow base 42 2 v xs.length (flatH xs)) :
    Calls Tryz.prog 25 #[v] w (CloneHPost xs w) := by
  obtain ⟨a, c, rfl, hnone, hsome⟩ := own_slice hX
  rcases a with _ | A
  · obtain ⟨rfl, h0⟩ := hnone rfl
    have h0 : xs = [] := by cases xs with
      | nil => rfl
      | cons x xs => simp at h0
    subst h0
    have hn := fun W => Lib.run_eql_slice_nil (P := Tryz.prog) W 32 42 none 0 0 0 0 Tryz.underlying32
    go_enter Tryz.func25, Tryz.ntmps25
    go_wp2
    go_ret
    exact ⟨_, rfl, World.ownsRow_nil _ _ _ _, Kept.rfl' w⟩
  · obtain ⟨g, rfl, hb, hg⟩ := hsome A rfl
    have hn := fun W => Lib.run_eql_slice_nil (P := Tryz.prog) W 32 42 (some ⟨g, 0, none⟩) xs.length c 0 0 Tryz.underlying32
    have hcells : Hid (∀ j u, (flatH xs)[j]? = some u → (w.alloc (.cells #[] 42)).cell? ((⟨g, 0, none⟩ : Addr).add j) = some u) := by
      intro j u hj
      have hj2 : j < xs.length * 2 := by
        have := (List.getElem?_eq_some_iff.1 hj).1
        rwa [flatH_length] at this
      have h1 := hX.cellAt j hj2
      rw [hj] at h1
      have : (⟨g, 0, none⟩ : Addr).add j = ⟨g, j, none⟩ := by unfold Addr.add; split <;> simp_all
      rw [this]
      exact cell_old h1
    have hnew : Hid ((w.alloc (.cells #[] 42)).ownsRow w.heap.size 42 2 (.slice (some ⟨w.heap.size, 0, none⟩) 0 0) 0 []) := World.ownsRow_made w #[] 0 (Nat.le_refl _) (by unfold maxLen; omega) (by simp)
    obtain ⟨i0, hi0, hz0, hz1, hz2⟩ := info_parts Tryz.elemHit.info
    have hlen := Lib.hid (flatH_length xs)
    have hcc := (own_cap hX).1
    clear hX
    go_enter Tryz.func25, Tryz.ntmps25
    go_wp2_with (first | (at_builtin; refine wpList_append_own _ rfl _ _ 32 rfl w.heap.size 42 i0 _ 2 16 Tryz.underlying32 hi0 hz0 hz1 hz2 rfl (by decide) _ _ _ rfl (by exact hnew.out) ⟨g, 0, none⟩ xs.length c (flatH xs) rfl ?c0 (by exact hcells.out) (flatH_oneC _) ?c1 ?c2 ?c3 ?_))
    case c0 => rw [flatH_length]
    case c1 => unfold maxLen; omega
    case c2 => omega
    case c3 => simp
    intro v' w' hown hgr _
    have hk : Hid (Kept w w') := Below.trans (kept_alloc w (.cells #[] 42)) (own_below hnew.out hgr (by simp))
    have Hown := Lib.hid hown
    clear hown hgr
    go_wp2
    go_ret
    exact ⟨v', rfl, by simpa using Hown.out, hk.out⟩

/-- What a predicate of hits is asked for, in whatever memory that fits. -/
structure PredH (g : FuncId) (cap : Array Value) (p : Ht → Bool) (A : Nat) (Inv : World → Prop) : Prop where
  asks : ∀ x W, Inv W → Calls Tryz.prog g (#[x.val] ++ cap) W fun e W' => e = .returned (.bool (p x)) ∧ Kept W W'
  keep : ∀ W W', Inv W → Kept W W' → Inv W'
  only : ∀ W W', Inv W → Only A W W' → Inv W'
def IdxHPost (p : Ht → Bool) (L : List Ht) (w : World) (e : Ending) (w' : World) : Prop :=
  Kept w w' ∧ ((e = .returned (.int .i64 (-1)) ∧ ∀ x ∈ L, p x = false) ∨ ∃ r : Nat, r < L.length ∧ e = .returned (.int .i64 (r : Int)) ∧ (∀ x, L[r]? = some x → p x = true) ∧ ∀ x ∈ L.take r, p x = false)
def IdxHRel (p : Ht → Bool) (L : List Ht) (w : World) (i : Value) (wr : World) : Prop :=
  ∃ j : Nat, j ≤ L.length ∧ i = .int .i64 (j : Int) ∧ Hid (Kept w wr ∧ ∀ x ∈ L.take j, p x = false)
set_option maxRecDepth 100000 in
theorem IndexFunc_ht (g : FuncId) (cap : Array Value) (p : Ht → Bool) (A : Nat) (Inv : World → Prop) (base : Nat) (v : Value) (L : List Ht) (w : World) (hl : L.length ≤ 1000000) (hO : w.ownsRow base 42 2 v L.length (flatH L))
    (eg : ∀ args W, (callFunc g args).run Tryz.prog W = .ok (.enter g args) W) (hp : PredH g cap p A Inv) (hi : Inv w) :
    Calls Tryz.prog 43 #[v, .func (.func g) #[] cap] w (IdxHPost p L w) := by
  obtain ⟨al, cl, rfl, hnone, hsome⟩ := own_slice hO
  have HO := Lib.hid hO; have HS := Lib.hid hsome; have HP := Lib.hid hp; have HI := Lib.hid hi
  clear hO hnone hsome hp hi
  go_enter Tryz.func43, Tryz.ntmps43
  go_wp2_with fail
  go_loopw [8] (IdxHRel p L w) (fun i _ => L.length - (intOf i).toNat)
  case atStart => exact ⟨0, Nat.zero_le _, rfl, Kept.rfl' w, by simp⟩
  case round =>
    obtain ⟨k, hk, rfl, H⟩ := hrel
    have HK := Lib.hid H.out.1; have HB := Lib.hid H.out.2
    clear H
    by_cases hlk : k < L.length
    · rcases al with _ | A1
      · rcases HO.out.2 with ⟨_, h0⟩ | ⟨g, cap', cur, hv, _⟩
        · omega
        · simp at hv
      · obtain ⟨g1, rfl, hgb, hgl⟩ := HS.out A1 rfl
        obtain ⟨x0, x1⟩ := own_ht_cell (own_kept HO.out HK.out) hlk
        have hts := Lib.hid (show L.take (k + 1) = L.take k ++ [L[k]'hlk] from List.take_succ_eq_append_getElem hlk)
        have hat := Lib.hid (List.getElem?_eq_getElem hlk)
        generalize (L[k]'hlk) = x at *
        have Hcall := Lib.hid (HP.out.asks x wr (HP.out.keep _ _ HI.out HK.out))
        cases hpx : p x with
        | true =>
          rw [hpx] at Hcall
          have HX := Lib.hid hpx
          clear hpx
          go_wp2_with (first | (go_at_fn g; refine Hcall.out.mono ?_; rintro e w1 ⟨rfl, hk1⟩))
          go_ret
          exact ⟨Kept.trans HK.out hk1, .inr ⟨k, hlk, rfl, fun y hy => by rw [hat.out] at hy; cases hy; exact HX.out, HB.out⟩⟩
        | false =>
          rw [hpx] at Hcall
          have HX := Lib.hid hpx
          clear hpx
          go_wp2_with (first | (go_at_fn g; refine Hcall.out.mono ?_; rintro e w1 ⟨rfl, hk1⟩))
          go_roundw
          case rel =>
            refine ⟨k + 1, by omega, by go_num, Kept.trans HK.out hk1, fun y hy => ?_⟩
            rw [hts.out, List.mem_append, List.mem_singleton] at hy
            rcases hy with hy | rfl
            · exact HB.out y hy
            · exact HX.out
          case measure => simp [intOf]; omega
    · obtain rfl : k = L.length := by omega
      go_wp2
      go_ret
      exact ⟨HK.out, .inl ⟨rfl, by have h := HB.out; rwa [List.take_length] at h⟩⟩
end Go.Proofs.YtajbimmfkbgcpaaGreat

/- recall.Missing: how many are missing. -/
namespace Go.Proofs.YtajbimmfkbgcpaaGreat
open Go.RowKit

theorem run_clear_slice2 {P : Program} (w : World) (t e ty : TypeId) (z : Value) (ht : P.underlying t = some (.slice e)) (hv : ∀ w, (zeroValue e).run P w = .ok (.agg #[z, z]) w) (h1 : z.oneCell' = true) (b o n c : Nat) (hn : 0 < n)
    (hc : ∀ j, j < n * 2 → (w.cell? ⟨b, o + j, none⟩).isSome = true) (hf : ∀ j, j < n * 2 → w.frozen? ⟨b, o + j, none⟩ = false) :
    (Builtin.clear_ #[t] ty #[.slice (some ⟨b, o, none⟩) n c]).run P w = .ok (.tuple #[]) (w.setCells b o (List.replicate (n * 2) z)) := by
  have hzc : (Builtin.zeroCells (Value.agg #[z, z]).cells n).toList = List.replicate (n * 2) z := by
    simp only [Value.cells, Builtin.zeroCells]
    apply List.ext_getElem
    · simp
    · intro i h1 h2
      simp
      have : i % 2 = 0 ∨ i % 2 = 1 := by omega
      rcases this with h | h <;> simp [h]
  have hst := run_storeCells_cells (P := P) b o (List.replicate (n * 2) z) 0 w (by simpa using hc) (by simpa using hf) (by intro v hv'; rw [List.eq_of_mem_replicate hv']; exact h1)
  simp only [Nat.add_zero] at hst
  obtain ⟨m, rfl⟩ : ∃ m, n = m + 1 := ⟨n - 1, by omega⟩
  simp [Builtin.clear_, run_underlying ht, hv, hzc, hst]

def stays (p : Ht → Bool) (L : List Ht) : List Ht := L.filter fun x => !p x
theorem stays_snoc (p : Ht → Bool) (L : List Ht) (x : Ht) : (stays p (L ++ [x])).length = (stays p L).length + (if p x then 0 else 1) := by
  unfold stays
  rw [List.filter_append, List.length_append]
  cases h : p x <;> simp [h]
theorem box2 {w w1 : World} {a b : Value} {t B : Nat} (hk : Kept (w.alloc (.cells #[a, b] t)) w1) (hB : B = w.heap.size) : w1.cell? ⟨B, 0, none⟩ = some a ∧ w1.cell? ⟨B, 1, none⟩ = some b ∧ B < w1.heap.size := by
  subst hB
  have hl : w.heap.size < (w.alloc (.cells #[a, b] t)).heap.size := by simp
  have hb := hk.block _ hl
  exact ⟨(World.cell?_of_block hb).trans (cell_new rfl rfl), (World.cell?_of_block hb).trans (cell_new rfl rfl), Nat.lt_of_lt_of_le hl hk.size⟩
def DelHPost (p : Ht → Bool) (L : List Ht) (A : Nat) (w : World) (e : Ending) (w' : World) : Prop :=
  ∃ c, e = .returned (.slice (some ⟨A, 0, none⟩) (stays p L).length c) ∧ Far (· = A) w w'
def DelHRel (p : Ht → Bool) (L : List Ht) (base A c : Nat) (Inv : World → Prop) (w : World) (i j : Value) (wr : World) : Prop :=
  ∃ (k n : Nat) (ys : List Ht), k ≤ L.length ∧ j = .int .i64 (k : Int) ∧ i = .int .i64 (n : Int) ∧ n < k ∧ Hid (n = (stays p (L.take k)).length ∧ ys.length = L.length ∧ (∀ t, k ≤ t → ys[t]? = L[t]?) ∧
    wr.ownsRow base 42 2 (.slice (some ⟨A, 0, none⟩) L.length c) L.length (flatH ys) ∧ Inv wr ∧ Far (· = A) w wr)
theorem flatH_set (ys : List Ht) (k : Nat) (Y : Ht) (hk : k < ys.length) : ((flatH ys).set (k * 2) (.int .u64 Y.d)).set (k * 2 + 1) (.int .u64 Y.i) = flatH (ys.set k Y) := by
  induction ys generalizing k with
  | nil => simp at hk
  | cons y ys ih =>
    have e : flatH (y :: ys) = .int .u64 y.d :: .int .u64 y.i :: flatH ys := rfl
    cases k with
    | zero => rfl
    | succ k =>
      have h0 : (k + 1) * 2 = k * 2 + 1 + 1 := by omega
      have e2 : flatH ((y :: ys).set (k + 1) Y) = .int .u64 y.d :: .int .u64 y.i :: flatH (ys.set k Y) := rfl
      rw [e2, ← ih k (by simpa using hk), e, h0]
      rfl
theorem own_putHt {w : World} {base g c n k : Nat} {ys : List Ht} (h : w.ownsRow base 42 2 (.slice (some ⟨g, 0, none⟩) n c) n (flatH ys)) (hk : k < ys.length) (Y : Ht) :
    ((w.setCell ⟨g, k * 2, none⟩ (.int .u64 Y.d)).setCell ⟨g, k * 2 + 1, none⟩ (.int .u64 Y.i)).ownsRow base 42 2 (.slice (some ⟨g, 0, none⟩) n c) n (flatH (ys.set k Y)) := by
  have h1 := (h.stored (k * 2) (.int .u64 Y.d)).1
  have h2 := (h1.stored (k * 2 + 1) (.int .u64 Y.i)).1
  rw [flatH_set ys k Y hk] at h2
  exact h2
theorem only_setCells (g : Nat) : ∀ (us : List Value) (o : Nat) (w : World), Only g w (w.setCells g o us)
  | [], _, _ => ⟨rfl, rfl, rfl, rfl, fun _ _ => rfl⟩
  | u :: us, o, w => only_trans (only_setCell' w g o u) (only_setCells g us (o + 1) _)
theorem Tryz.zeroHit (w : World) : (zeroValue 42).run Tryz.prog w = .ok (.agg #[.int .u64 0, .int .u64 0]) w := by kernel_rfl
set_option maxRecDepth 100000 in
set_option maxHeartbeats 800000 in
theorem DeleteFunc_ht (g : FuncId) (cap : Array Value) (p : Ht → Bool) (A c : Nat) (Inv : World → Prop) (base : Nat) (L : List Ht) (w : World) (hl : L.length ≤ 1000000) (hO : w.ownsRow base 42 2 (.slice (some ⟨A, 0, none⟩) L.length c) L.length (flatH L))
    (eg : ∀ args W, (callFunc g args).run Tryz.prog W = .ok (.enter g args) W) (hp : PredH g cap p A Inv) (hi : Inv w) :
    Calls Tryz.prog 24 #[.slice (some ⟨A, 0, none⟩) L.length c, .func (.func g) #[] cap] w (DelHPost p L A w) := by
  have hI := Lib.hid (IndexFunc_ht g cap p A Inv base _ L w hl hO eg hp hi)
  have HO := Lib.hid hO; have HP := Lib.hid hp; have HI := Lib.hid hi
  clear hO hp hi
  go_enter Tryz.func24, Tryz.ntmps24
  go_wp2_with fail
  refine hI.out.mono ?_
  rintro e w1 ⟨hk1, ⟨rfl, hall⟩ | ⟨r, hr, rfl, hpr, hall⟩⟩
  · have Hfin : Hid (DelHPost p L A w (.returned (.slice (some ⟨A, 0, none⟩) L.length c)) w1) := by
      refine ⟨c, ?_, Far.of_kept _ hk1⟩
      have : stays p L = L := List.filter_eq_self.2 (fun x hx => by simp [hall x hx])
      rw [this]
    clear hall
    go_wp2
    go_ret
    exact Hfin.out
  · have hd : ((r : Int) == -1) = false := by rw [beq_eq_false_iff_ne]; omega
    obtain ⟨hcap, hcm⟩ := own_cap HO.out
    unfold maxLen at hcm
    have hstart : Hid (DelHRel p L base A c Inv w (.int .i64 (r : Int)) (.int .i64 ((r : Int) + 1)) w1) := by
      refine ⟨r + 1, r, L, hr, by go_num, rfl, by omega, ?_, rfl, fun _ _ => rfl, own_kept HO.out hk1, HP.out.keep _ _ HI.out hk1, Far.of_kept _ hk1⟩
      have hx : L[r]? = some (L[r]'hr) := List.getElem?_eq_getElem hr
      have h2 := hpr _ hx
      rw [List.take_succ_eq_append_getElem hr, stays_snoc, h2, if_pos rfl]
      have : stays p (L.take r) = L.take r := List.filter_eq_self.2 (fun x hx => by simp [hall x hx])
      rw [this, List.length_take]
      omega
    clear hall hpr hk1
    go_wp2_with fail
    go_loopw [5, 6] (DelHRel p L base A c Inv w) (fun _ j _ => L.length - (intOf j).toNat)
    case atStart => exact hstart.out
    case round =>
      obtain ⟨k, n, ys, hk, rfl, rfl, hnk, H⟩ := hrel
      have HN := Lib.hid H.out.1; have HY := Lib.hid H.out.2.1; have HR := Lib.hid H.out.2.2.1; have HOr := Lib.hid H.out.2.2.2.1; have HIr := Lib.hid H.out.2.2.2.2.1; have HF := Lib.hid H.out.2.2.2.2.2
      clear hstart H
      by_cases hlk : k < L.length
      · have hyk : k < ys.length := by have := HY.out; omega
        obtain ⟨x0, x1⟩ := own_ht_cell HOr.out (by have := HY.out; omega : k < ys.length)
        have hyx : ys[k]'hyk = L[k]'hlk := by
          have h := HR.out k (Nat.le_refl _)
          rw [List.getElem?_eq_getElem hyk, List.getElem?_eq_getElem hlk] at h
          simpa using h
        rw [hyx] at x0 x1
        obtain ⟨c0, c1⟩ := own_ht_cell HOr.out (by have := HY.out; omega : n < ys.length)
        have hts := Lib.hid (show (stays p (L.take (k + 1))).length = (stays p (L.take k)).length + (if p (L[k]'hlk) then 0 else 1) by rw [List.take_succ_eq_append_getElem hlk, stays_snoc])
        generalize ys[n]'_ = Y at c0 c1
        clear hyx
        generalize (L[k]'hlk) = x at *
        have Hcall := Lib.hid (fun W hk => HP.out.asks x W (HP.out.keep _ _ HIr.out hk))
        have f0 := HOr.out.frozenAt (n * 2)
        have f1 := HOr.out.frozenAt (n * 2 + 1)
        have hlA := lt_of_cell c0
        cases hpx : p x with
        | true =>
          rw [hpx] at Hcall hts
          clear hpx c0 c1 f0 f1
          go_wp2_with (first | (go_at_fn g; refine (Hcall.out _ (kept_alloc _ _)).mono ?_; rintro e w2 ⟨rfl, hk2⟩; have HK2 := Lib.hid (Kept.trans (kept_alloc wr _) hk2); clear hk2))
          go_roundw
          case rel => exact ⟨k + 1, n, ys, by omega, by go_num, rfl, by omega, by rw [hts.out]; simpa using HN.out, HY.out, fun t ht => HR.out t (by omega), own_kept HOr.out HK2.out, HP.out.keep _ _ HIr.out HK2.out, HF.out.trans (Far.of_kept _ HK2.out)⟩
          case measure => simp [intOf]; omega
        | false =>
          rw [hpx] at Hcall hts
          clear hpx
          have C0 := Lib.hid c0; have C1 := Lib.hid c1; have F0 := Lib.hid f0; have F1 := Lib.hid f1
          clear c0 c1 f0 f1
          go_wp2_with (first | (go_at_fn g; refine (Hcall.out _ (kept_alloc _ _)).mono ?_; rintro e w2 ⟨rfl, hk2⟩; have HK2 := Lib.hid (Kept.trans (kept_alloc wr _) hk2); obtain ⟨b0, b1, bl⟩ := box2 hk2 rfl; have d0 := (HK2.out.cell (p := ⟨A, n * 2, none⟩) hlA).trans C0.out; have d1 := (HK2.out.cell (p := ⟨A, n * 2 + 1, none⟩) hlA).trans C1.out; have g0 := (HK2.out.frozen (p := ⟨A, n * 2, none⟩) hlA).trans F0.out; have g1 := (HK2.out.frozen (p := ⟨A, n * 2 + 1, none⟩) hlA).trans F1.out; clear hk2))
          go_roundw
          case rel =>
            have ho := own_putHt (own_kept HOr.out HK2.out) (k := n) (by have := HY.out; omega) x
            have hon : Only A w2 ((w2.setCell ⟨A, n * 2, none⟩ (.int .u64 x.d)).setCell ⟨A, n * 2 + 1, none⟩ (.int .u64 x.i)) := only_trans (only_setCell' _ _ _ _) (only_setCell' _ _ _ _)
            refine ⟨k + 1, n + 1, ys.set n x, by omega, by go_num, by go_num, by omega, by rw [hts.out]; simpa using HN.out, by rw [List.length_set]; exact HY.out, fun t ht => ?_, ho, HP.out.only _ _ (HP.out.keep _ _ HIr.out HK2.out) hon, (HF.out.trans (Far.of_kept _ HK2.out)).trans (Far.of_only hon rfl)⟩
            rw [List.getElem?_set_ne (by omega)]
            exact HR.out t (by omega)
          case measure => simp [intOf]; omega
      · obtain rfl : k = L.length := by omega
        have hN := HN.out
        rw [List.take_length] at hN
        have HNf := Lib.hid hN
        clear hN HN
        have hyl := HY.out
        have hcl : ∀ ty, (Builtin.clear_ #[32] ty #[.slice (some ⟨A, n * 2, none⟩) (L.length - n) (c - n)]).run Tryz.prog wr = .ok (.tuple #[]) (wr.setCells A (n * 2) (List.replicate ((L.length - n) * 2) (.int .u64 0))) :=
          fun ty => run_clear_slice2 wr 32 42 ty (.int .u64 0) Tryz.underlying32 (fun W => Tryz.zeroHit W) rfl A (n * 2) _ _ (by omega) (fun t ht => by
            rw [HOr.out.cellAt _ (by omega), List.getElem?_eq_getElem (by rw [flatH_length, hyl]; omega)]; rfl) (fun t ht => HOr.out.frozenAt _)
        have Hfin : Hid (DelHPost p L A w (.returned (.slice (some ⟨A, 0, none⟩) n c)) (wr.setCells A (n * 2) (List.replicate ((L.length - n) * 2) (.int .u64 0)))) :=
          ⟨c, by rw [HNf.out], HF.out.trans (Far.of_only (only_setCells A _ _ _) rfl)⟩
        clear hyl
        go_wp2
        go_ret
        exact Hfin.out

theorem DeleteFunc_ht_nil (g : FuncId) (cap : Array Value) (w : World) :
    Calls Tryz.prog 24 #[.slice none 0 0, .func (.func g) #[] cap] w fun e w' => e = .returned (.slice none 0 0) ∧ w = w' := by
  have hI : Calls Tryz.prog 43 #[.slice none 0 0, .func (.func g) #[] cap] w fun e w' => e = .returned (.int .i64 (-1)) ∧ w = w' := by
    go_enter Tryz.func43, Tryz.ntmps43
    go_wp2
    go_loop [8] (fun i => i = .int .i64 0) (fun _ => 0)
    case atStart => rfl
    case round =>
      obtain rfl := hrel
      go_wp2
      go_ret
      exact ⟨rfl, rfl⟩
  have HI := Lib.hid hI
  clear hI
  go_enter Tryz.func24, Tryz.ntmps24
  go_wp2_with (first | (go_at_call 43; refine HI.out.mono ?_; rintro e w1 ⟨rfl, rfl⟩))
  go_ret
  exact ⟨rfl, rfl⟩

def inB (F : List Ht) (x : Ht) : Bool := decide (0 < F.count x)
def lacks (F T : List Ht) : List Ht := stays (inB F) T
def MissPost (F T : List Ht) (w : World) (e : Ending) (w' : World) : Prop :=
  ∃ a c, e = .returned (.slice a (lacks F T).length c) ∧ Kept w w'
set_option maxRecDepth 100000 in
theorem Missing_any (base1 base2 : Nat) (v1 v2 : Value) (F T : List Ht) (w : World) (hl1 : F.length ≤ 1000000) (hl2 : T.length ≤ 1000000) (hO1 : w.ownsRow base1 42 2 v1 F.length (flatH F)) (hO2 : w.ownsRow base2 42 2 v2 T.length (flatH T)) :
    Calls Tryz.prog 11 #[v1, v2] w (MissPost F T w) := by
  have S := Lib.hid (RSet_any base1 v1 F w hl1 hO1)
  have HO2 := Lib.hid hO2
  clear hO1 hO2
  have eg : ∀ args W, (callFunc 26 args).run Tryz.prog W = .ok (.enter 26 args) W := fun args W => enters_of Tryz.func26 (by kernel_rfl) rfl args W
  have EG := Lib.hid eg
  clear eg
  go_enter Tryz.func11, Tryz.ntmps11
  go_wp2_with fail
  refine S.out.mono ?_
  rintro e w1 ⟨M, rfl, hMl, hM, hK⟩
  have HM := Lib.hid hM; have HK := Lib.hid hK
  clear hM hK S
  have hml := HM.out.is.lt
  go_wp2_with fail
  have K2 : Hid (Kept w1 (w1.alloc (.cells #[.map (some M)] 61))) := kept_alloc _ _
  have HB : Hid ((w1.alloc (.cells #[.map (some M)] 61)).cell? ⟨w1.heap.size, 0, none⟩ = some (.map (some M))) := cell_new rfl rfl
  have C := Lib.hid (Clone_ht base2 v2 T (w1.alloc (.cells #[.map (some M)] 61)) hl2 (own_kept HO2.out (Kept.trans HK.out K2.out)))
  refine C.out.mono ?_
  rintro e w2 ⟨v3, rfl, ho3, hk3⟩
  obtain ⟨a3, c3, rfl, hn3, hs3⟩ := own_slice ho3
  have HO3 := Lib.hid ho3; have HK3 := Lib.hid hk3
  clear ho3 hk3 C
  rcases a3 with _ | A3
  · obtain ⟨rfl, h0⟩ := hn3 rfl
    have h0 : T = [] := List.length_eq_zero_iff.1 h0
    subst h0
    clear hn3 hs3
    go_wp2_with (first | (go_at_call 24; refine (DeleteFunc_ht_nil 26 _ _).mono ?_; rintro e w3 ⟨rfl, rfl⟩))
    go_ret
    exact ⟨_, _, rfl, Kept.trans HK.out (Kept.trans K2.out HK3.out)⟩
  · obtain ⟨A, rfl, hA1, hA2⟩ := hs3 A3 rfl
    have hA1' : w1.heap.size < A := by simp at hA1; omega
    clear hn3 hs3
    have P : Hid (PredH 26 #[.pointer (some ⟨w1.heap.size, 0, none⟩)] (inB F) A (fun W => W.cell? ⟨w1.heap.size, 0, none⟩ = some (.map (some M)) ∧ MapIs W M Ht.val (cntM F))) := {
      asks := fun x W h => missC_any w1.heap.size M F x W hl1 h.1 h.2
      keep := fun W W' h hk => ⟨(Far.of_kept (fun _ => False) hk).cell h.1 id, h.2.keep hk⟩
      only := fun W W' h ho => ⟨(Far.of_only ho (F := (· = A)) rfl).cell h.1 (by omega), h.2.of_block (ho.block M (by omega))⟩ }
    have I2 : Hid (w2.cell? ⟨w1.heap.size, 0, none⟩ = some (.map (some M)) ∧ MapIs w2 M Ht.val (cntM F)) := ⟨(Far.of_kept (fun _ => False) HK3.out).cell HB.out id, HM.out.is.keep (Kept.trans K2.out HK3.out)⟩
    have D := Lib.hid (DeleteFunc_ht 26 #[.pointer (some ⟨w1.heap.size, 0, none⟩)] _ A c3 _ _ T w2 hl2 HO3.out EG.out P.out I2.out)
    clear EG
    go_wp2_with (first | (go_at_call 24; refine D.out.mono ?_; rintro e w3 ⟨c4, rfl, hf⟩; have HF := Lib.hid hf; clear hf))
    go_ret
    refine ⟨_, _, rfl, kept_far (Kept.trans HK.out (Kept.trans K2.out HK3.out)) HF.out fun b hb e => ?_⟩
    have := HK.out.size
    omega
end Go.Proofs.YtajbimmfkbgcpaaGreat

/- recall.Behind, where nothing is behind. -/
namespace Go.Proofs.YtajbimmfkbgcpaaGreat
open Go.RowKit

def NoBehind (F T : List Ht) : Prop := ∀ (i : Nat) (x y : Ht), F[i]? = some x → T[i]? = some y → x.d ≤ y.d
theorem kept_drewN (w : World) (n : Nat) : Kept w (w.drewN n) := ⟨rfl, rfl, rfl, Nat.le_refl _, fun _ _ => rfl⟩
def BehRel (F T : List Ht) (w0 : World) (s i : Value) (wr : World) : Prop :=
  ∃ j : Nat, j ≤ min F.length T.length ∧ i = .int .i64 (j : Int) ∧ s = .int .u64 0 ∧ Hid (Kept w0 wr)
set_option maxRecDepth 100000 in
set_option maxHeartbeats 400000 in
theorem Behind_zero (base1 base2 : Nat) (v1 v2 : Value) (F T : List Ht) (k : Int) (w : World) (hl1 : F.length ≤ 1000000) (hl2 : T.length ≤ 1000000) (hO1 : w.ownsRow base1 42 2 v1 F.length (flatH F)) (hO2 : w.ownsRow base2 42 2 v2 T.length (flatH T))
    (hb : NoBehind (F.take k.toNat) (T.take k.toNat)) :
    Calls Tryz.prog 12 #[v1, v2, .int .i64 k] w fun e w' => e = .returned (.int .u64 0) ∧ Kept w w' := by
  have H1 := Lib.hid (RFirst_any base1 v1 F k w hl1 hO1)
  have H2 := Lib.hid (RFirst_any base2 v2 T k w hl2 hO2)
  have HB := Lib.hid hb
  have hf : (F.take k.toNat).length ≤ 1000000 := Nat.le_trans (List.length_take_le' _ _) hl1
  have ht : (T.take k.toNat).length ≤ 1000000 := Nat.le_trans (List.length_take_le' _ _) hl2
  clear hO1 hO2 hb
  generalize F.take k.toNat = F' at *
  generalize T.take k.toNat = T' at *
  go_enter Tryz.func12, Tryz.ntmps12
  go_wp2_with fail
  refine H1.out.mono ?_
  rintro e w0 ⟨v3, rfl, ho3, rfl⟩
  obtain ⟨a3, c3, rfl, -, hs3⟩ := own_slice ho3
  have HO3 := Lib.hid ho3; have HS3 := Lib.hid hs3
  clear ho3 hs3 H1
  go_wp2_with fail
  refine H2.out.mono ?_
  rintro e w0 ⟨v4, rfl, ho4, rfl⟩
  obtain ⟨a4, c4, rfl, -, hs4⟩ := own_slice ho4
  have HO4 := Lib.hid ho4; have HS4 := Lib.hid hs4
  clear ho4 hs4 H2
  go_wp2_with fail
  go_loopw [9, 11, 23] (fun s _ i wr => BehRel F' T' w s i wr) (fun _ _ i _ => min F'.length T'.length - (intOf i).toNat)
  case atStart => exact ⟨0, Nat.zero_le _, rfl, rfl, Kept.rfl' _⟩
  case round =>
    obtain ⟨j, hj, rfl, rfl, hr⟩ := hrel
    by_cases hlt : j < min F'.length T'.length
    · have h1 : j < F'.length := by omega
      have h2 : j < T'.length := by omega
      rcases a3 with _ | A3
      · rcases HO3.out.2 with ⟨_, h0⟩ | ⟨g, cap', cur, hv, _⟩
        · omega
        · simp at hv
      rcases a4 with _ | A4
      · rcases HO4.out.2 with ⟨_, h0⟩ | ⟨g, cap', cur, hv, _⟩
        · omega
        · simp at hv
      obtain ⟨g3, rfl, -, -⟩ := HS3.out A3 rfl
      obtain ⟨g4, rfl, -, -⟩ := HS4.out A4 rfl
      obtain ⟨x0, x1⟩ := own_ht_cell (own_kept HO3.out hr.out) h1
      obtain ⟨y0, y1⟩ := own_ht_cell (own_kept HO4.out hr.out) h2
      have hle := HB.out j _ _ (List.getElem?_eq_getElem h1) (List.getElem?_eq_getElem h2)
      generalize (F'[j]'h1) = x at *
      generalize (T'[j]'h2) = y at *
      have i1 : (j : Int) < (F'.length : Int) := by omega
      have i2 : (j : Int) < (T'.length : Int) := by omega
      have i0 : (0 : Int) ≤ (j : Int) := by omega
      clear x1 y1
      go_wp2_with fail
      go_quiet (fail)
      go_wp2
      go_roundw
      case rel => exact ⟨j + 1, by omega, by go_num, rfl, Kept.trans hr.out (kept_drewN _ _)⟩
      case measure => simp [intOf]; omega
    · have hm : j = min F'.length T'.length := by omega
      have hge : ¬ (j : Int) < min (F'.length : Int) (T'.length : Int) := by omega
      clear hm
      go_wp2
      go_ret
      exact ⟨rfl, hr.out⟩
end Go.Proofs.YtajbimmfkbgcpaaGreat
