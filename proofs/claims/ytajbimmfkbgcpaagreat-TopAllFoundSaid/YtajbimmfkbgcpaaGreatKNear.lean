/-
  plane.Near and its closure.
  plane.Near.
-/
import Derived.Test.YtajbimmfkbgcpaaGreatKChk
import Derived.Test.YtajbimmfkbgcpaaGreatKRing
/- plane.Near and its closure. -/
namespace Go.Proofs.YtajbimmfkbgcpaaGreat
open Go.RowKit

/-- Whether a number is left out: it was met, or is not there. -/
def outB (ns : List Nd) (l : List Int) (x : Int) : Bool := decide (x ∈ l) || !there ns x

set_option maxRecDepth 100000 in
set_option maxHeartbeats 1000000 in
theorem nearC_any (mb gb M : Nat) (a : Option Addr) (ns : List Nd) (cap : Nat) (en tp x : Int) (l : List Int) (w : World) (hB : PBox w gb a ns.length cap en tp) (hl : l.length ≤ 4398046511104)
    (hm : w.cell? ⟨mb, 0, none⟩ = some (.map (some M))) (hM : MapIs w M (Value.int .i64) (cntM l))
    (hNk : ∀ W, Far (· = M) w W → NodesAt W a ns) :
    Calls Tryz.prog 77 #[.int .i64 x, .pointer (some ⟨mb, 0, none⟩), .pointer (some ⟨gb, 0, none⟩)] w fun e w' => e = .returned (.bool (outB ns l x)) ∧ MapIs w' M (Value.int .i64) (cntM (l ++ [x])) ∧ Far (· = M) w w' := by
  have hne : ∀ b i v, w.cell? ⟨b, i, none⟩ = some v → b ≠ M := by
    intro b i v h e
    subst e
    obtain ⟨es, clock, hh, _⟩ := hM
    simp [World.cell?, hh] at h
  have hlook := run_lookup_m (P := Tryz.prog) (t := 94) Tryz.keyInt Tryz.underlying94 (Tryz.zeroInt w) hM x
  rw [cntM_get] at hlook
  have hcl : l.count x ≤ 4398046511104 := Nat.le_trans List.count_le_length hl
  have hput := Lib.hid (cntM_put l x)
  have hHM := Lib.hid hM
  have hne0 := hne _ _ _ hm
  have hne1 := hne _ _ _ hB.c0
  have HNk := Lib.hid hNk
  have HB := Lib.hid hB
  have hmc := Lib.hid hm
  clear hM hB hNk hne
  go_enter Tryz.func77, Tryz.ntmps77
  go_wp2_with (first | (at_mapUpdate; refine wpList_update_m Tryz.keyInt Tryz.underlying94 rfl _ _ _ rfl rfl (by exact hHM.out) x rfl _ rfl ?_))
  intro w2 hm2 ho2
  rw [hput.out] at hm2
  have hf2 : Far (· = M) w w2 := Far.of_only ho2 rfl
  have hlook := run_lookup_m (P := Tryz.prog) (t := 94) Tryz.keyInt Tryz.underlying94 (Tryz.zeroInt w2) hm2 x
  rw [cntM_get, List.count_append] at hlook
  simp only [List.count_singleton_self] at hlook
  have hmc2 := hf2.cell hmc.out hne0
  have b0 := hf2.cell HB.out.c0 hne1
  have b1 := hf2.cell HB.out.c1 hne1
  have b2 := hf2.cell HB.out.c2 hne1
  have hT : ∀ W, Kept w2 W → Calls Tryz.prog 17 #[PlaneV a ns.length cap en tp, .int .i64 x] W fun e w' => e = .returned (.bool (there ns x)) ∧ Kept W w' := fun W hW => There_any a ns cap en tp x W ((HNk.out w2 hf2).keep hW)
  have HT := Lib.hid hT
  have Hf2 := Lib.hid hf2
  have Hm2 := Lib.hid hm2
  clear hm2 ho2 hf2 hT hm
  by_cases hx : x ∈ l
  · have hpos : 0 < l.count x := List.count_pos_iff.2 hx
    have H := Lib.hid (show outB ns l x = true by unfold outB; simp [hx])
    clear hx
    generalize l.count x = cx at *
    go_wp2
    go_ret
    exact ⟨ret_bool H.out.symm, Hm2.out, Hf2.out⟩
  · have hz : l.count x = 0 := List.count_eq_zero_of_not_mem hx
    rw [hz] at hlook
    have H := Lib.hid (show outB ns l x = !there ns x by unfold outB; simp [hx])
    clear hx hz hcl
    go_wp2_with (first | (go_at_call 17; refine (HT.out _ (Kept.rfl' _)).mono ?_; rintro e w3 ⟨rfl, hw3⟩))
    go_ret
    exact ⟨ret_bool H.out.symm, Hm2.out.keep hw3, Hf2.out.trans (Far.of_kept _ hw3)⟩

/-- The slots that plane.Near looks at; those that it leaves. -/
def nearX (ns : List Nd) (slot level : Nat) : List Int :=
  match ns[slot]? with
  | some n => (if 0 < slot ∧ level < n.lists.length then n.lists.getD level [] else []) ++ (if level = 0 then [n.next, n.prev] else [])
  | none => []
def nearP (ns : List Nd) (xs : List Int) (k : Nat) : Bool := outB ns (xs.take k) (xs.getD k 0)
def nearL (ns : List Nd) (slot level : Nat) : List Int := keepTo (nearP ns (nearX ns slot level)) (nearX ns slot level) (nearX ns slot level).length
def NearPost (ns : List Nd) (slot level : Nat) (w : World) (e : Ending) (w' : World) : Prop :=
  ∃ v, e = .returned v ∧ w'.ownsRow w.heap.size 3 1 v (nearL ns slot level).length (ints .i64 (nearL ns slot level)) ∧ Kept w w'

theorem take_snoc' {xs : List Int} {k : Nat} (h : k < xs.length) : xs.take k ++ [xs.getD k 0] = xs.take (k + 1) := (take_snoc_getD h).symm
theorem Tryz.entersNear (args : Array Value) (W : World) : (callFunc 77 args).run Tryz.prog W = .ok (.enter 77 args) W := enters_of Tryz.func77 (by kernel_rfl) rfl args W

/-- The call of slices.DeleteFunc in plane.Near. -/
theorem nearD (w W0 : World) (gb M mb A c base : Nat) (a : Option Addr) (ns : List Nd) (cap : Nat) (en tp : Int) (xs : List Int) (hN : NodesAt w a ns) (hk : Kept w W0) (hl : xs.length ≤ 4398046511104)
    (hB : PBox W0 gb a ns.length cap en tp) (hm : W0.cell? ⟨mb, 0, none⟩ = some (.map (some M))) (hM : MapIs W0 M (Value.int .i64) (cntM ([] : List Int))) (hown : W0.ownsRow base 3 1 (.slice (some ⟨A, 0, none⟩) xs.length c) xs.length (ints .i64 xs))
    (hMw : w.heap.size ≤ M) (hAw : w.heap.size ≤ A) (hgA : gb ≠ A) (hmA : mb ≠ A) :
    Calls Tryz.prog 76 #[.slice (some ⟨A, 0, none⟩) xs.length c, .func (.func 77) #[] #[.pointer (some ⟨mb, 0, none⟩), .pointer (some ⟨gb, 0, none⟩)]] W0
      (DelPost (nearP ns xs) xs base fun k W => MapIs W M (Value.int .i64) (cntM (xs.take k)) ∧ Far (fun b => b = M ∨ b = A) W0 W) := by
  have hne : ∀ b i v, W0.cell? ⟨b, i, none⟩ = some v → b ≠ M := by
    intro b i v h e
    subst e
    obtain ⟨es, clock, hh, _⟩ := hM
    simp [World.cell?, hh] at h
  have hAlt := hown.lt A rfl
  have hAM : A ≠ M := by
    intro e
    subst e
    obtain ⟨es, clock, hh, _⟩ := hM
    rcases hown.2 with ⟨h', _⟩ | ⟨g', cap', cur, h', _, hg, _⟩
    · simp at h'
    · simp only [Value.slice.injEq, Option.some.injEq, Addr.mk.injEq, and_true, true_and] at h'
      obtain ⟨rfl, rfl⟩ := h'
      rw [hh] at hg
      cases hg
  have key : ∀ k W, k < xs.length → (MapIs W M (Value.int .i64) (cntM (xs.take k)) ∧ Far (fun b => b = M ∨ b = A) W0 W) →
      Calls Tryz.prog 77 (#[.int .i64 (xs.getD k 0)] ++ #[.pointer (some ⟨mb, 0, none⟩), .pointer (some ⟨gb, 0, none⟩)]) W fun e W' => e = .returned (.bool (nearP ns xs k)) ∧ (MapIs W' M (Value.int .i64) (cntM (xs.take (k + 1))) ∧ Far (fun b => b = M ∨ b = A) W0 W') ∧ W'.heap[A]? = W.heap[A]? := by
    intro k W hk' hI
    have hf := hI.2
    refine (nearC_any mb gb M a ns cap en tp (xs.getD k 0) (xs.take k) W ⟨hf.cell hB.c0 (by intro h; rcases h with h | h; exact hne _ _ _ hB.c0 h; exact hgA h), hf.cell hB.c1 (by intro h; rcases h with h | h; exact hne _ _ _ hB.c0 h; exact hgA h), hf.cell hB.c2 (by intro h; rcases h with h | h; exact hne _ _ _ hB.c0 h; exact hgA h)⟩
      (by rw [List.length_take]; omega) (hf.cell hm (by intro h; rcases h with h | h; exact hne _ _ _ hm h; exact hmA h)) hI.1 (fun W' hW' => ?_)).mono ?_
    · refine hN.keep (Below.trans hk ?_)
      exact (hf.trans (hW'.mono fun _ _ h => .inl h)).below (by intro b hb; rcases hb with hb | hb <;> omega) hk.size
    · rintro e W' ⟨he, hm', hf'⟩
      rw [take_snoc' hk'] at hm'
      exact ⟨he, ⟨hm', hf.trans (hf'.mono fun _ _ h => .inl h)⟩, hf'.block A (Nat.lt_of_lt_of_le hAlt.2 hf.size) hAM⟩
  refine DeleteFunc_own 77 _ (nearP ns xs) _ base A c xs W0 (by omega) Tryz.entersNear hown ?_ key ?_ ⟨by simpa using hM, Far.refl _ _⟩
  · intro k W hk' hI
    exact (key k W hk' hI.1).mono fun e W' h => ⟨h.1, h.2.1, h.2.2.trans hI.2⟩
  · intro k W W' hI ho
    exact ⟨hI.1.of_block (ho.block M (Ne.symm hAM)), hI.2.trans (Far.of_only ho (.inr rfl))⟩

theorem DeleteFunc_nil (g : FuncId) (cap : Array Value) (w : World) (eg : ∀ args W, (callFunc g args).run Tryz.prog W = .ok (.enter g args) W) :
    Calls Tryz.prog 76 #[.slice none 0 0, .func (.func g) #[] cap] w fun e w' => e = .returned (.slice none 0 0) ∧ w = w' := by
  have hI := Lib.hid (IndexFunc_st g cap (fun _ => false) (fun _ W => w = W) none 0 [] w (by simp) eg (fun k W h => IntsAt.nil _ _ _) (fun k W hk => absurd hk (by simp)) rfl)
  clear eg
  go_enter Tryz.func76, Tryz.ntmps76
  go_wp2_with fail
  refine hI.out.mono ?_
  rintro e w1 (⟨rfl, rfl, -⟩ | ⟨r, hr, -⟩)
  · go_wp2
    go_ret
    exact ⟨rfl, rfl⟩
  · exact absurd hr (by simp)
end Go.Proofs.YtajbimmfkbgcpaaGreat

/- plane.Near. -/
namespace Go.Proofs.YtajbimmfkbgcpaaGreat
open Go.RowKit

/-- 'out = append(out, x, y ..)', what is appended just laid in a block of its own. -/
theorem wpList_push_many {P : Program} {T e : TypeId} {z : Value} {size bytes : Nat} (E : Elem P T e z size bytes) {w : World} {ops : Array Oper} {rest : List Oper} {o : Oper} {a : Act} {Q : Exit → Act → World → Prop}
    (hgd : o.guard = none) (s x : Operand) (ho : o.op = .call { callee := .builtin .append, args := #[s, x], argTypes := #[T, T] })
    (base : Nat) (v : Value) (n m c : Nat) (xs : List Value) (arr : Array Value) (B : Nat) (hB : B = w.heap.size) (hs : a.eval s = v) (hx : a.eval x = .slice (some ⟨B, 0, none⟩) m c)
    (hown : w.ownsRow base e size v n xs) (harr : arr.size = m * size) (h1 : ∀ u ∈ arr.toList, u.oneCell' = true)
    (h63 : n + m ≤ maxLen) (hbytes : (n + m) * bytes ≤ 140737488355328) (hbase : base ≤ w.heap.size)
    (hK : ∀ v' w', w'.ownsRow base e size v' (n + m) (xs ++ arr.toList) → Below base w w' → (v' = .slice none 0 0 → m = 0) → wpList P ops Q rest (a.put o.dst v') w') :
    wpList P ops Q (o :: rest) a (w.alloc (.cells arr e)) := by
  obtain ⟨i, hi, hz0, hz1, hz2⟩ := info_parts E.info
  have hb1 : Below base w (w.alloc (.cells arr e)) := (Below.refl base w).alloc hbase _
  subst hB
  refine wpList_append_own (w.alloc (.cells arr e)) hgd s x T ho base e i z size bytes E.under hi hz0 hz1 hz2 E.zs E.pos v n xs hs (hown.alloc _) ⟨w.heap.size, 0, none⟩ m c arr.toList hx (by simp [harr]) (cells_new w arr e) h1 h63 hbytes (Nat.le_trans hbase hb1.size) ?_
  intro v' w' hown' hg hn
  exact hK v' w' hown' (hb1.trans (own_below (hown.alloc _) hg (Nat.le_trans hbase hb1.size))) (fun h => (hn.1 h).2)

theorem nearX_eq {ns : List Nd} {slot level : Nat} {n : Nd} (hn : ns[slot]? = some n) : nearX ns slot level = (if 0 < slot ∧ level < n.lists.length then n.lists.getD level [] else []) ++ (if level = 0 then [n.next, n.prev] else []) := by
  unfold nearX; rw [hn]

/-- How the walk of plane.Near ends: the numbers that were gathered are in a row of its own. -/
theorem near_end {ns : List Nd} {slot level : Nat} {w W0 w' : World} {v : Value} {base : Nat} {G : Nat → Prop} (hk : Kept w W0) (hb : w.heap.size ≤ base) (hf : Far G W0 w') (hG : ∀ k, G k → w.heap.size ≤ k)
    (ho : w'.ownsRow base 3 1 v (keepTo (nearP ns (nearX ns slot level)) (nearX ns slot level) (nearX ns slot level).length).length (ints .i64 (keepTo (nearP ns (nearX ns slot level)) (nearX ns slot level) (nearX ns slot level).length))) : NearPost ns slot level w (.returned v) w' :=
  ⟨v, rfl, own_weaken ho hb, Below.trans hk (hf.below hG hk.size)⟩
theorem near_nil {ns : List Nd} {slot level : Nat} {w w' : World} (hk : Kept w w') (hx : nearX ns slot level = []) : NearPost ns slot level w (.returned (.slice none 0 0)) w' :=
  ⟨_, rfl, by unfold nearL; rw [hx]; exact World.ownsRow_nil _ _ _ _, hk⟩

set_option maxRecDepth 100000 in
set_option maxHeartbeats 2000000 in
theorem Near_any (a : Option Addr) (ns : List Nd) (cap : Nat) (en tp : Int) (slot level : Nat) (n : Nd) (w : World) (hN : NodesAt w a ns) (hn : ns[slot]? = some n) (hlist : 0 < slot → ∀ l ∈ n.lists, l.length ≤ 1099511627776) :
    Calls Tryz.prog 59 #[PlaneV a ns.length cap en tp, .int .i64 (slot : Int), .int .i64 (level : Int)] w (NearPost ns slot level w) := by
  have hsl : slot < ns.length := (List.getElem?_eq_some_iff.1 hn).1
  obtain ⟨b, o, rfl, hlt, hc, -, hls, hf⟩ := hN slot n hn
  have hX := nearX_eq (level := level) hn
  obtain ⟨nid, nva, nvc, nvec, ntags, nlev, nla, nlc, nls, nnext, nprev⟩ := n
  simp only at hX hlist hls
  have q0 : w.cell? ⟨b, o + slot * 7, none⟩ = some (.int .u64 nid) := hc 0 _ rfl
  have q1 : w.cell? ⟨b, o + slot * 7 + 1, none⟩ = some (.slice nva nvec.length nvc) := hc 1 _ rfl
  have q2 : w.cell? ⟨b, o + slot * 7 + 2, none⟩ = some (.int .u64 ntags) := hc 2 _ rfl
  have q3 : w.cell? ⟨b, o + slot * 7 + 3, none⟩ = some (.int .i64 nlev) := hc 3 _ rfl
  have q4 : w.cell? ⟨b, o + slot * 7 + 4, none⟩ = some (.slice nla nls.length nlc) := hc 4 _ rfl
  have q5 : w.cell? ⟨b, o + slot * 7 + 5, none⟩ = some (.int .i64 nnext) := hc 5 _ rfl
  have q6 : w.cell? ⟨b, o + slot * 7 + 6, none⟩ = some (.int .i64 nprev) := hc 6 _ rfl
  have hnl : nls.length ≤ 35184372088832 := hf.listlen
  have hmm := @run_makeMap Tryz.prog
  have hk1 : Kept w ((w.alloc (.cells #[.slice (some ⟨b, o, none⟩) ns.length cap, .int .i64 en, .int .i64 tp] 24)).alloc (.cells #[.int .u64 nid, .slice nva nvec.length nvc, .int .u64 ntags, .int .i64 nlev, .slice nla nls.length nlc, .int .i64 nnext, .int .i64 nprev] 53)) := Kept.trans (kept_alloc w _) (kept_alloc _ _)
  have hpb : PBox ((w.alloc (.cells #[.slice (some ⟨b, o, none⟩) ns.length cap, .int .i64 en, .int .i64 tp] 24)).alloc (.cells #[.int .u64 nid, .slice nva nvec.length nvc, .int .u64 ntags, .int .i64 nlev, .slice nla nls.length nlc, .int .i64 nnext, .int .i64 nprev] 53)) w.heap.size (some ⟨b, o, none⟩) ns.length cap en tp := (PBox.new w (some ⟨b, o, none⟩) ns.length cap en tp 24).keep (kept_alloc _ _)
  have hnc5 : (((w.alloc (.cells #[.slice (some ⟨b, o, none⟩) ns.length cap, .int .i64 en, .int .i64 tp] 24)).alloc (.cells #[.int .u64 nid, .slice nva nvec.length nvc, .int .u64 ntags, .int .i64 nlev, .slice nla nls.length nlc, .int .i64 nnext, .int .i64 nprev] 53))).cell? ⟨w.heap.size + 1, 5, none⟩ = some (.int .i64 nnext) := cell_new (by simp) rfl
  have hnc6 : (((w.alloc (.cells #[.slice (some ⟨b, o, none⟩) ns.length cap, .int .i64 en, .int .i64 tp] 24)).alloc (.cells #[.int .u64 nid, .slice nva nvec.length nvc, .int .u64 ntags, .int .i64 nlev, .slice nla nls.length nlc, .int .i64 nnext, .int .i64 nprev] 53))).cell? ⟨w.heap.size + 1, 6, none⟩ = some (.int .i64 nprev) := cell_new (by simp) rfl
  have HN := Lib.hid hN; have Hk1 := Lib.hid hk1; have HPB := Lib.hid hpb; have HNC5 := Lib.hid hnc5; have HNC6 := Lib.hid hnc6; have Hlt := Lib.hid hlt
  have hs0 : (0 : Int) ≤ (slot : Int) := by omega
  by_cases hcond : 0 < slot ∧ level < nls.length
  · obtain ⟨hc1, hc2⟩ := hcond
    rw [if_pos ⟨hc1, hc2⟩] at hX
    obtain ⟨b2, o2, la, lc, hla, hcl, hi⟩ := hls.at_ hc2
    have hll : (nls.getD level []).length ≤ 1099511627776 := by
      have : nls.getD level [] = nls[level] := by simp [hc2]
      rw [this]; exact hlist hc1 _ (List.getElem_mem hc2)
    have hlt2 := lt_of_cell hcl
    subst hla
    have HLL := Lib.hid hll
    have HCl := Lib.hid (fun W (h : Kept w W) => Clone_int la lc (nls.getD level []) W (by omega) (hi.keep h))
    have hb21 : b2 < w.heap.size + 1 := by omega
    have hb1 : b < w.heap.size + 1 := by omega
    generalize hgl : nls.getD level [] = l at *
    have Hcl := Lib.hid hcl
    clear hN hc hls hf hn hi hgl hll hk1 hpb hnc5 hnc6 hlist
    by_cases hl0 : level = 0
    · have hd0 : ((level : Int) == 0) = true := by rw [beq_iff_eq]; omega
      rw [if_pos hl0] at hX
      clear hl0
      go_enter Tryz.func59, Tryz.ntmps59
      go_wp2_with fail
      refine (HCl.out _ Hk1.out).mono ?_
      rintro e w2 ⟨v, rfl, hown, hk2⟩
      have n5 : w2.cell? ⟨w.heap.size + 1, 5, none⟩ = some (.int .i64 nnext) := (hk2.cell (p := ⟨w.heap.size + 1, 5, none⟩) (by simp)).trans (HNC5.out)
      have n6 : w2.cell? ⟨w.heap.size + 1, 6, none⟩ = some (.int .i64 nprev) := (hk2.cell (p := ⟨w.heap.size + 1, 6, none⟩) (by simp)).trans (HNC6.out)
      have Hk2 := Lib.hid hk2
      have hsz2 := hk2.size
      simp only [alloc_size] at hsz2
      have Hown := Lib.hid (own_weaken hown (show w.heap.size + 1 + 1 ≤ _ by simp only [alloc_size]; omega))
      clear hk2 hown
      go_wp2_with (first | (at_builtin; refine wpList_push_many Tryz.elemInt rfl _ _ rfl (w.heap.size + 1 + 1) _ l.length 2 2 (ints .i64 l) #[.int .i64 nnext, .int .i64 nprev] _ rfl rfl rfl (by exact Hown.out) rfl ?c1 ?c2 ?c3 ?c4 ?_))
      case c1 => simp [Value.oneCell']
      case c2 => unfold maxLen; have := HLL.out; omega
      case c3 => have := HLL.out; omega
      case c4 => omega
      intro v3 w3 hown3 hb3 _
      have hxs : ints .i64 l ++ (#[Value.int .i64 nnext, Value.int .i64 nprev] : Array Value).toList = ints .i64 (l ++ [nnext, nprev]) := by simp [ints]
      have hxl2 : l.length + 2 = (l ++ [nnext, nprev]).length := by simp
      rw [hxs, hxl2] at hown3
      obtain ⟨A, cA, rfl⟩ : ∃ A cA, v3 = .slice (some ⟨A, 0, none⟩) (l ++ [nnext, nprev]).length cA := by
        rcases hown3.2 with ⟨_, h0⟩ | ⟨g, cap', cur, hv, _⟩
        · simp at h0
        · exact ⟨g, cap', hv⟩
      have hAl := hown3.lt A rfl
      try simp only [alloc_size] at hAl
      have hxl := Lib.hid (show (l ++ [nnext, nprev]).length ≤ 4398046511104 by have := HLL.out; simp; omega)
      have hbase := Lib.hid (show w.heap.size ≤ w.heap.size + 1 + 1 by omega)
      have hkW1 : Kept ((w.alloc (.cells #[.slice (some ⟨b, o, none⟩) ns.length cap, .int .i64 en, .int .i64 tp] 24)).alloc (.cells #[.int .u64 nid, .slice nva nvec.length nvc, .int .u64 ntags, .int .i64 nlev, .slice (some ⟨b2, o2, none⟩) nls.length nlc, .int .i64 nnext, .int .i64 nprev] 53)) w3 := Below.trans Hk2.out (hb3.mono (by simp only [alloc_size]; omega))
      have hxl3 := Lib.hid hxl2
      clear hb3 hxs hxl2 n5 n6
      generalize hgx : l ++ [nnext, nprev] = xs at *
      replace hown3 := Lib.hid hown3
      have hX := Lib.hid hX
      replace hX := hX.out
      have hk3 : Kept w w3 := Kept.trans Hk1.out hkW1
      have hk4 : Kept w ((w3.alloc (.map #[] 0)).alloc (.cells #[.map (some w3.heap.size)] 94)) := Kept.trans hk3 (Kept.trans (kept_alloc _ _) (kept_alloc _ _))
      have hk5 : Kept w3 ((w3.alloc (.map #[] 0)).alloc (.cells #[.map (some w3.heap.size)] 94)) := Kept.trans (kept_alloc _ _) (kept_alloc _ _)
      have hD := Lib.hid (nearD w ((w3.alloc (.map #[] 0)).alloc (.cells #[.map (some w3.heap.size)] 94)) w.heap.size w3.heap.size (w3.heap.size + 1) A cA (w.heap.size + 1 + 1) (some ⟨b, o, none⟩) ns cap en tp _ HN.out hk4 (by exact hxl.out) (HPB.out.keep (Kept.trans hkW1 hk5)) (cell_new (by simp) rfl) ((MapIs.new w3 (Value.int .i64)).keep (kept_alloc _ _)) (own_kept hown3.out hk5) (by have := hk3.size; omega) (by omega) (by omega) (by omega))
      have Hk4 := Lib.hid hk4
      have hsz3 := hk3.size
      have Hown3 := Lib.hid hown3
      clear hk3 hk4 hk5 hkW1 hown3
      go_wp2_with fail
      refine hD.out.mono ?_
      rintro e w6 ⟨v6, rfl, ho6, hI6⟩
      have Hend := Lib.hid (near_end (ns := ns) (slot := slot) (level := level) (v := v6) Hk4.out (by exact hbase.out) hI6.2 (by intro k hk; rcases hk with hk | hk <;> omega) (by rw [hX]; exact ho6))
      clear ho6 hI6
      go_wp2
      go_ret
      exact Hend.out
    · have hd0 : ((level : Int) == 0) = false := by rw [beq_eq_false_iff_ne]; omega
      rw [if_neg hl0, List.append_nil] at hX
      clear hl0
      go_enter Tryz.func59, Tryz.ntmps59
      go_wp2_with fail
      refine (HCl.out _ Hk1.out).mono ?_
      rintro e w2 ⟨v, rfl, hown, hk2⟩
      have hkW1 : Kept ((w.alloc (.cells #[.slice (some ⟨b, o, none⟩) ns.length cap, .int .i64 en, .int .i64 tp] 24)).alloc (.cells #[.int .u64 nid, .slice nva nvec.length nvc, .int .u64 ntags, .int .i64 nlev, .slice (some ⟨b2, o2, none⟩) nls.length nlc, .int .i64 nnext, .int .i64 nprev] 53)) w2 := hk2
      have hsz2 := hk2.size
      simp only [alloc_size] at hsz2
      have hown3 := own_weaken hown (show w.heap.size + 1 + 1 ≤ _ by simp only [alloc_size]; omega)
      clear hk2 hown
      rcases hown3.2 with ⟨rfl, h0⟩ | ⟨A, cA, cur, rfl, _⟩
      · have hxn : nearX ns slot level = [] := by rw [hX]; exact List.eq_nil_of_length_eq_zero h0
        have Hend := Lib.hid (fun w' h => near_nil (ns := ns) (slot := slot) (level := level) (w := w) (w' := w') h hxn)
        have HD := Lib.hid (fun W => DeleteFunc_nil 77 #[.pointer (some ⟨w2.heap.size + 1, 0, none⟩), .pointer (some ⟨w.heap.size, 0, none⟩)] W Tryz.entersNear)
        have Hkw := Lib.hid (Kept.trans (Kept.trans Hk1.out hkW1) (Kept.trans (kept_alloc w2 (.map #[] 0)) (kept_alloc _ (.cells #[.map (some w2.heap.size)] 94))))
        clear hown3 h0 hX hxn hkW1
        go_wp2_with (first | (go_at_call 76; refine (HD.out _).mono ?_; rintro e w' ⟨rfl, rfl⟩))
        go_ret
        exact Hend.out _ Hkw.out
      · have hAl := hown3.lt A rfl
        have hxl := Lib.hid (show l.length ≤ 4398046511104 by have := HLL.out; omega)
        have hbase := Lib.hid (show w.heap.size ≤ w.heap.size + 1 + 1 by omega)
        replace hown3 := Lib.hid hown3
        have hk3 : Kept w w2 := Kept.trans Hk1.out hkW1
        have hk4 : Kept w ((w2.alloc (.map #[] 0)).alloc (.cells #[.map (some w2.heap.size)] 94)) := Kept.trans hk3 (Kept.trans (kept_alloc _ _) (kept_alloc _ _))
        have hk5 : Kept w2 ((w2.alloc (.map #[] 0)).alloc (.cells #[.map (some w2.heap.size)] 94)) := Kept.trans (kept_alloc _ _) (kept_alloc _ _)
        have hD := Lib.hid (nearD w ((w2.alloc (.map #[] 0)).alloc (.cells #[.map (some w2.heap.size)] 94)) w.heap.size w2.heap.size (w2.heap.size + 1) A cA (w.heap.size + 1 + 1) (some ⟨b, o, none⟩) ns cap en tp _ HN.out hk4 (by exact hxl.out) (HPB.out.keep (Kept.trans hkW1 hk5)) (cell_new (by simp) rfl) ((MapIs.new w2 (Value.int .i64)).keep (kept_alloc _ _)) (own_kept hown3.out hk5) (by have := hk3.size; omega) (by omega) (by omega) (by omega))
        have Hk4 := Lib.hid hk4
        have hsz3 := hk3.size
        have Hown3 := Lib.hid hown3
        clear hk3 hk4 hk5 hkW1 hown3
        go_wp2_with fail
        refine hD.out.mono ?_
        rintro e w6 ⟨v6, rfl, ho6, hI6⟩
        have Hend := Lib.hid (near_end (ns := ns) (slot := slot) (level := level) (v := v6) Hk4.out (by exact hbase.out) hI6.2 (by intro k hk; rcases hk with hk | hk <;> omega) (by rw [hX]; exact ho6))
        clear ho6 hI6
        go_wp2
        go_ret
        exact Hend.out
  · rw [if_neg hcond, List.nil_append] at hX
    have hb1 : b < w.heap.size + 1 := by omega
    clear hN hc hls hf hn hk1 hpb hlist
    have hgg : Hid (¬ (0 < slot ∧ level < nls.length)) := hcond
    clear hcond
    by_cases hl0 : level = 0
    · have hd0 : ((level : Int) == 0) = true := by rw [beq_iff_eq]; omega
      rw [if_pos hl0] at hX
      have Hl0 := Lib.hid hl0
      clear hl0
      rcases Nat.eq_zero_or_pos slot with hz | hz
      · have hz' : (slot : Int) ≤ 0 := by omega
        clear hz
        have HEmp := Lib.hid (World.ownsRow_nil ((w.alloc (.cells #[.slice (some ⟨b, o, none⟩) ns.length cap, .int .i64 en, .int .i64 tp] 24)).alloc (.cells #[.int .u64 nid, .slice nva nvec.length nvc, .int .u64 ntags, .int .i64 nlev, .slice nla nls.length nlc, .int .i64 nnext, .int .i64 nprev] 53)) (w.heap.size + 1 + 1) 3 1)
        go_enter Tryz.func59, Tryz.ntmps59
        go_wp2_with (first | (at_builtin; refine wpList_push_many Tryz.elemInt rfl _ _ rfl (w.heap.size + 1 + 1) _ 0 2 2 [] #[.int .i64 nnext, .int .i64 nprev] (w.heap.size + 1 + 1) (by simp) rfl rfl (by exact HEmp.out) rfl ?c1 ?c2 ?c3 ?c4 ?_))
        case c1 => simp [Value.oneCell']
        case c2 => unfold maxLen; omega
        case c3 => omega
        case c4 => simp
        intro v3 w3 hown3 hb3 _
        change w3.ownsRow _ _ _ _ ([nnext, nprev] : List Int).length (ints .i64 [nnext, nprev]) at hown3
        obtain ⟨A, cA, rfl⟩ : ∃ A cA, v3 = .slice (some ⟨A, 0, none⟩) ([nnext, nprev] : List Int).length cA := by
          rcases hown3.2 with ⟨_, h0⟩ | ⟨g, cap', cur, hv, _⟩
          · simp at h0
          · exact ⟨g, cap', hv⟩
        have hAl := hown3.lt A rfl
        have hxl := Lib.hid (show ([nnext, nprev] : List Int).length ≤ 4398046511104 by simp)
        have hbase := Lib.hid (show w.heap.size ≤ w.heap.size + 1 + 1 by omega)
        have hkW1 : Kept ((w.alloc (.cells #[.slice (some ⟨b, o, none⟩) ns.length cap, .int .i64 en, .int .i64 tp] 24)).alloc (.cells #[.int .u64 nid, .slice nva nvec.length nvc, .int .u64 ntags, .int .i64 nlev, .slice nla nls.length nlc, .int .i64 nnext, .int .i64 nprev] 53)) w3 := hb3.mono (by simp only [alloc_size]; omega)
        clear hb3 hnc5 hnc6
        generalize hgx : ([nnext, nprev] : List Int) = xs at *
        replace hown3 := Lib.hid hown3
        have hgx := Lib.hid hgx
        have hk3 : Kept w w3 := Kept.trans Hk1.out hkW1
        have hk4 : Kept w ((w3.alloc (.map #[] 0)).alloc (.cells #[.map (some w3.heap.size)] 94)) := Kept.trans hk3 (Kept.trans (kept_alloc _ _) (kept_alloc _ _))
        have hk5 : Kept w3 ((w3.alloc (.map #[] 0)).alloc (.cells #[.map (some w3.heap.size)] 94)) := Kept.trans (kept_alloc _ _) (kept_alloc _ _)
        have hD := Lib.hid (nearD w ((w3.alloc (.map #[] 0)).alloc (.cells #[.map (some w3.heap.size)] 94)) w.heap.size w3.heap.size (w3.heap.size + 1) A cA (w.heap.size + 1 + 1) (some ⟨b, o, none⟩) ns cap en tp _ HN.out hk4 (by exact hxl.out) (HPB.out.keep (Kept.trans hkW1 hk5)) (cell_new (by simp) rfl) ((MapIs.new w3 (Value.int .i64)).keep (kept_alloc _ _)) (own_kept hown3.out hk5) (by have := hk3.size; omega) (by omega) (by omega) (by omega))
        have Hk4 := Lib.hid hk4
        have hsz3 := hk3.size
        have Hown3 := Lib.hid hown3
        clear hk3 hk4 hk5 hkW1 hown3
        go_wp2_with fail
        refine hD.out.mono ?_
        rintro e w6 ⟨v6, rfl, ho6, hI6⟩
        have Hend := Lib.hid (near_end (ns := ns) (slot := slot) (level := level) (v := v6) Hk4.out (by exact hbase.out) hI6.2 (by intro k hk; rcases hk with hk | hk <;> omega) (by rw [hX]; exact ho6))
        clear ho6 hI6
        go_wp2
        go_ret
        exact Hend.out
      · have hz' : nls.length ≤ level := by have := hgg.out; omega
        have HEmp := Lib.hid (World.ownsRow_nil ((w.alloc (.cells #[.slice (some ⟨b, o, none⟩) ns.length cap, .int .i64 en, .int .i64 tp] 24)).alloc (.cells #[.int .u64 nid, .slice nva nvec.length nvc, .int .u64 ntags, .int .i64 nlev, .slice nla nls.length nlc, .int .i64 nnext, .int .i64 nprev] 53)) (w.heap.size + 1 + 1) 3 1)
        go_enter Tryz.func59, Tryz.ntmps59
        go_wp2_with (first | (at_builtin; refine wpList_push_many Tryz.elemInt rfl _ _ rfl (w.heap.size + 1 + 1) _ 0 2 2 [] #[.int .i64 nnext, .int .i64 nprev] (w.heap.size + 1 + 1) (by simp) rfl rfl (by exact HEmp.out) rfl ?c1 ?c2 ?c3 ?c4 ?_))
        case c1 => simp [Value.oneCell']
        case c2 => unfold maxLen; omega
        case c3 => omega
        case c4 => simp
        intro v3 w3 hown3 hb3 _
        change w3.ownsRow _ _ _ _ ([nnext, nprev] : List Int).length (ints .i64 [nnext, nprev]) at hown3
        obtain ⟨A, cA, rfl⟩ : ∃ A cA, v3 = .slice (some ⟨A, 0, none⟩) ([nnext, nprev] : List Int).length cA := by
          rcases hown3.2 with ⟨_, h0⟩ | ⟨g, cap', cur, hv, _⟩
          · simp at h0
          · exact ⟨g, cap', hv⟩
        have hAl := hown3.lt A rfl
        have hxl := Lib.hid (show ([nnext, nprev] : List Int).length ≤ 4398046511104 by simp)
        have hbase := Lib.hid (show w.heap.size ≤ w.heap.size + 1 + 1 by omega)
        have hkW1 : Kept ((w.alloc (.cells #[.slice (some ⟨b, o, none⟩) ns.length cap, .int .i64 en, .int .i64 tp] 24)).alloc (.cells #[.int .u64 nid, .slice nva nvec.length nvc, .int .u64 ntags, .int .i64 nlev, .slice nla nls.length nlc, .int .i64 nnext, .int .i64 nprev] 53)) w3 := hb3.mono (by simp only [alloc_size]; omega)
        clear hb3 hnc5 hnc6
        generalize hgx : ([nnext, nprev] : List Int) = xs at *
        replace hown3 := Lib.hid hown3
        have hgx := Lib.hid hgx
        have hk3 : Kept w w3 := Kept.trans Hk1.out hkW1
        have hk4 : Kept w ((w3.alloc (.map #[] 0)).alloc (.cells #[.map (some w3.heap.size)] 94)) := Kept.trans hk3 (Kept.trans (kept_alloc _ _) (kept_alloc _ _))
        have hk5 : Kept w3 ((w3.alloc (.map #[] 0)).alloc (.cells #[.map (some w3.heap.size)] 94)) := Kept.trans (kept_alloc _ _) (kept_alloc _ _)
        have hD := Lib.hid (nearD w ((w3.alloc (.map #[] 0)).alloc (.cells #[.map (some w3.heap.size)] 94)) w.heap.size w3.heap.size (w3.heap.size + 1) A cA (w.heap.size + 1 + 1) (some ⟨b, o, none⟩) ns cap en tp _ HN.out hk4 (by exact hxl.out) (HPB.out.keep (Kept.trans hkW1 hk5)) (cell_new (by simp) rfl) ((MapIs.new w3 (Value.int .i64)).keep (kept_alloc _ _)) (own_kept hown3.out hk5) (by have := hk3.size; omega) (by omega) (by omega) (by omega))
        have Hk4 := Lib.hid hk4
        have hsz3 := hk3.size
        have Hown3 := Lib.hid hown3
        clear hk3 hk4 hk5 hkW1 hown3
        go_wp2_with fail
        refine hD.out.mono ?_
        rintro e w6 ⟨v6, rfl, ho6, hI6⟩
        have Hend := Lib.hid (near_end (ns := ns) (slot := slot) (level := level) (v := v6) Hk4.out (by exact hbase.out) hI6.2 (by intro k hk; rcases hk with hk | hk <;> omega) (by rw [hX]; exact ho6))
        clear ho6 hI6
        go_wp2
        go_ret
        exact Hend.out
    · have hd0 : ((level : Int) == 0) = false := by rw [beq_eq_false_iff_ne]; omega
      rw [if_neg hl0] at hX
      clear hl0 hnc5 hnc6
      have Hend := Lib.hid (fun w' h => near_nil (ns := ns) (slot := slot) (level := level) (w := w) (w' := w') h hX)
      have HD := Lib.hid (fun W => DeleteFunc_nil 77 #[.pointer (some ⟨w.heap.size + 1 + 1 + 1, 0, none⟩), .pointer (some ⟨w.heap.size, 0, none⟩)] W Tryz.entersNear)
      have Hkw := Lib.hid (fun W (h : Kept ((w.alloc (.cells #[.slice (some ⟨b, o, none⟩) ns.length cap, .int .i64 en, .int .i64 tp] 24)).alloc (.cells #[.int .u64 nid, .slice nva nvec.length nvc, .int .u64 ntags, .int .i64 nlev, .slice nla nls.length nlc, .int .i64 nnext, .int .i64 nprev] 53)) W) => Kept.trans Hk1.out h)
      clear hX
      rcases Nat.eq_zero_or_pos slot with hz | hz
      · have hz' : (slot : Int) ≤ 0 := by omega
        clear hz
        go_enter Tryz.func59, Tryz.ntmps59
        go_wp2_with (first | (go_at_call 76; refine (HD.out _).mono ?_; rintro e w' ⟨rfl, rfl⟩))
        go_ret
        exact Hend.out _ (Hkw.out _ (Kept.trans (kept_alloc _ _) (kept_alloc _ _)))
      · have hz' : nls.length ≤ level := by have := hgg.out; omega
        go_enter Tryz.func59, Tryz.ntmps59
        go_wp2_with (first | (go_at_call 76; refine (HD.out _).mono ?_; rintro e w' ⟨rfl, rfl⟩))
        go_ret
        exact Hend.out _ (Hkw.out _ (Kept.trans (kept_alloc _ _) (kept_alloc _ _)))
end Go.Proofs.YtajbimmfkbgcpaaGreat
