/-
  slices.Clone at []int32; probe.New.
  probe.Probe.Offer.
  probe.Probe: done, Want, Found.
  probe.Probe: Want, Found.
-/
import Derived.Test.YtajbimmfkbgcpaaGreatKWalk
/- slices.Clone at []int32; probe.New. -/
namespace Go.Proofs.YtajbimmfkbgcpaaGreat
open Go.RowKit

theorem Tryz.elemI32 : Elem Tryz.prog 25 21 (.int .i32 0) 1 4 := ⟨Tryz.underlying25, by kernel_rfl, rfl, by omega⟩
set_option maxRecDepth 100000 in
set_option maxHeartbeats 400000 in
theorem Clone_i32 (a : Option Addr) (c : Nat) (xs : List Int) (w : World) (hl : xs.length ≤ 4398046511104) (hX : IntsAt .i32 w a xs) :
    Calls Tryz.prog 70 #[.slice a xs.length c] w (ClonePost .i32 21 xs w) := by
  rcases a with _ | A
  · have h0 : xs = [] := by
      cases xs with
      | nil => rfl
      | cons x xs => obtain ⟨b, o, h, _⟩ := hX 0 x rfl; cases h
    subst h0
    have hn := fun W => Lib.run_eql_slice_nil (P := Tryz.prog) W 25 21 none 0 c 0 0 Tryz.underlying25
    go_enter Tryz.func70, Tryz.ntmps70
    go_wp2
    go_ret
    exact ⟨_, rfl, World.ownsRow_nil _ _ _ _, Kept.rfl' w⟩
  · have hn := fun W => Lib.run_eql_slice_nil (P := Tryz.prog) W 25 21 (some A) xs.length c 0 0 Tryz.underlying25
    have hcells : Hid (∀ j u, (ints .i32 xs)[j]? = some u → (w.alloc (.cells #[] 21)).cell? (A.add j) = some u) := by
      intro j u hj
      rw [ints, List.getElem?_map, Option.map_eq_some_iff] at hj
      obtain ⟨x, hx, rfl⟩ := hj
      obtain ⟨b, o, hA, hlt, hc⟩ := hX j x hx
      injection hA with hA
      subst hA
      have : (⟨b, o, none⟩ : Addr).add j = ⟨b, o + j, none⟩ := by unfold Addr.add; split <;> simp_all
      rw [this]
      exact (World.cell?_alloc_lt w _ ⟨b, o + j, none⟩ hlt).trans hc
    have hnew : Hid ((w.alloc (.cells #[] 21)).ownsRow w.heap.size 21 1 (.slice (some ⟨w.heap.size, 0, none⟩) 0 0) 0 []) := World.ownsRow_made w #[] 0 (Nat.le_refl _) (by unfold maxLen; omega) (by simp)
    obtain ⟨i0, hi0, hz0, hz1, hz2⟩ := info_parts Tryz.elemI32.info
    have hlen := Lib.hid (ints_length .i32 xs)
    clear hX
    go_enter Tryz.func70, Tryz.ntmps70
    go_wp2_with (first | (at_builtin; refine wpList_append_own _ rfl _ _ 25 rfl w.heap.size 21 i0 (.int .i32 0) 1 4 Tryz.underlying25 hi0 hz0 hz1 hz2 rfl (by decide) _ _ _ rfl (by exact hnew.out) A xs.length c (ints .i32 xs) rfl ?c0 (by exact hcells.out) (ints_oneC _ _) ?c1 ?c2 ?c3 ?_))
    case c0 => rw [ints_length]; omega
    case c1 => unfold maxLen; omega
    case c2 => omega
    case c3 => simp
    intro v' w' hown hg _
    have hk : Hid (Kept w w') := Below.trans (kept_alloc w (.cells #[] 21)) (own_below hnew.out hg (by simp))
    have Hown := Lib.hid hown
    clear hown hg
    go_wp2
    go_ret
    exact ⟨v', rfl, by simpa using Hown.out, hk.out⟩

/-- Where a probe lies. -/
structure PB where
  pb : Nat
  kb : Nat
  hq : Nat
  hb : Nat
  aq : Option Addr
  cq : Nat

/-- A probe: what it looks for, what it knows, what waits, what is best; the blocks in S are none that it turns. -/
structure ProbeIs (w : World) (S : Nat → Prop) (B : PB) (q : List Int) (mask ef : Int) (seen : List Int) (vq : Value) (xq : List Sp) (vb : Value) (xb : List Sp) : Prop where
  p0 : w.cell? ⟨B.pb, 0, none⟩ = some (.slice B.aq q.length B.cq)
  p1 : w.cell? ⟨B.pb, 1, none⟩ = some (.int .u64 mask)
  p2 : w.cell? ⟨B.pb, 2, none⟩ = some (.int .i64 ef)
  p3 : w.cell? ⟨B.pb, 3, none⟩ = some (.map (some B.kb))
  p4 : w.cell? ⟨B.pb, 4, none⟩ = some (.pointer (some ⟨B.hq, 0, none⟩))
  p5 : w.cell? ⟨B.pb, 5, none⟩ = some (.pointer (some ⟨B.hb, 0, none⟩))
  qs : IntsAt .i32 w B.aq q
  known : MapIs w B.kb (Value.int .i64) (cntM seen)
  queue : HeapIs w B.hq 91 vq xq
  best : HeapIs w B.hb 92 vb xb
  most : w.cell? ⟨B.hb, 2, none⟩ = some (.int .i64 (mostOf ef))
  ne : B.kb ≠ B.hq ∧ B.kb ≠ B.hb ∧ B.hq ≠ B.hb
  low : ∀ b, S b → b < w.heap.size ∧ b ≠ B.kb ∧ b ≠ B.hq ∧ b ≠ B.hb ∧ vq.ownBlock ≠ some b ∧ vb.ownBlock ≠ some b
  pbS : S B.pb
  aqS : ∀ b o, B.aq = some ⟨b, o, none⟩ → S b
  qown : ∀ b, vq.ownBlock = some b → b ≠ B.kb ∧ b ≠ B.hb ∧ vb.ownBlock ≠ some b
  bown : ∀ b, vb.ownBlock = some b → b ≠ B.kb ∧ b ≠ B.hq
  xbl : (xb.length : Int) ≤ mostOf ef

section
variable {w w' : World} {S : Nat → Prop} {B : PB} {q : List Int} {mask ef : Int} {seen : List Int} {vq : Value} {xq : List Sp} {vb : Value} {xb : List Sp}
theorem ProbeIs.keep (h : ProbeIs w S B q mask ef seen vq xq vb xb) (hk : Kept w w') : ProbeIs w' S B q mask ef seen vq xq vb xb :=
  ⟨kcell hk h.p0, kcell hk h.p1, kcell hk h.p2, kcell hk h.p3, kcell hk h.p4, kcell hk h.p5, h.qs.keep hk, h.known.keep hk, h.queue.keep hk, h.best.keep hk, kcell hk h.most, h.ne, fun b e => ⟨Nat.lt_of_lt_of_le (h.low b e).1 hk.size, (h.low b e).2⟩, h.pbS, h.aqS, h.qown, h.bown, h.xbl⟩
/-- One block more that it does not turn. -/
theorem ProbeIs.more (h : ProbeIs w S B q mask ef seen vq xq vb xb) (hk : Kept w w') {s : Nat} (hs : w.heap.size ≤ s) (hs' : s < w'.heap.size) : ProbeIs w' (fun b => S b ∨ b = s) B q mask ef seen vq xq vb xb := by
  have h' := h.keep hk
  have lk := h.known.lt
  have lq := lt_of_cell h.queue.c0
  have lb := lt_of_cell h.best.c0
  refine ⟨h'.p0, h'.p1, h'.p2, h'.p3, h'.p4, h'.p5, h'.qs, h'.known, h'.queue, h'.best, h'.most, h'.ne, fun b e => e.elim (h'.low b) (fun e => ?_), .inl h.pbS, fun b o e => .inl (h.aqS b o e), h.qown, h.bown, h.xbl⟩
  subst e
  exact ⟨hs', by omega, by omega, by omega, fun e => by have := (h.queue.own.lt b e).2; omega, fun e => by have := (h.best.own.lt b e).2; omega⟩
theorem ProbeIs.knows (h : ProbeIs w S B q mask ef seen vq xq vb xb) {seen' : List Int} (hm : MapIs w' B.kb (Value.int .i64) (cntM seen')) (hf : Far (fun b => b = B.kb) w w') : ProbeIs w' S B q mask ef seen' vq xq vb xb := by
  obtain ⟨n4, n5, n6⟩ := h.ne
  have n1 := (h.low _ h.pbS).2.1
  exact ⟨hf.cell h.p0 n1, hf.cell h.p1 n1, hf.cell h.p2 n1, hf.cell h.p3 n1, hf.cell h.p4 n1, hf.cell h.p5 n1, h.qs.far (fun b o e => (h.low b (h.aqS b o e)).2.1) hf, hm,
    h.queue.far hf (fun e => n4 e.symm) (fun b hb => (h.qown b hb).1), h.best.far hf (fun e => n5 e.symm) (fun b hb => (h.bown b hb).1), hf.cell h.most (fun e => n5 e.symm), h.ne, fun b e => ⟨Nat.lt_of_lt_of_le (h.low b e).1 hf.size, (h.low b e).2⟩, h.pbS, h.aqS, h.qown, h.bown, h.xbl⟩
theorem ProbeIs.farK (h : ProbeIs w S B q mask ef seen vq xq vb xb) (hf : Far (fun b => b = B.kb) w w') : Far (fun b => ¬ S b) w w' := hf.mono fun b _ e hs => (h.low b hs).2.1 e
theorem ProbeIs.farQ (h : ProbeIs w S B q mask ef seen vq xq vb xb) (hf : Far (fun b => b = B.hq ∨ vq.ownBlock = some b) w w') : Far (fun b => ¬ S b) w w' := hf.mono fun b _ e hs => e.elim (h.low b hs).2.2.1 (h.low b hs).2.2.2.2.1
theorem ProbeIs.farB (h : ProbeIs w S B q mask ef seen vq xq vb xb) (hf : Far (fun b => b = B.hb ∨ vb.ownBlock = some b) w w') : Far (fun b => ¬ S b) w w' := hf.mono fun b _ e hs => e.elim (h.low b hs).2.2.2.1 (h.low b hs).2.2.2.2.2
theorem ProbeIs.waits (h : ProbeIs w S B q mask ef seen vq xq vb xb) {vq' : Value} {xq' : List Sp} (hh : HeapIs w' B.hq 91 vq' xq') (hf : Far (fun b => b = B.hq ∨ vq.ownBlock = some b) w w')
    (ho : ∀ b, vq'.ownBlock = some b → vq.ownBlock = some b ∨ w.heap.size ≤ b) : ProbeIs w' S B q mask ef seen vq' xq' vb xb := by
  obtain ⟨n4, n5, n6⟩ := h.ne
  have lm := h.known.lt
  have lh := lt_of_cell h.best.c0
  have np : ∀ b, S b → ¬ (b = B.hq ∨ vq.ownBlock = some b) := fun b hs e => e.elim (h.low b hs).2.2.1 (h.low b hs).2.2.2.2.1
  have np' := np _ h.pbS
  have nk : ¬ (B.kb = B.hq ∨ vq.ownBlock = some B.kb) := fun e => e.elim n4 (fun e => (h.qown _ e).1 rfl)
  have nb : ¬ (B.hb = B.hq ∨ vq.ownBlock = some B.hb) := fun e => e.elim (fun e => n6 e.symm) (fun e => (h.qown _ e).2.1 rfl)
  refine ⟨hf.cell h.p0 np', hf.cell h.p1 np', hf.cell h.p2 np', hf.cell h.p3 np', hf.cell h.p4 np', hf.cell h.p5 np', h.qs.far (fun b o e => np b (h.aqS b o e)) hf, h.known.far nk hf, hh,
    h.best.far hf nb (fun b hb e => e.elim (h.bown b hb).2 (fun e => (h.qown b e).2.2 hb)), hf.cell h.most nb, h.ne, fun b e => ?_, h.pbS, h.aqS, fun b hb => ?_, h.bown, h.xbl⟩
  · obtain ⟨a0, a1, a2, a3, a4, a5⟩ := h.low b e
    exact ⟨Nat.lt_of_lt_of_le a0 hf.size, a1, a2, a3, fun e2 => (ho b e2).elim a4 (fun hl => by omega), a5⟩
  · rcases ho b hb with h1 | h1
    · exact h.qown b h1
    · exact ⟨by omega, by omega, fun e => by have := (h.best.own.lt b e).2; omega⟩
theorem ProbeIs.bests (h : ProbeIs w S B q mask ef seen vq xq vb xb) {vb' : Value} {xb' : List Sp} (hh : HeapIs w' B.hb 92 vb' xb') (hf : Far (fun b => b = B.hb ∨ vb.ownBlock = some b) w w') (hm : w'.cell? ⟨B.hb, 2, none⟩ = some (.int .i64 (mostOf ef)))
    (ho : ∀ b, vb'.ownBlock = some b → vb.ownBlock = some b ∨ w.heap.size ≤ b) (hx : (xb'.length : Int) ≤ mostOf ef) : ProbeIs w' S B q mask ef seen vq xq vb' xb' := by
  obtain ⟨n4, n5, n6⟩ := h.ne
  have lm := h.known.lt
  have lh := lt_of_cell h.queue.c0
  have np : ∀ b, S b → ¬ (b = B.hb ∨ vb.ownBlock = some b) := fun b hs e => e.elim (h.low b hs).2.2.2.1 (h.low b hs).2.2.2.2.2
  have np' := np _ h.pbS
  have nk : ¬ (B.kb = B.hb ∨ vb.ownBlock = some B.kb) := fun e => e.elim n5 (fun e => (h.bown _ e).1 rfl)
  have nb : ¬ (B.hq = B.hb ∨ vb.ownBlock = some B.hq) := fun e => e.elim n6 (fun e => (h.bown _ e).2 rfl)
  refine ⟨hf.cell h.p0 np', hf.cell h.p1 np', hf.cell h.p2 np', hf.cell h.p3 np', hf.cell h.p4 np', hf.cell h.p5 np', h.qs.far (fun b o e => np b (h.aqS b o e)) hf, h.known.far nk hf,
    h.queue.far hf nb (fun b hb e => e.elim (h.qown b hb).2.1 (h.qown b hb).2.2), hh, hm, h.ne, fun b e => ?_, h.pbS, h.aqS, fun b hb => ?_, fun b hb => ?_, hx⟩
  · obtain ⟨a0, a1, a2, a3, a4, a5⟩ := h.low b e
    exact ⟨Nat.lt_of_lt_of_le a0 hf.size, a1, a2, a3, a4, fun e2 => (ho b e2).elim a5 (fun hl => by omega)⟩
  · obtain ⟨c3, c4, c5⟩ := h.qown b hb
    exact ⟨c3, c4, fun e => (ho b e).elim c5 (fun hl => by have := (h.queue.own.lt b hb).2; omega)⟩
  · rcases ho b hb with h1 | h1
    · exact h.bown b h1
    · exact ⟨by omega, by omega⟩
end
set_option maxRecDepth 100000 in
set_option maxHeartbeats 400000 in
theorem PNew_any (a : Option Addr) (c : Nat) (q : List Int) (mask ef : Int) (w : World) (hl : q.length ≤ 4398046511104) (hX : IntsAt .i32 w a q) :
    Calls Tryz.prog 56 #[.slice a q.length c, .int .u64 mask, .int .i64 ef] w fun e w' => ∃ B S, e = .returned (.pointer (some ⟨B.pb, 0, none⟩)) ∧ (∀ b, b < w.heap.size → S b) ∧ ProbeIs w' S B q mask ef [] (.slice none 0 0) [] (.slice none 0 0) [] ∧ Kept w w' := by
  have C := Lib.hid (Clone_i32 a c q w hl hX)
  have hmm := @run_makeMap Tryz.prog
  clear hX
  go_enter Tryz.func56, Tryz.ntmps56
  go_wp2_with (first
    | (go_at_call 70; refine C.out.mono ?_; rintro e w1 ⟨v1, rfl, hown1, hk1⟩
       obtain ⟨a1, c1, rfl, -, hsome⟩ := own_slice hown1
       have HO1 := Lib.hid hown1; have HK1 := Lib.hid hk1; have HS1 := Lib.hid hsome; clear hown1 hk1 hsome)
    | (go_at_call 71; refine (New_any _).mono ?_; rintro e w2 ⟨rfl, hh2, hk2, hs2⟩; have HH2 := Lib.hid hh2; have HK2 := Lib.hid hk2; have HS2 := Lib.hid hs2; clear hh2 hk2 hs2)
    | (go_at_call 72; refine (NewBest_any ef _).mono ?_; rintro e w3 ⟨rfl, hh3, hm3, hk3, hs3⟩; have HH3 := Lib.hid hh3; have HM3 := Lib.hid hm3; have HK3 := Lib.hid hk3; have HS3 := Lib.hid hs3; clear hh3 hm3 hk3 hs3))
  go_ret
  have esz : (w1.alloc (.map #[] 0)).heap.size = w1.heap.size + 1 := by simp
  have hh2 := HH2.out
  have hs2 := HS2.out
  rw [esz] at hh2 hs2
  have hs3 := HS3.out
  have hk12 := HK2.out
  have hs1 := HK1.out.size
  have K13 : Kept w1 w3 := Kept.trans (kept_alloc w1 (.map #[] 0)) (Kept.trans HK2.out HK3.out)
  have K1 : Kept w1 (w3.alloc (.cells #[.slice a1 q.length c1, .int .u64 mask, .int .i64 ef, .map (some w1.heap.size), .pointer (some ⟨w1.heap.size + 1, 0, none⟩), .pointer (some ⟨w2.heap.size, 0, none⟩)] 108)) := Kept.trans K13 (kept_alloc _ _)
  obtain ⟨a2, c2, hv, hcc, hI, hfar⟩ := ints_of_own' HO1.out
  injection hv with hva _ hvc
  subst hva
  have hsF : (w3.alloc (.cells #[.slice a1 q.length c1, .int .u64 mask, .int .i64 ef, .map (some w1.heap.size), .pointer (some ⟨w1.heap.size + 1, 0, none⟩), .pointer (some ⟨w2.heap.size, 0, none⟩)] 108)).heap.size = w3.heap.size + 1 := by simp
  refine ⟨⟨w3.heap.size, w1.heap.size, w1.heap.size + 1, w2.heap.size, a1, c1⟩, fun b => b < w1.heap.size ∨ b = w3.heap.size, rfl, fun b hb => .inl (by omega), ⟨cell_new rfl rfl, cell_new rfl rfl, cell_new rfl rfl, cell_new rfl rfl, cell_new rfl rfl, cell_new rfl rfl, hI.keep K1, ?_, ?_, ?_, ?_, ?_, ?_, ?_, ?_, ?_, ?_, ?_⟩, Kept.trans HK1.out K1⟩
  · exact ((MapIs.new w1 (Value.int .i64)).keep (Kept.trans HK2.out HK3.out)).keep (kept_alloc _ _)
  · exact (hh2.keep HK3.out).keep (kept_alloc _ _)
  · exact HH3.out.keep (kept_alloc _ _)
  · exact cell_old HM3.out
  · simp only; omega
  · intro b hb
    rw [hsF]
    simp only [Value.ownBlock]
    refine ⟨by omega, by omega, by omega, by omega, by simp, by simp⟩
  · exact .inr rfl
  · intro b o e
    exact .inl (hfar b o e).2
  · intro b e; simp [Value.ownBlock] at e
  · intro b e; simp [Value.ownBlock] at e
  · simp only [List.length_nil]; unfold mostOf; omega
end Go.Proofs.YtajbimmfkbgcpaaGreat

/- probe.Probe.Offer. -/
namespace Go.Proofs.YtajbimmfkbgcpaaGreat
open Go.RowKit

structure OfferP (w w' : World) (S : Nat → Prop) (B : PB) (q : List Int) (mask ef : Int) (seen : List Int) (xq xb : List Sp) (x : Int) (s : Sp) (has : Bool) (vq' : Value) (xq' : List Sp) (vb' : Value) (xb' : List Sp) : Prop where
  is : ProbeIs w' S B q mask ef (seen ++ [x]) vq' xq' vb' xb'
  known : x ∈ seen → xq' = xq ∧ xb' = xb
  waits : x ∉ seen → xq'.Perm (xq ++ [s])
  out : x ∉ seen → has = false → xb' = xb
  room : x ∉ seen → has = true → (xb.length : Int) < mostOf ef → xb'.Perm (xb ++ [s])
  part : x ∉ seen → has = true → ∃ zs, (xb' ++ zs).Perm (xb ++ [s])
  low : Far (fun b => ¬ S b) w w'

set_option maxRecDepth 100000 in
set_option maxHeartbeats 2000000 in
theorem POffer_any (S : Nat → Prop) (B : PB) (q : List Int) (mask ef : Int) (seen : List Int) (vq : Value) (xq : List Sp) (vb : Value) (xb : List Sp) (x : Int) (id : Int) (va : Option Addr) (vc : Nat) (vec : List Int) (tags : Int) (w : World)
    (hP : ProbeIs w S B q mask ef seen vq xq vb xb) (hs : seen.length ≤ 4398046511104) (hx : xq.length ≤ 900000) (hql : q.length ≤ 35184372088832) (iq : I32s q) (hvl : vec.length ≤ 35184372088832) (iv : I32s vec)
    (hV : ∀ W, Far (fun b => ¬ S b) w W → IntsAt .i32 W va vec) :
    Calls Tryz.prog 74 #[.pointer (some ⟨B.pb, 0, none⟩), .int .i64 x, .agg #[.int .u64 id, .slice va vec.length vc, .int .u64 tags]] w fun e w' => (∃ r, e = .returned (.bool r)) ∧ ∃ vq' xq' vb' xb', OfferP w w' S B q mask ef seen xq xb x ⟨dist q vec, id, x⟩ (hasB tags mask) vq' xq' vb' xb' := by
  have hP1 := hP.keep (kept_alloc w (.cells #[.int .u64 id, .slice va vec.length vc, .int .u64 tags] 50))
  have hlow1 : Far (fun b => ¬ S b) w (w.alloc (.cells #[.int .u64 id, .slice va vec.length vc, .int .u64 tags] 50)) := Far.of_kept _ (kept_alloc _ _)
  have i0 : (w.alloc (.cells #[.int .u64 id, .slice va vec.length vc, .int .u64 tags] 50)).cell? ⟨w.heap.size, 0, none⟩ = some (.int .u64 id) := cell_new rfl rfl
  have i1 : (w.alloc (.cells #[.int .u64 id, .slice va vec.length vc, .int .u64 tags] 50)).cell? ⟨w.heap.size, 1, none⟩ = some (.slice va vec.length vc) := cell_new rfl rfl
  have i2 : (w.alloc (.cells #[.int .u64 id, .slice va vec.length vc, .int .u64 tags] 50)).cell? ⟨w.heap.size, 2, none⟩ = some (.int .u64 tags) := cell_new rfl rfl
  have lk := hP.known.lt
  have hsz1 : (w.alloc (.cells #[.int .u64 id, .slice va vec.length vc, .int .u64 tags] 50)).heap.size = w.heap.size + 1 := by simp
  have p3 := hP1.p3
  have l1 := lt_of_cell hP.p0
  have l1' := lt_of_cell p3
  have hlook := run_lookup_m (P := Tryz.prog) (t := 94) Tryz.keyInt Tryz.underlying94 (Tryz.zeroInt _) hP1.known x
  rw [cntM_get] at hlook
  have hcl : seen.count x ≤ 4398046511104 := Nat.le_trans List.count_le_length hs
  have hput := Lib.hid (cntM_put seen x)
  have LQ := Lib.hid (lt_of_cell hP.queue.c0)
  have LQO := Lib.hid (show ∀ b, vq.ownBlock = some b → b < w.heap.size from fun b h => (hP.queue.own.lt b h).2)
  have HP1 := Lib.hid hP1; have HL1 := Lib.hid hlow1; have HLK := Lib.hid lk; have HS1 := Lib.hid hsz1
  have HV := Lib.hid hV
  have I0 := Lib.hid i0; have I1 := Lib.hid i1; have I2 := Lib.hid i2
  clear hP hP1 hlow1 hsz1 lk hV
  have HT : Hid (∀ W, Calls Tryz.prog 38 #[.int .u64 tags, .int .u64 mask] W fun e w' => e = .returned (.bool (hasB tags mask)) ∧ Kept W w') := fun W => (tagHas_any tags mask W).mono fun e w' h => ⟨h.1, h.2 ▸ Kept.rfl' _⟩
  have D0 : Hid (∀ W, IntsAt .i32 W B.aq q → IntsAt .i32 W va vec → Calls Tryz.prog 39 #[.slice B.aq q.length B.cq, .slice va vec.length vc] W fun e w' => e = .returned (.int .u64 (dist q vec)) ∧ W = w') := fun W h1 h2 =>
    Dist_any B.aq va B.cq vc q vec W hql hvl h1 h2 iq iv
  generalize hasB tags mask = has at *
  generalize dist q vec = dd at *
  go_enter Tryz.func74, Tryz.ntmps74
  go_wp2_with (first | (at_mapUpdate; refine wpList_update_m Tryz.keyInt Tryz.underlying94 rfl _ _ _ rfl rfl (by exact HP1.out.known) x rfl _ rfl ?_))
  intro w2 hm2 ho2
  rw [hput.out] at hm2
  have hf2 : Far (fun b => b = B.kb) _ w2 := Far.of_only ho2 rfl
  have hP2 := HP1.out.knows hm2 hf2
  have hB2 : Far (fun b => ¬ S b) w w2 := HL1.out.trans (HP1.out.farK hf2)
  have hlook := run_lookup_m (P := Tryz.prog) (t := 94) Tryz.keyInt Tryz.underlying94 (Tryz.zeroInt w2) hm2 x
  rw [cntM_get, List.count_append] at hlook
  simp only [List.count_singleton_self] at hlook
  have p3 := hP2.p3
  have hnk : ¬ w.heap.size = B.kb := fun e => by have := HLK.out; omega
  have i0 := hf2.cell I0.out hnk
  have i1 := hf2.cell I1.out hnk
  have i2 := hf2.cell I2.out hnk
  have l2 := lt_of_cell p3
  have li := lt_of_cell i0
  have HP2 := Lib.hid hP2; have HB2 := Lib.hid hB2
  clear hm2 ho2 hf2 hP2 hB2 hnk I0 I1 I2 HP1 HL1 HS1 hput HLK
  by_cases hx : x ∈ seen
  · have hpos : 0 < seen.count x := List.count_pos_iff.2 hx
    have HX := Lib.hid hx
    clear hx
    generalize seen.count x = cx at *
    go_wp2
    go_ret
    exact ⟨⟨false, rfl⟩, vq, xq, vb, xb, HP2.out, fun _ => ⟨rfl, rfl⟩, fun h => absurd HX.out h, fun h => absurd HX.out h, fun h => absurd HX.out h, fun h => absurd HX.out h, HB2.out⟩
  · have hz : seen.count x = 0 := List.count_eq_zero_of_not_mem hx
    rw [hz] at hlook
    have HX := Lib.hid hx
    have D : Hid (∀ W, Kept w2 W → Calls Tryz.prog 39 #[.slice B.aq q.length B.cq, .slice va vec.length vc] W fun e w' => e = .returned (.int .u64 dd) ∧ W = w') := fun W hk =>
      D0.out W (HP2.out.qs.keep hk) ((HV.out w2 HB2.out).keep hk)
    have p0 := HP2.out.p0
    clear hx hz hcl
    go_wp2_with fail
    go_region_held3 (fun w' => w'.cell? ⟨B.pb, 0, none⟩ = some (.slice B.aq q.length B.cq) ∧ w'.cell? ⟨w.heap.size, 0, none⟩ = some (.int .u64 id) ∧ w'.cell? ⟨w.heap.size, 1, none⟩ = some (.slice va vec.length vc))
      (first | exact ⟨p0, i0, i1⟩ | exact ⟨cell_old p0, cell_old i0, cell_old i1⟩ | go_keep)
      (first
        | (go_at_call 39; refine (D.out _ (by first | exact drewK _ | exact Kept.trans (drewK _) (kept_alloc _ _))).mono ?_; rintro e w3 ⟨rfl, rfl⟩))
    all_goals (
      have K23 : Hid (Kept w2 (w2.alloc (.cells #[.int .u64 dd, .int .u64 id, .int .i64 x] 60)).drew) := Kept.trans (kept_alloc _ _) (drewK _)
      have s0 : (w2.alloc (.cells #[.int .u64 dd, .int .u64 id, .int .i64 x] 60)).drew.cell? ⟨w2.heap.size, 0, none⟩ = some (.int .u64 dd) := cell_new rfl rfl
      have s1 : (w2.alloc (.cells #[.int .u64 dd, .int .u64 id, .int .i64 x] 60)).drew.cell? ⟨w2.heap.size, 1, none⟩ = some (.int .u64 id) := cell_new rfl rfl
      have s2 : (w2.alloc (.cells #[.int .u64 dd, .int .u64 id, .int .i64 x] 60)).drew.cell? ⟨w2.heap.size, 2, none⟩ = some (.int .i64 x) := cell_new rfl rfl
      have HP3 := Lib.hid (HP2.out.keep K23.out)
      have p4 := HP3.out.p4
      have j0 := kcell K23.out i0; have j2 := kcell K23.out i2
      have HB3 := Lib.hid (HB2.out.trans (Far.of_kept _ K23.out))
      have Hw2 := Lib.hid (show w2.heap.size < (w2.alloc (.cells #[.int .u64 dd, .int .u64 id, .int .i64 x] 60)).drew.heap.size from lt_of_cell s0)
      have lw2 : w.heap.size < w2.heap.size := li
      clear p0 p3 i0 i1 i2 hlook D K23
      generalize (w2.alloc (.cells #[.int .u64 dd, .int .u64 id, .int .i64 x] 60)).drew = w3 at *
      have l3 := lt_of_cell p4
      have l3' := lt_of_cell s0
      go_wp2_with fail
      refine wp_region_kept_tail 5 (by kernel_rfl) (by kernel_rfl) ?_
      simp only [List.take_succ_cons, List.take_zero, List.drop_succ_cons, List.drop_zero]
      repeat (go_big_quiet_step (fail))
      refine wpQuiet_nil ?_
      intro w4 hw4
      have K34 : Kept w3 w4 := by obtain ⟨p, rfl⟩ := hw4; exact gr_kept _ _ _
      have HP4 := Lib.hid (HP3.out.keep K34)
      have r0 := kcell K34 s0; have r1 := kcell K34 s1; have r2 := kcell K34 s2; have r3 := kcell K34 j2
      have HB4 := Lib.hid (HB3.out.trans (Far.of_kept _ K34))
      have HPU := Lib.hid (Push_any B.hq vq ⟨dd, id, x⟩ xq w4 HP4.out.queue hx)
      have hs4 := K34.size
      clear hw4 K34 s0 s1 s2 j0 j2 p4 l3 l3'
      go_wp2_with (first | (go_at_call 94; refine HPU.out.mono ?_; rintro e w5 ⟨rfl, vq', xq', hperm, hh5, hf5, ho5⟩))
      have nS : ¬ (w2.heap.size = B.hq ∨ vq.ownBlock = some w2.heap.size) := fun e => e.elim (fun e => by have := LQ.out; omega) (fun e => by have := LQO.out _ e; omega)
      have nI : ¬ (w.heap.size = B.hq ∨ vq.ownBlock = some w.heap.size) := fun e => e.elim (fun e => by have := LQ.out; omega) (fun e => by have := LQO.out _ e; omega)
      have s0 := hf5.cell r0 nS; have s1 := hf5.cell r1 nS; have s2 := hf5.cell r2 nS; have j2 := hf5.cell r3 nI
      have hP5 := HP4.out.waits hh5 hf5 ho5
      have HB5 := Lib.hid (HB4.out.trans (HP4.out.farQ hf5))
      have p1 := hP5.p1
      have HP5 := Lib.hid hP5; have HPM := Lib.hid hperm
      have l5 := lt_of_cell p1; have l5' := lt_of_cell j2
      clear hP5 hh5 hf5 ho5 hperm nS nI r0 r1 r2 r3
      go_wp2_with fail
      refine wp_region_kept (by kernel_rfl) (by kernel_rfl) ?_
      repeat (go_big_quiet_step (first | (go_at_call 38; exact Calls.kept_of (HT.out _))))
      refine wpQuiet_nil ?_
      intro w6 hw6
      have K56 : Kept w5 w6 := by obtain ⟨p, rfl⟩ := hw6; exact gr_kept _ _ _
      have HP6 := Lib.hid (HP5.out.keep K56)
      have HB6 := Lib.hid (HB5.out.trans (Far.of_kept _ K56))
      have r0 := kcell K56 s0; have r1 := kcell K56 s1; have r2 := kcell K56 s2
      have p5 := HP6.out.p5
      have l6 := lt_of_cell p5; have l6' := lt_of_cell r0
      clear hw6 K56 s0 s1 s2 j2 p1 l5 l5'
      cases has with
      | false =>
        go_wp2
        go_ret
        exact ⟨⟨true, rfl⟩, vq', xq', vb, xb, HP6.out, fun h => absurd h HX.out, fun _ => HPM.out, fun _ _ => rfl, fun _ h => (by cases h), fun _ h => (by cases h), HB6.out⟩
      | true =>
        go_wp2_with fail
        refine wp_region_kept_tail 5 (by kernel_rfl) (by kernel_rfl) ?_
        simp only [List.take_succ_cons, List.take_zero, List.drop_succ_cons, List.drop_zero]
        repeat (go_big_quiet_step (fail))
        refine wpQuiet_nil ?_
        intro w7 hw7
        have K67 : Kept w6 w7 := by obtain ⟨p, rfl⟩ := hw7; exact gr_kept _ _ _
        have HP7 := Lib.hid (HP6.out.keep K67)
        have HB7 := Lib.hid (HB6.out.trans (Far.of_kept _ K67))
        have hOF := Lib.hid (Offer_any B.hb vb ⟨dd, id, x⟩ xb (mostOf ef) w7 HP7.out.best HP7.out.most HP7.out.xbl (by unfold mostOf; omega))
        clear hw7 K67 r0 r1 r2 p5 l6 l6'
        go_wp2_with (first | (go_at_call 95; refine hOF.out.mono ?_; rintro e w8 ⟨r, vb', xb', rfl, ho8⟩))
        go_ret
        exact ⟨⟨true, rfl⟩, vq', xq', vb', xb', HP7.out.bests ho8.heap ho8.far ho8.most ho8.own ho8.le, fun h => absurd h HX.out, fun _ => HPM.out, fun _ h => (by cases h), fun _ _ h => ho8.room h, fun _ _ => ho8.part,
          HB7.out.trans (HP7.out.farB ho8.far)⟩)
end Go.Proofs.YtajbimmfkbgcpaaGreat

/- probe.Probe: done, Want, Found. -/
namespace Go.Proofs.YtajbimmfkbgcpaaGreat
open Go.RowKit

def doneB (ef : Int) (xq xb : List Sp) : Bool := xq.isEmpty || decide (ef < 1) || (!xb.isEmpty && decide (mostOf ef ≤ (xb.length : Int)) && ordQ (headSp xb) (headSp xq))

section
variable (S : Nat → Prop) (B : PB) (q : List Int) (mask ef : Int) (seen : List Int) (vq : Value) (xq : List Sp) (vb : Value) (xb : List Sp)
set_option maxRecDepth 100000 in
set_option maxHeartbeats 2000000 in
theorem Done_any (w : World) (hP : ProbeIs w S B q mask ef seen vq xq vb xb) (hx : xq.length ≤ 900000) :
    Calls Tryz.prog 96 #[.pointer (some ⟨B.pb, 0, none⟩)] w fun e w' => e = .returned (.bool (doneB ef xq xb)) ∧ Kept w w' := by
  have hbl : xb.length ≤ 1000000 := by have := hP.xbl; unfold mostOf at this; omega
  have c1 : ∀ W, Kept w W → Calls Tryz.prog 110 #[.pointer (some ⟨B.hq, 0, none⟩)] W fun e w' => e = .returned (.tuple #[.agg #[.int .u64 (headSp xq).d, .int .u64 (headSp xq).i, .int .i64 (headSp xq).s], .bool (!xq.isEmpty)]) ∧ Kept W w' := fun W hk => Peek_any B.hq _ vq xq W (hP.queue.keep hk) (by omega)
  have c2 : ∀ W, Kept w W → Calls Tryz.prog 108 #[.pointer (some ⟨B.hb, 0, none⟩)] W fun e w' => e = .returned (.tuple #[.agg #[.int .u64 (headSp xb).d, .int .u64 (headSp xb).i, .int .i64 (headSp xb).s], .bool (!xb.isEmpty)]) ∧ Kept W w' := fun W hk => Worst_any B.hb _ vb xb W (hP.best.keep hk) hbl
  have c3 : ∀ W, Kept w W → Calls Tryz.prog 107 #[.pointer (some ⟨B.hb, 0, none⟩)] W fun e w' => e = .returned (.bool (decide (mostOf ef ≤ (xb.length : Int)))) ∧ Kept W w' := fun W hk => Full_any B.hb _ vb xb _ W (hP.best.keep hk) (kcell hk hP.most)
  have c4 : ∀ W, Calls Tryz.prog 91 #[.agg #[.int .u64 (headSp xb).d, .int .u64 (headSp xb).i, .int .i64 (headSp xb).s], .agg #[.int .u64 (headSp xq).d, .int .u64 (headSp xq).i, .int .i64 (headSp xq).s]] W fun e w' => e = .returned (.bool (ordQ (headSp xb) (headSp xq))) ∧ Kept W w' := fun W => orderQ _ _ W
  have p2 := hP.p2; have p4 := hP.p4; have p5 := hP.p5
  have l1 := lt_of_cell p2
  have hres : doneB ef xq xb = (!(!xq.isEmpty) || decide (ef < 1) || (!xb.isEmpty && decide (mostOf ef ≤ (xb.length : Int)) && ordQ (headSp xb) (headSp xq))) := by unfold doneB; simp
  rw [hres]
  have C1 := Lib.hid c1; have C2 := Lib.hid c2; have C3 := Lib.hid c3; have C4 := Lib.hid c4
  have P2 := Lib.hid p2; have P4 := Lib.hid p4; have P5 := Lib.hid p5
  clear hP hx hbl c1 c2 c3 c4 hres
  generalize ordQ (headSp xb) (headSp xq) = o at *
  generalize decide (mostOf ef ≤ (xb.length : Int)) = full at *
  generalize (!xq.isEmpty) = r1 at *
  generalize (!xb.isEmpty) = r2 at *
  generalize headSp xq = fx at *
  generalize headSp xb = fb at *
  cases r1 with
  | false =>
    go_enter Tryz.func96, Tryz.ntmps96
    go_wp2_with (first
      | (go_at_call 110; refine (C1.out _ (Kept.rfl' _)).mono ?_; rintro e w1 ⟨rfl, hk1⟩; have K1 := Lib.hid hk1; clear hk1))
    go_ret
    exact ⟨by simp, Kept.trans K1.out (kept_alloc _ _)⟩
  | true =>
    by_cases he : ef < 1
    · have hd : decide (ef < 1) = true := by simpa using he
      go_enter Tryz.func96, Tryz.ntmps96
      go_wp2_with (first
        | (go_at_call 110; refine (C1.out _ (Kept.rfl' _)).mono ?_; rintro e w1 ⟨rfl, hk1⟩; have K1 := Lib.hid hk1; have p2 := kcell hk1 P2.out; have l1 := lt_of_cell p2; clear hk1))
      rw [hd]
      go_ret
      exact ⟨by simp, Kept.trans K1.out (kept_alloc _ _)⟩
    · have hd : decide (ef < 1) = false := by simpa using he
      rw [hd]
      clear hd
      cases r2 <;> cases full <;> (
        go_enter Tryz.func96, Tryz.ntmps96
        go_wp2_with (first
          | (go_at_call 110; refine (C1.out _ (Kept.rfl' _)).mono ?_; rintro e w1 ⟨rfl, hk1⟩; have K1 := Lib.hid hk1; have p2 := kcell hk1 P2.out; have p5 := kcell hk1 P5.out; have l1 := lt_of_cell p2; clear hk1)
          | (go_at_call 108; refine (C2.out _ (Kept.trans K1.out (kept_alloc _ _))).mono ?_; rintro e w2 ⟨rfl, hk2⟩
             have q5 := kcell hk2 (cell_old p5)
             have d0 := kcell hk2 (cell_new (w := w1) (cs := #[.int .u64 fx.d, .int .u64 fx.i, .int .i64 fx.s]) (t := 60) (b := w1.heap.size) (i := 0) rfl rfl)
             have d1 := kcell hk2 (cell_new (w := w1) (cs := #[.int .u64 fx.d, .int .u64 fx.i, .int .i64 fx.s]) (t := 60) (b := w1.heap.size) (i := 1) rfl rfl)
             have d2 := kcell hk2 (cell_new (w := w1) (cs := #[.int .u64 fx.d, .int .u64 fx.i, .int .i64 fx.s]) (t := 60) (b := w1.heap.size) (i := 2) rfl rfl)
             have K2 := Lib.hid (Kept.trans (Kept.trans K1.out (kept_alloc _ _)) hk2); have l2 := lt_of_cell q5; have l2' := lt_of_cell d0; clear hk2 p2 p5)
          | (go_at_call 107; refine (C3.out _ (Kept.trans K2.out (kept_alloc _ _))).mono ?_; rintro e w3 ⟨rfl, hk3⟩
             have e0 := kcell hk3 (cell_old d0); have e1 := kcell hk3 (cell_old d1); have e2 := kcell hk3 (cell_old d2)
             have f0 := kcell hk3 (cell_new (w := w2) (cs := #[.int .u64 fb.d, .int .u64 fb.i, .int .i64 fb.s]) (t := 60) (b := w2.heap.size) (i := 0) rfl rfl)
             have f1 := kcell hk3 (cell_new (w := w2) (cs := #[.int .u64 fb.d, .int .u64 fb.i, .int .i64 fb.s]) (t := 60) (b := w2.heap.size) (i := 1) rfl rfl)
             have f2 := kcell hk3 (cell_new (w := w2) (cs := #[.int .u64 fb.d, .int .u64 fb.i, .int .i64 fb.s]) (t := 60) (b := w2.heap.size) (i := 2) rfl rfl)
             have K3 := Lib.hid (Kept.trans (Kept.trans K2.out (kept_alloc _ _)) hk3); have l3 := lt_of_cell e0; have l3' := lt_of_cell f0; clear hk3 d0 d1 d2 q5)
          | (go_at_call 91; refine (C4.out _).mono ?_; rintro e w4 ⟨rfl, hk4⟩; have K4 := Lib.hid (Kept.trans K3.out hk4); clear hk4))
        go_ret
        first
          | exact ⟨by simp, K4.out⟩
          | exact ⟨by simp, K3.out⟩
          | exact ⟨by simp, Kept.trans K2.out (kept_alloc _ _)⟩)
end
end Go.Proofs.YtajbimmfkbgcpaaGreat

/- probe.Probe: Want, Found. -/
namespace Go.Proofs.YtajbimmfkbgcpaaGreat
open Go.RowKit

section
variable (S : Nat → Prop) (B : PB) (q : List Int) (mask ef : Int) (seen : List Int) (vq : Value) (xq : List Sp) (vb : Value) (xb : List Sp)

/-- What is wanted. -/
def WantPost (w : World) (e : Ending) (w' : World) : Prop :=
  Far (fun b => ¬ S b) w w' ∧ ((doneB ef xq xb = true ∧ e = .returned (.tuple #[.int .i64 0, .bool false]) ∧ ProbeIs w' S B q mask ef seen vq xq vb xb) ∨
    (doneB ef xq xb = false ∧ ∃ x vq' ys, xq.Perm (x :: ys) ∧ e = .returned (.tuple #[.int .i64 x.s, .bool true]) ∧ ProbeIs w' S B q mask ef seen vq' ys vb xb))

set_option maxRecDepth 100000 in
set_option maxHeartbeats 2000000 in
theorem Want_any (w : World) (hP : ProbeIs w S B q mask ef seen vq xq vb xb) (hx : xq.length ≤ 900000) :
    Calls Tryz.prog 78 #[.pointer (some ⟨B.pb, 0, none⟩)] w (WantPost S B q mask ef seen vq xq vb xb w) := by
  have c1 := Done_any S B q mask ef seen vq xq vb xb w hP hx
  have C1 := Lib.hid c1
  have HP := Lib.hid hP
  clear c1 hP
  unfold WantPost
  cases hd : doneB ef xq xb with
  | true =>
    rw [hd] at C1
    go_enter Tryz.func78, Tryz.ntmps78
    go_wp2_with (first
      | (go_at_call 96; refine C1.out.mono ?_; rintro e w1 ⟨rfl, hk1⟩; have K1 := Lib.hid hk1; clear hk1))
    exact bodyPost_ret (v := .tuple #[.int .i64 0, .bool false]) (by simp [results, Tryz.results78, go_sem]) rfl ⟨Far.of_kept _ K1.out, .inl ⟨by trivial, rfl, HP.out.keep K1.out⟩⟩
  | false =>
    rw [hd] at C1
    obtain ⟨x, xs, rfl⟩ : ∃ x xs, xq = x :: xs := by
      cases xq with
      | nil => simp [doneB] at hd
      | cons x xs => exact ⟨x, xs, rfl⟩
    have c2 : ∀ W, Kept w W → Calls Tryz.prog 97 #[.pointer (some ⟨B.hq, 0, none⟩)] W fun e w' => e = .returned (.tuple #[.agg #[.int .u64 x.d, .int .u64 x.i, .int .i64 x.s], .bool true]) ∧ ∃ v' ys, ys.Perm xs ∧ HeapIs w' B.hq 91 v' ys ∧ Far (fun b => b = B.hq ∨ vq.ownBlock = some b) W w' ∧ v'.ownBlock = vq.ownBlock :=
      fun W hk => Pop_any B.hq vq x xs W (HP.out.queue.keep hk) (by simp at hx; omega)
    have C2 := Lib.hid c2
    have p4 := HP.out.p4
    have P4 := Lib.hid p4
    clear c2 p4 hd hx
    go_enter Tryz.func78, Tryz.ntmps78
    go_wp2_with (first
      | (go_at_call 96; refine C1.out.mono ?_; rintro e w1 ⟨rfl, hk1⟩; have K1 := Lib.hid hk1; have p4 := kcell hk1 P4.out; have l1 := lt_of_cell p4; clear hk1)
      | (go_at_call 97; refine (C2.out _ K1.out).mono ?_; rintro e w2 ⟨rfl, v', ys, hperm, hh, hf, hv⟩
         have HPm := Lib.hid hperm
         have HP2 := Lib.hid ((HP.out.keep K1.out).waits hh hf (fun b h => .inl (by rw [← hv]; exact h)))
         have HB2 := Lib.hid ((Far.of_kept (fun b => ¬ S b) K1.out).trans ((HP.out.keep K1.out).farQ hf))
         clear hperm hh hf hv))
    exact bodyPost_ret (v := .tuple #[.int .i64 x.s, .bool true]) (by simp [results, Tryz.results78, go_sem]) rfl ⟨HB2.out.trans (Far.of_kept _ (kept_alloc _ _)), .inr ⟨by trivial, x, v', ys, HPm.out.symm.cons x, rfl, HP2.out.keep (kept_alloc _ _)⟩⟩

set_option maxRecDepth 100000 in
theorem Found_any (w : World) (hP : ProbeIs w S B q mask ef seen vq xq vb xb) :
    Calls Tryz.prog 42 #[.pointer (some ⟨B.pb, 0, none⟩)] w (SpotsPost (sortSp xb) w) := by
  have hbl : xb.length ≤ 1000000 := by have := hP.xbl; unfold mostOf at this; omega
  have L := Lib.hid (List_any B.hb _ vb xb w hP.best hbl)
  have p5 := hP.p5
  have l1 := lt_of_cell p5
  clear hP hbl
  go_enter Tryz.func42, Tryz.ntmps42
  go_wp2_with (first | (go_at_call 61; refine L.out.mono ?_; rintro e w1 ⟨v1, rfl, hown1, hk1⟩))
  go_ret
  exact ⟨_, rfl, hown1, hk1⟩
end
end Go.Proofs.YtajbimmfkbgcpaaGreat
