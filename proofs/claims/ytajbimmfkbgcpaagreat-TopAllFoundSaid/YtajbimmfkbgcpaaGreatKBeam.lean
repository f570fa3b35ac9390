/-
  beam.searcher: how it lies, what it knows; offer.
  beam.searcher.offer.
  beam.searcher.look.
  beam.find.
  beam.Find.
-/
import Derived.Test.YtajbimmfkbgcpaaGreatKProbe
import Derived.Deep.LoopGhost
/- beam.searcher: how it lies, what it knows; offer. -/
namespace Go.Proofs.YtajbimmfkbgcpaaGreat
open Go.RowKit

theorem kept_far {W0 w w' : World} {F : Nat → Prop} (h : Kept W0 w) (hf : Far F w w') (hF : ∀ b, b < W0.heap.size → ¬ F b) : Kept W0 w' :=
  ⟨hf.os.trans h.os, hf.tape.trans h.tape, hf.output.trans h.output, Nat.le_trans h.size hf.size, fun k hk => (hf.block k (Nat.lt_of_lt_of_le hk h.size) (hF k hk)).trans (h.block k hk)⟩

/-- The spot at a slot; whether its node has the tags. -/
def spI (q : List Int) (ns : List Nd) (y : Int) : Sp := spotAt q ns y.toNat
def tagsI (mask : Int) (ns : List Nd) (y : Int) : Bool := match ns[y.toNat]? with | some n => hasB n.tags mask | none => false
/-- Each seen slot once. -/
def uniq (seen : List Int) : List Int := firsts [] seen
theorem uniq_nodup (seen : List Int) : (uniq seen).Nodup := nodup_firsts seen [] List.nodup_nil
theorem mem_uniq (seen : List Int) (y : Int) : y ∈ uniq seen ↔ y ∈ seen := by unfold uniq; rw [mem_firsts]; simp
theorem uniq_snoc (seen : List Int) (x : Int) : uniq (seen ++ [x]) = if x ∈ seen then uniq seen else uniq seen ++ [x] := by
  unfold uniq
  rw [firsts_append]
  have h := mem_uniq seen x
  unfold uniq at h
  by_cases hx : x ∈ seen
  · rw [if_pos hx]; simp [firsts, h.2 hx]
  · rw [if_neg hx]
    have : x ∉ firsts [] seen := fun e => hx (h.1 e)
    simp [firsts, this]
theorem uniq_len {ns : List Nd} {seen : List Int} (h : ∀ y ∈ seen, there ns y = true) : (uniq seen).length ≤ ns.length := by
  have h1 := uniq_nodup seen
  have hm : ∀ y ∈ uniq seen, there ns y = true := fun y hy => h y ((mem_uniq _ _).1 hy)
  generalize uniq seen = l at *
  have h2 : (l.map Int.toNat).Nodup := by
    refine List.Pairwise.map _ ?_ (List.Pairwise.and_mem.1 h1)
    rintro a b ⟨ha, hb, hab⟩ e
    have := there_lt (hm a ha); have := there_lt (hm b hb)
    exact hab (by omega)
  have h3 := List.Nodup.length_le_of_subset h2 (l₂ := List.range ns.length) (fun x hx => by
    rw [List.mem_map] at hx
    obtain ⟨y, hy, rfl⟩ := hx
    have := there_lt (hm y hy)
    rw [List.mem_range]; omega)
  simpa using h3

/-- What a search has come to: what was offered, what waits, what is best, what was looked at. -/
structure Sea (ns : List Nd) (q : List Int) (mask ef : Int) (seen : List Int) (xq xb pop : List Sp) : Prop where
  th : ∀ y ∈ seen, there ns y = true
  wait : (pop ++ xq).Perm ((uniq seen).map (spI q ns))
  sub : ∃ zs, (xb ++ zs).Perm (((uniq seen).filter (tagsI mask ns)).map (spI q ns))
  all : (((uniq seen).filter (tagsI mask ns)).length : Int) ≤ mostOf ef → xb.Perm (((uniq seen).filter (tagsI mask ns)).map (spI q ns))
theorem Sea.len {ns : List Nd} {q : List Int} {mask ef : Int} {seen : List Int} {xq xb pop : List Sp} (h : Sea ns q mask ef seen xq xb pop) : pop.length + xq.length ≤ ns.length := by
  have h1 := h.wait.length_eq
  have h2 := uniq_len h.th
  simp at h1
  omega

/-- One slot more is offered. -/
theorem Sea.offer {ns : List Nd} {q : List Int} {mask ef : Int} {seen : List Int} {xq xb pop : List Sp} (h : Sea ns q mask ef seen xq xb pop) {w w' : World} {S : Nat → Prop} {B : PB} {x : Int} {n : Nd} {vq' : Value} {xq' : List Sp} {vb' : Value} {xb' : List Sp}
    (ht : there ns x = true) (hn : ns[x.toNat]? = some n) (o : OfferP w w' S B q mask ef seen xq xb x ⟨dist q n.vec, n.id, x⟩ (hasB n.tags mask) vq' xq' vb' xb') : Sea ns q mask ef (seen ++ [x]) xq' xb' pop := by
  have hs : spI q ns x = ⟨dist q n.vec, n.id, x⟩ := by
    unfold spI; rw [spotAt_eq hn]; unfold spOf
    have := there_lt ht
    simp; omega
  have hh : tagsI mask ns x = hasB n.tags mask := by unfold tagsI; rw [hn]
  have hth : ∀ y ∈ seen ++ [x], there ns y = true := fun y hy => by
    rcases List.mem_append.1 hy with hy | hy
    · exact h.th y hy
    · rw [List.mem_singleton.1 hy]; exact ht
  have hu := uniq_snoc seen x
  by_cases hx : x ∈ seen
  · rw [if_pos hx] at hu
    obtain ⟨e1, e2⟩ := o.known hx
    rw [e1, e2]
    exact ⟨hth, by rw [hu]; exact h.wait, by rw [hu]; exact h.sub, by rw [hu]; exact h.all⟩
  · rw [if_neg hx] at hu
    have hw : (pop ++ xq').Perm ((uniq (seen ++ [x])).map (spI q ns)) := by
      rw [hu, List.map_append, List.map_singleton, hs]
      refine ((o.waits hx).append_left pop).trans ?_
      rw [← List.append_assoc]
      exact h.wait.append_right _
    cases hb : hasB n.tags mask with
    | false =>
      have e := o.out hx hb
      rw [e]
      have hf : (uniq (seen ++ [x])).filter (tagsI mask ns) = (uniq seen).filter (tagsI mask ns) := by rw [hu, List.filter_append]; simp [hh, hb]
      exact ⟨hth, hw, by rw [hf]; exact h.sub, by rw [hf]; exact h.all⟩
    | true =>
      have hf : (uniq (seen ++ [x])).filter (tagsI mask ns) = (uniq seen).filter (tagsI mask ns) ++ [x] := by rw [hu, List.filter_append]; simp [hh, hb]
      refine ⟨hth, hw, ?_, ?_⟩
      · obtain ⟨zs, hz⟩ := h.sub
        obtain ⟨ys, hy⟩ := o.part hx hb
        refine ⟨ys ++ zs, ?_⟩
        rw [hf, List.map_append, List.map_singleton, hs, ← List.append_assoc]
        refine (hy.append_right zs).trans ?_
        rw [List.append_assoc]
        refine (List.Perm.append_left xb (List.perm_append_comm (l₁ := [_]) (l₂ := zs))).trans ?_
        rw [← List.append_assoc]
        exact hz.append_right _
      · intro hl
        rw [hf] at hl ⊢
        simp only [List.length_append, List.length_singleton] at hl
        have h1 := h.all (by omega)
        have h2 := h1.length_eq
        simp only [List.length_map] at h2
        rw [List.map_append, List.map_singleton, hs]
        exact (o.room hx hb (by omega)).trans (h1.append_right _)
/-- What is offered is taken from what waits. -/
theorem Sea.pops {ns : List Nd} {q : List Int} {mask ef : Int} {seen : List Int} {xq xb pop ys : List Sp} {x : Sp} (h : Sea ns q mask ef seen xq xb pop) (hp : xq.Perm (x :: ys)) : Sea ns q mask ef seen ys xb (pop ++ [x]) ∧ ∃ y ∈ seen, x = spI q ns y ∧ x.s = y ∧ there ns y = true := by
  refine ⟨⟨h.th, ?_, h.sub, h.all⟩, ?_⟩
  · rw [List.append_assoc]
    exact ((hp.append_left pop).symm).trans h.wait
  · have hx : x ∈ pop ++ xq := List.mem_append.2 (.inr (hp.mem_iff.2 (List.mem_cons_self ..)))
    have hx2 := h.wait.mem_iff.1 hx
    obtain ⟨y, hy, rfl⟩ := List.mem_map.1 hx2
    have hy' := (mem_uniq _ _).1 hy
    have ht := h.th y hy'
    refine ⟨y, hy', rfl, ?_, ht⟩
    unfold spI
    rw [spotAt_s]
    have := there_lt ht
    omega
end Go.Proofs.YtajbimmfkbgcpaaGreat

/- beam.searcher.offer. -/
namespace Go.Proofs.YtajbimmfkbgcpaaGreat
open Go.RowKit

/-- Where a searcher lies, and the plane. -/
structure SB where
  W0 : World
  S : Nat → Prop
  sb : Nat
  B : PB
  a : Option Addr
  ns : List Nd
  cap : Nat
  en : Int
  tp : Int
  aq0 : Option Addr
  q : List Int
  mask : Int
  ef : Int

structure SearchIs (w : World) (Z : SB) (seen : List Int) (vq : Value) (xq : List Sp) (vb : Value) (xb : List Sp) : Prop where
  probe : ProbeIs w Z.S Z.B Z.q Z.mask Z.ef seen vq xq vb xb
  s0 : w.cell? ⟨Z.sb, 0, none⟩ = some (.pointer (some ⟨Z.B.pb, 0, none⟩))
  s1 : w.cell? ⟨Z.sb, 1, none⟩ = some (.slice Z.a Z.ns.length Z.cap)
  s2 : w.cell? ⟨Z.sb, 2, none⟩ = some (.int .i64 Z.en)
  s3 : w.cell? ⟨Z.sb, 3, none⟩ = some (.int .i64 Z.tp)
  s4 : ∃ c, w.cell? ⟨Z.sb, 4, none⟩ = some (.int .i64 c)
  f4 : w.frozen? ⟨Z.sb, 4, none⟩ = false
  sbS : Z.S Z.sb
  sbp : Z.sb ≠ Z.B.pb
  sbq : ∀ b o, Z.B.aq = some ⟨b, o, none⟩ → b ≠ Z.sb
  sbW : Z.W0.heap.size ≤ Z.sb
  since : Kept Z.W0 w
  plane : PG Z.W0 Z.a Z.ns Z.aq0 Z.q
  S0 : ∀ b, b < Z.W0.heap.size → Z.S b

section
variable {w w' : World} {Z : SB} {seen seen' : List Int} {vq vq' : Value} {xq xq' : List Sp} {vb vb' : Value} {xb xb' : List Sp}
theorem SearchIs.far (h : SearchIs w Z seen vq xq vb xb) (hf : Far (fun b => ¬ Z.S b) w w') (hp : ProbeIs w' Z.S Z.B Z.q Z.mask Z.ef seen' vq' xq' vb' xb') : SearchIs w' Z seen' vq' xq' vb' xb' :=
  have hn : ¬ ¬ Z.S Z.sb := fun e => e h.sbS
  ⟨hp, hf.cell h.s0 hn, hf.cell h.s1 hn, hf.cell h.s2 hn, hf.cell h.s3 hn, by obtain ⟨c, hc⟩ := h.s4; exact ⟨c, hf.cell hc hn⟩, (World.frozen?_of_block (hf.block _ (lt_of_cell h.s0) hn)).trans h.f4, h.sbS, h.sbp, h.sbq, h.sbW, kept_far h.since hf (fun b hb e => e (h.S0 b hb)), h.plane, h.S0⟩
theorem SearchIs.keep (h : SearchIs w Z seen vq xq vb xb) (hk : Kept w w') : SearchIs w' Z seen vq xq vb xb := h.far (Far.of_kept _ hk) (h.probe.keep hk)
end

/-- What an offer of slots comes to. -/
structure OffersP (w w' : World) (Z : SB) (seen : List Int) (pop : List Sp) (l : List Int) (seen' : List Int) (vq' : Value) (xq' : List Sp) (vb' : Value) (xb' : List Sp) : Prop where
  is : SearchIs w' Z seen' vq' xq' vb' xb'
  sea : Sea Z.ns Z.q Z.mask Z.ef seen' xq' xb' pop
  old : ∀ y ∈ seen, y ∈ seen'
  new : ∀ y ∈ l, there Z.ns y = true → y ∈ seen'
  len : seen'.length ≤ seen.length + l.length
  far : Far (fun b => ¬ Z.S b) w w'

def OffersRel (w : World) (Z : SB) (seen : List Int) (pop : List Sp) (l : List Int) (i : Value) (wr : World) : Prop :=
  ∃ (j : Nat) (seen' : List Int) (vq' : Value) (xq' : List Sp) (vb' : Value) (xb' : List Sp), j ≤ l.length ∧ i = .int .i64 (j : Int) ∧ Hid (OffersP w wr Z seen pop (l.take j) seen' vq' xq' vb' xb')

theorem OffersP.next {w wr w' : World} {Z : SB} {seen : List Int} {pop : List Sp} {l : List Int} {j : Nat} {seen' seen'' : List Int} {vq' vq'' : Value} {xq' xq'' : List Sp} {vb' vb'' : Value} {xb' xb'' : List Sp} (h : OffersP w wr Z seen pop (l.take j) seen' vq' xq' vb' xb') (hj : j < l.length)
    (is : SearchIs w' Z seen'' vq'' xq'' vb'' xb'') (sea : Sea Z.ns Z.q Z.mask Z.ef seen'' xq'' xb'' pop) (far : Far (fun b => ¬ Z.S b) wr w') (hs : (there Z.ns (l.getD j 0) = true ∧ seen'' = seen' ++ [l.getD j 0]) ∨ (there Z.ns (l.getD j 0) = false ∧ seen'' = seen')) : OffersP w w' Z seen pop (l.take (j + 1)) seen'' vq'' xq'' vb'' xb'' := by
  have htk := take_snoc_getD hj
  refine ⟨is, sea, ?_, ?_, ?_, h.far.trans far⟩
  · intro y hy
    have := h.old y hy
    rcases hs with ⟨_, rfl⟩ | ⟨_, rfl⟩
    · exact List.mem_append.2 (.inl this)
    · exact this
  · intro y hy ht
    rw [htk] at hy
    rcases List.mem_append.1 hy with hy | hy
    · have := h.new y hy ht
      rcases hs with ⟨_, rfl⟩ | ⟨_, rfl⟩
      · exact List.mem_append.2 (.inl this)
      · exact this
    · rw [List.mem_singleton] at hy
      subst hy
      rcases hs with ⟨_, rfl⟩ | ⟨h0, rfl⟩
      · exact List.mem_append.2 (.inr (List.mem_singleton.2 rfl))
      · rw [h0] at ht; cases ht
  · have h1 := h.len
    rw [htk, List.length_append, List.length_singleton]
    rcases hs with ⟨_, rfl⟩ | ⟨_, rfl⟩
    · rw [List.length_append, List.length_singleton]; omega
    · omega

set_option maxRecDepth 100000 in
set_option maxHeartbeats 600000 in
theorem SOffer_any (Z : SB) (seen : List Int) (vq : Value) (xq : List Sp) (vb : Value) (xb pop : List Sp) (al : Option Addr) (cl : Nat) (l : List Int) (w : World) (hS : SearchIs w Z seen vq xq vb xb) (hA : Sea Z.ns Z.q Z.mask Z.ef seen xq xb pop)
    (hl : IntsAt .i64 w al l) (hlS : ∀ b o, al = some ⟨b, o, none⟩ → Z.S b) (hlen : seen.length + l.length ≤ 1099511627776) :
    Calls Tryz.prog 58 #[.pointer (some ⟨Z.sb, 0, none⟩), .slice al l.length cl] w fun e w' => e = .returned (.tuple #[]) ∧ ∃ seen' vq' xq' vb' xb', OffersP w w' Z seen pop l seen' vq' xq' vb' xb' := by
  have HS := Lib.hid hS; have HA := Lib.hid hA; have HLI := Lib.hid hl; have HLS := Lib.hid hlS
  have l0 : l.length ≤ 1099511627776 := by omega
  have HLen := Lib.hid hlen
  clear hS hA hl hlS hlen
  obtain ⟨sb, hsb⟩ : ∃ x, x = Z.sb := ⟨_, rfl⟩
  rw [← hsb]
  have HSB := Lib.hid hsb
  clear hsb
  go_enter Tryz.func58, Tryz.ntmps58
  go_wp2_with fail
  go_loopw [8] (OffersRel w Z seen pop l) (fun i _ => l.length - (intOf i).toNat)
  case atStart => exact ⟨0, seen, vq, xq, vb, xb, Nat.zero_le _, rfl, HS.out, HA.out, fun _ h => h, by simp, by simp, Far.refl _ _⟩
  case round =>
    obtain ⟨j, sn, vq1, xq1, vb1, xb1, hj, rfl, hr⟩ := hrel
    have s1 := hr.out.is.s1; have s2 := hr.out.is.s2; have s3 := hr.out.is.s3
    rw [← HSB.out] at s1 s2 s3
    have l1 := lt_of_cell s1
    by_cases hlt : j < l.length
    · have hli : IntsAt .i64 wr al l := HLI.out.far (fun b o e => fun e2 => e2 (HLS.out b o e)) hr.out.far
      obtain ⟨b, o, rfl, hbl, hc⟩ := hli.at_ hlt
      have hgd : l[j] = l.getD j 0 := by rw [List.getD_eq_getElem?_getD, List.getElem?_eq_getElem hlt]; rfl
      rw [hgd] at hc
      have T : Hid (Calls Tryz.prog 17 #[PlaneV Z.a Z.ns.length Z.cap Z.en Z.tp, .int .i64 (l.getD j 0)] wr fun e w' => e = .returned (.bool (there Z.ns (l.getD j 0))) ∧ Kept wr w') := There_any Z.a Z.ns Z.cap Z.en Z.tp _ wr (hr.out.is.plane.nodes.keep hr.out.is.since)
      clear hli hgd
      obtain ⟨y, hy⟩ : ∃ y, y = l.getD j 0 := ⟨_, rfl⟩
      rw [← hy] at hc T
      have HY := Lib.hid hy
      clear hy
      obtain ⟨a, ha⟩ : ∃ x, x = Z.a := ⟨_, rfl⟩
      obtain ⟨len, hn⟩ : ∃ x, x = Z.ns.length := ⟨_, rfl⟩
      obtain ⟨cap, hcap⟩ : ∃ x, x = Z.cap := ⟨_, rfl⟩
      obtain ⟨en, hen⟩ : ∃ x, x = Z.en := ⟨_, rfl⟩
      obtain ⟨tp, htp⟩ : ∃ x, x = Z.tp := ⟨_, rfl⟩
      rw [← ha, ← hn, ← hcap, ← hen, ← htp] at T
      rw [← ha, ← hn, ← hcap] at s1
      rw [← hen] at s2
      rw [← htp] at s3
      have HA0 := Lib.hid ha; have HNL := Lib.hid hn
      clear ha hn hcap hen htp
      cases hte : there Z.ns y with
      | false =>
        rw [hte] at T
        have HTE := Lib.hid hte
        clear hte
        go_wp2_with (first | (go_at_call 17; refine T.out.mono ?_; rintro e w1 ⟨rfl, hk1⟩))
        go_roundw
        case rel => exact ⟨j + 1, sn, vq1, xq1, vb1, xb1, hlt, by go_num, hr.out.next hlt (hr.out.is.keep hk1) hr.out.sea (Far.of_kept _ hk1) (.inr ⟨by rw [← HY.out]; exact HTE.out, rfl⟩)⟩
        case measure => simp [intOf]; omega
      | true =>
        rw [hte] at T
        have HTE := Lib.hid hte
        obtain ⟨k, n, hk, hn, hk0, hkl⟩ := there_nat hte
        obtain ⟨bn, on, ha, hbn, hcn, hvn, -, hfn⟩ := (hr.out.is.plane.nodes.keep hr.out.is.since) k n hn
        have HHK := Lib.hid hk
        rw [hk] at T hc
        have q0 : wr.cell? ⟨bn, on + k * 7, none⟩ = some (.int .u64 n.id) := hcn 0 _ rfl
        have q1 : wr.cell? ⟨bn, on + k * 7 + 1, none⟩ = some (.slice n.va n.vec.length n.vc) := hcn 1 _ rfl
        have q2 : wr.cell? ⟨bn, on + k * 7 + 2, none⟩ = some (.int .u64 n.tags) := hcn 2 _ rfl
        have HN := Lib.hid hn; have HFN := Lib.hid hfn
        have haa := HA0.out.trans ha
        subst haa
        have Q0 := Lib.hid q0; have Q1 := Lib.hid q1; have Q2 := Lib.hid q2; have S1 := Lib.hid s1; have s0 := hr.out.is.s0
        rw [← HSB.out] at s0
        have S0 := Lib.hid s0
        clear hte hk hn ha s0 hcn hvn hfn q0 q1 q2
        go_wp2_with (first | (go_at_call 17; refine T.out.mono ?_; rintro e w1 ⟨rfl, hk1⟩
                              have K1 := Lib.hid hk1
                              have q0 := kcell hk1 Q0.out; have q1 := kcell hk1 Q1.out; have q2 := kcell hk1 Q2.out; have t0 := kcell hk1 S0.out; have t1 := kcell hk1 S1.out
                              have lq := lt_of_cell q0; have lt := lt_of_cell t0
                              clear hk1 s1 s2 s3 l1 hc hbl hbn))
        have hkl' : (k : Int) < (len : Int) := by have := HNL.out; omega
        refine wp_region_kept_tail 14 (by kernel_rfl) (by kernel_rfl) ?_
        simp only [List.take_succ_cons, List.take_zero, List.drop_succ_cons, List.drop_zero]
        repeat (go_big_quiet_step (fail))
        refine wpQuiet_nil ?_
        intro w2 hw2
        have K12 : Hid (Kept w1 w2) := by obtain ⟨p, rfl⟩ := hw2; exact gr_kept _ _ _
        have K2 := Lib.hid (Kept.trans K1.out K12.out)
        have IS2 := Lib.hid (hr.out.is.keep K2.out)
        have V0 : Hid (∀ W, Far (fun b => ¬ Z.S b) w2 W → IntsAt .i32 W n.va n.vec) := fun W hf => by
          obtain ⟨_, _, _, _, _, hv0, _, _⟩ := IS2.out.plane.nodes k n HN.out
          exact hv0.keep (kept_far IS2.out.since hf (fun b hb e => e (IS2.out.S0 b hb)))
        have OFF := Lib.hid (POffer_any Z.S Z.B Z.q Z.mask Z.ef sn vq1 xq1 vb1 xb1 (k : Int) n.id n.va n.vc n.vec n.tags w2 IS2.out.probe (by have h1 := hr.out.len; rw [List.length_take] at h1; have := HLen.out; omega)
          (by have := hr.out.sea.len; have := IS2.out.plane.len; omega) IS2.out.plane.ql IS2.out.plane.iq HFN.out.veclen HFN.out.vec V0.out)
        clear hw2 q0 q1 q2 t0 t1 lq lt
        go_wp2_with (first | (go_at_call 74; refine OFF.out.mono ?_; rintro e w3 ⟨⟨r, rfl⟩, vq2, xq2, vb2, xb2, hof⟩))
        go_roundw
        case rel =>
          have hsea := hr.out.sea.offer (x := (k : Int)) (n := n) (by rw [← HHK.out]; exact HTE.out) (by simpa using HN.out) hof
          exact ⟨j + 1, sn ++ [(k : Int)], vq2, xq2, vb2, xb2, hlt, by go_num, hr.out.next hlt (IS2.out.far hof.low hof.is) hsea ((Far.of_kept _ K2.out).trans hof.low) (.inl ⟨by rw [← HY.out]; exact HTE.out, by rw [← HY.out, HHK.out]⟩)⟩
        case measure => simp [intOf]; omega
    · obtain rfl : j = l.length := by omega
      go_wp2
      go_end0
      exact ⟨rfl, sn, vq1, xq1, vb1, xb1, by have := hr.out; rw [List.take_length] at this; exact this⟩
end Go.Proofs.YtajbimmfkbgcpaaGreat

/- beam.searcher.look. -/
namespace Go.Proofs.YtajbimmfkbgcpaaGreat
open Go.RowKit

section
variable {w w' : World} {Z : SB} {seen : List Int} {vq : Value} {xq : List Sp} {vb : Value} {xb : List Sp}
theorem ProbeIs.less {S S' : Nat → Prop} {B : PB} {q : List Int} {mask ef : Int} (h : ProbeIs w S' B q mask ef seen vq xq vb xb) (hS : ∀ b, S b → S' b) (h1 : S B.pb) (h2 : ∀ b o, B.aq = some ⟨b, o, none⟩ → S b) : ProbeIs w S B q mask ef seen vq xq vb xb :=
  ⟨h.p0, h.p1, h.p2, h.p3, h.p4, h.p5, h.qs, h.known, h.queue, h.best, h.most, h.ne, fun b e => h.low b (hS b e), h1, h2, h.qown, h.bown, h.xbl⟩
theorem SearchIs.more (h : SearchIs w Z seen vq xq vb xb) (hk : Kept w w') {s : Nat} (hs : w.heap.size ≤ s) (hs' : s < w'.heap.size) : SearchIs w' { Z with S := fun b => Z.S b ∨ b = s } seen vq xq vb xb :=
  have h' := h.keep hk
  ⟨h.probe.more hk hs hs', h'.s0, h'.s1, h'.s2, h'.s3, h'.s4, h'.f4, .inl h.sbS, h.sbp, h.sbq, h.sbW, h'.since, h.plane, fun b hb => .inl (h.S0 b hb)⟩
theorem SearchIs.less {S' : Nat → Prop} (h : SearchIs w { Z with S := S' } seen vq xq vb xb) (hS : ∀ b, Z.S b → S' b) (h1 : Z.S Z.B.pb) (h2 : ∀ b o, Z.B.aq = some ⟨b, o, none⟩ → Z.S b) (h3 : Z.S Z.sb) (h4 : ∀ b, b < Z.W0.heap.size → Z.S b) : SearchIs w Z seen vq xq vb xb :=
  ⟨ProbeIs.less h.probe hS h1 h2, h.s0, h.s1, h.s2, h.s3, h.s4, h.f4, h3, h.sbp, h.sbq, h.sbW, h.since, h.plane, h4⟩
theorem ProbeIs.other {S : Nat → Prop} {B : PB} {q : List Int} {mask ef : Int} (h : ProbeIs w S B q mask ef seen vq xq vb xb) {s : Nat} (hf : Far (fun b => b = s) w w') (hs : S s) (h1 : B.pb ≠ s) (h2 : ∀ b o, B.aq = some ⟨b, o, none⟩ → b ≠ s) : ProbeIs w' S B q mask ef seen vq xq vb xb := by
  obtain ⟨a0, a1, a2, a3, a4, a5⟩ := h.low s hs
  exact ⟨hf.cell h.p0 h1, hf.cell h.p1 h1, hf.cell h.p2 h1, hf.cell h.p3 h1, hf.cell h.p4 h1, hf.cell h.p5 h1, h.qs.far h2 hf, h.known.far (fun e => a1 e.symm) hf, h.queue.far hf (fun e => a2 e.symm) (fun b hb e => a4 (e ▸ hb)), h.best.far hf (fun e => a3 e.symm) (fun b hb e => a5 (e ▸ hb)),
    hf.cell h.most (fun e => a3 e.symm), h.ne, fun b e => ⟨Nat.lt_of_lt_of_le (h.low b e).1 hf.size, (h.low b e).2⟩, h.pbS, h.aqS, h.qown, h.bown, h.xbl⟩
theorem SearchIs.cost (h : SearchIs w Z seen vq xq vb xb) (c' : Int) : SearchIs (w.setCell ⟨Z.sb, 4, none⟩ (.int .i64 c')) Z seen vq xq vb xb := by
  obtain ⟨c, hc⟩ := h.s4
  have hf : Far (fun b => b = Z.sb) w (w.setCell ⟨Z.sb, 4, none⟩ (.int .i64 c')) := Far.of_only (only_setCell' w Z.sb 4 (.int .i64 c')) rfl
  have ot : ∀ i v, i ≠ 4 → w.cell? ⟨Z.sb, i, none⟩ = some v → (w.setCell ⟨Z.sb, 4, none⟩ (.int .i64 c')).cell? ⟨Z.sb, i, none⟩ = some v := fun i v hi hv => (World.cell?_setCell_other _ _ _ _ (fun e => hi (by have := congrArg Addr.off e; simpa using this.symm))).trans hv
  refine ⟨h.probe.other hf h.sbS (fun e => h.sbp e.symm) h.sbq, ot 0 _ (by omega) h.s0, ot 1 _ (by omega) h.s1, ot 2 _ (by omega) h.s2, ot 3 _ (by omega) h.s3, ⟨c', World.cell?_setCell_same' _ _ _ (by rw [hc]; rfl)⟩, by rw [World.frozen?_setCell]; exact h.f4, h.sbS, h.sbp, h.sbq, h.sbW,
    kept_far h.since hf (fun b hb e => by have := h.sbW; omega), h.plane, h.S0⟩
end

structure OffersN (w' : World) (Z : SB) (seen : List Int) (pop : List Sp) (l : List Int) (seen' : List Int) (vq' : Value) (xq' : List Sp) (vb' : Value) (xb' : List Sp) : Prop where
  is : SearchIs w' Z seen' vq' xq' vb' xb'
  sea : Sea Z.ns Z.q Z.mask Z.ef seen' xq' xb' pop
  old : ∀ y ∈ seen, y ∈ seen'
  new : ∀ y ∈ l, there Z.ns y = true → y ∈ seen'
  len : seen'.length ≤ seen.length + l.length

/-- An offer of slots that lie in a new row. -/
theorem SOffer_own (Z : SB) (seen : List Int) (vq : Value) (xq : List Sp) (vb : Value) (xb pop : List Sp) (base : Nat) (v : Value) (l : List Int) (w0 w : World) (hS : SearchIs w0 Z seen vq xq vb xb) (hk : Kept w0 w) (hA : Sea Z.ns Z.q Z.mask Z.ef seen xq xb pop)
    (hown : w.ownsRow base 3 1 v l.length (ints .i64 l)) (hb : w0.heap.size ≤ base) (hlen : seen.length + l.length ≤ 1099511627776) :
    Calls Tryz.prog 58 #[.pointer (some ⟨Z.sb, 0, none⟩), v] w fun e w' => e = .returned (.tuple #[]) ∧ ∃ seen' vq' xq' vb' xb', OffersN w' Z seen pop l seen' vq' xq' vb' xb' := by
  obtain ⟨al, cl, rfl, -, hI, hfar⟩ := ints_of_own' hown
  rcases al with _ | ⟨g, o, sp⟩
  · refine (SOffer_any Z seen vq xq vb xb pop none cl l w (hS.keep hk) hA hI (fun b o e => by cases e) hlen).mono ?_
    rintro e w' ⟨rfl, s', q', x', b', y', h⟩
    exact ⟨rfl, s', q', x', b', y', h.is, h.sea, h.old, h.new, h.len⟩
  · by_cases hsp : sp = none
    · subst hsp
      obtain ⟨h1, h2⟩ := hfar g o rfl
      have hS' := hS.more hk (s := g) (by omega) h2
      refine (SOffer_any { Z with S := fun b => Z.S b ∨ b = g } seen vq xq vb xb pop (some ⟨g, o, none⟩) cl l w hS' hA hI (fun b o' e => by injection e with e; injection e with e; exact .inr e.symm) hlen).mono ?_
      rintro e w' ⟨rfl, s', q', x', b', y', h⟩
      exact ⟨rfl, s', q', x', b', y', h.is.less (fun b => .inl) hS.probe.pbS hS.probe.aqS hS.sbS hS.S0, h.sea, h.old, h.new, h.len⟩
    · obtain ⟨a', c', hv, h3, h4⟩ := own_slice hown
      injection hv with hv
      obtain ⟨g', hg', _⟩ := h4 _ hv.symm
      injection hg' with _ _ h5
      exact absurd h5 hsp

/-- All that was looked at was looked around from. -/
def Closed (ns : List Nd) (level : Nat) (seen : List Int) (pop : List Sp) : Prop := ∀ x ∈ pop, ∀ y ∈ nearL ns x.s.toNat level, y ∈ seen

structure LookP (w' : World) (Z : SB) (level : Nat) (seen seen' : List Int) (pop cur : List Sp) (vq' : Value) (xq' : List Sp) (vb' : Value) (xb' : List Sp) : Prop where
  is : SearchIs w' Z seen' vq' xq' vb' xb'
  sea : Sea Z.ns Z.q Z.mask Z.ef seen' xq' xb' (pop ++ cur)
  old : ∀ y ∈ seen, y ∈ seen'
  len : seen'.length ≤ seen.length + pop.length * 1000
  closed : Closed Z.ns level seen' pop

def LookRel (Z : SB) (level : Nat) (seen : List Int) (k : Nat) (nx is : Value) (wr : World) : Prop :=
  ∃ (b : Bool) (x : Int) (seen' : List Int) (pop cur : List Sp) (vq' : Value) (xq' : List Sp) (vb' : Value) (xb' : List Sp), is = .bool b ∧ nx = .int .i64 x ∧ 
    Hid (1 + (Z.ns.length - pop.length) ≤ k ∧ LookP wr Z level seen seen' pop cur vq' xq' vb' xb' ∧ (b = true → there Z.ns x = true ∧ ∃ s, s.s = x ∧ cur = [s]) ∧ (b = false → cur = [] ∧ doneB Z.ef xq' xb' = true))

def LookPost (Z : SB) (level : Nat) (seen : List Int) (e : Ending) (w' : World) : Prop :=
  e = .returned (.tuple #[]) ∧ ∃ seen' pop vq' xq' vb' xb', LookP w' Z level seen seen' pop [] vq' xq' vb' xb' ∧ doneB Z.ef xq' xb' = true

theorem want_rel {Z : SB} {level : Nat} {seen0 seen : List Int} {pop : List Sp} {vq : Value} {xq : List Sp} {vb : Value} {xb : List Sp} {w w' : World} {e : Ending} {k : Nat} (h : LookP w Z level seen0 seen pop [] vq xq vb xb)
    (hW : WantPost Z.S Z.B Z.q Z.mask Z.ef seen vq xq vb xb w e w') (hk : 1 + (Z.ns.length - pop.length) ≤ k) : ∃ x b, e = .returned (.tuple #[.int .i64 x, .bool b]) ∧ LookRel Z level seen0 k (.int .i64 x) (.bool b) w' := by
  have hsea := h.sea
  rw [List.append_nil] at hsea
  obtain ⟨hf, h1 | h1⟩ := hW
  · obtain ⟨hd, he, hp⟩ := h1
    exact ⟨0, false, he, false, 0, seen, pop, [], vq, xq, vb, xb, rfl, rfl, hk, ⟨h.is.far hf hp, h.sea, h.old, h.len, h.closed⟩, (fun e => by cases e), fun _ => ⟨rfl, hd⟩⟩
  · obtain ⟨hd, s, vq', ys, hperm, he, hp⟩ := h1
    obtain ⟨hs1, y, hy, hsy, hss, hty⟩ := hsea.pops hperm
    exact ⟨s.s, true, he, true, s.s, seen, pop, [s], vq', ys, vb, xb, rfl, rfl, hk, ⟨h.is.far hf hp, hs1, h.old, h.len, h.closed⟩, (fun _ => ⟨by rw [hss]; exact hty, s, rfl, rfl⟩), (fun e => by cases e)⟩

theorem look_next {Z : SB} {level : Nat} {seen sn sn2 : List Int} {pop cur : List Sp} {vq1 vq2 : Value} {xq1 xq2 : List Sp} {vb1 vb2 : Value} {xb1 xb2 : List Sp} {wr w3 : World} {s : Sp} {x : Int} {kx : Nat} (h : LookP wr Z level seen sn pop cur vq1 xq1 vb1 xb1)
    (o : OffersN w3 Z sn (pop ++ cur) (nearL Z.ns kx level) sn2 vq2 xq2 vb2 xb2) (hs : s.s = x) (hcur : cur = [s]) (hx : x = (kx : Int)) : LookP w3 Z level seen sn2 (pop ++ cur) [] vq2 xq2 vb2 xb2 := by
  refine ⟨o.is, by rw [List.append_nil]; exact o.sea, fun y hy => o.old y (h.old y hy), ?_, fun z hz y hy => ?_⟩
  · have h1 := h.len
    have h2 := o.len
    have h3 := nearL_len Z.ns kx level
    have h4 := h.is.plane.len
    rw [hcur, List.length_append, List.length_singleton]
    omega
  · rcases List.mem_append.1 hz with hz | hz
    · exact o.old y (h.closed z hz y hy)
    · rw [hcur, List.mem_singleton] at hz
      subst hz
      rw [hs, hx, Int.toNat_natCast] at hy
      exact o.new y hy ((mem_nearL y).1 hy).2

set_option maxRecDepth 100000 in
set_option maxHeartbeats 1000000 in
theorem Look_any (Z : SB) (level : Nat) (seen : List Int) (vq : Value) (xq : List Sp) (vb : Value) (xb : List Sp) (w : World) (hS : SearchIs w Z seen vq xq vb xb) (hA : Sea Z.ns Z.q Z.mask Z.ef seen xq xb []) (hlen : seen.length ≤ 1000000) :
    Calls Tryz.prog 60 #[.pointer (some ⟨Z.sb, 0, none⟩), .int .i64 (level : Int)] w (LookPost Z level seen) := by
  have h0 : LookP w Z level seen seen [] [] vq xq vb xb := ⟨hS, by simpa using hA, fun _ h => h, by simp, fun x hx => by cases hx⟩
  have H0 := Lib.hid h0
  have HLen := Lib.hid hlen
  have W0 := Lib.hid (Want_any Z.S Z.B Z.q Z.mask Z.ef seen vq xq vb xb w hS.probe (by have := hA.len; have := hS.plane.len; omega))
  have s0 := hS.s0
  obtain ⟨sb, hsb⟩ : ∃ x, x = Z.sb := ⟨_, rfl⟩
  obtain ⟨pb, hpb⟩ : ∃ x, x = Z.B.pb := ⟨_, rfl⟩
  rw [← hsb]
  rw [← hsb, ← hpb] at s0
  rw [← hpb] at W0
  have l0 := lt_of_cell s0
  have HSB := Lib.hid hsb
  have HPB := Lib.hid hpb
  clear hS hA h0 hsb hpb hlen
  go_enter Tryz.func60, Tryz.ntmps60
  go_wp2_with (first | (go_at_call 78; refine W0.out.mono ?_; rintro e w1 hw1; obtain ⟨x1, b1, rfl, hrel1⟩ := want_rel H0.out hw1 (Nat.le_refl _); have R1 := Lib.hid hrel1; clear hrel1 hw1))
  go_loopg [4, 5] (1 + (Z.ns.length - ([] : List Sp).length)) (fun k nx is wr => LookRel Z level seen k nx is wr)
  case atStart => exact R1.out
  case round =>
    obtain ⟨b, x, sn, pop, cur, vq1, xq1, vb1, xb1, rfl, rfl, hr⟩ := hrel
    clear R1 W0 s0 l0
    cases b with
    | false =>
      go_wp2
      go_end0
      obtain ⟨rfl, hd⟩ := hr.out.2.2.2 (by trivial)
      exact ⟨rfl, sn, pop, vq1, xq1, vb1, xb1, hr.out.2.1, hd⟩
    | true =>
      have H1 := Lib.hid hr.out.2.1
      have T := Lib.hid (hr.out.2.2.1 (by trivial)).1
      have C := Lib.hid (hr.out.2.2.1 (by trivial)).2
      have KK := Lib.hid hr.out.1
      obtain ⟨c, s4⟩ := H1.out.is.s4
      have f4 := H1.out.is.f4
      rw [← HSB.out] at s4 f4
      have l4 := lt_of_cell s4
      obtain ⟨kx, nn, hkx, hnn, -, -⟩ := there_nat T.out
      have HKX := Lib.hid hkx; have HNN := Lib.hid hnn
      clear hr hkx hnn
      obtain ⟨a, ha⟩ : ∃ x, x = Z.a := ⟨_, rfl⟩
      obtain ⟨len, hn⟩ : ∃ x, x = Z.ns.length := ⟨_, rfl⟩
      obtain ⟨cap, hcap⟩ : ∃ x, x = Z.cap := ⟨_, rfl⟩
      obtain ⟨en, hen⟩ : ∃ x, x = Z.en := ⟨_, rfl⟩
      obtain ⟨tp, htp⟩ : ∃ x, x = Z.tp := ⟨_, rfl⟩
      have cst : ∀ c', Hid ((wr.setCell ⟨sb, 4, none⟩ (.int .i64 c')).cell? ⟨sb, 1, none⟩ = some (.slice a len cap) ∧ (wr.setCell ⟨sb, 4, none⟩ (.int .i64 c')).cell? ⟨sb, 2, none⟩ = some (.int .i64 en) ∧ (wr.setCell ⟨sb, 4, none⟩ (.int .i64 c')).cell? ⟨sb, 3, none⟩ = some (.int .i64 tp)) := fun c' => by
        have h := H1.out.is.cost c'
        rw [ha, hn, hcap, hen, htp, HSB.out]
        exact ⟨h.s1, h.s2, h.s3⟩
      have NR : ∀ c', Hid (Calls Tryz.prog 59 #[PlaneV a len cap en tp, .int .i64 x, .int .i64 (level : Int)] (wr.setCell ⟨sb, 4, none⟩ (.int .i64 c')) (NearPost Z.ns kx level (wr.setCell ⟨sb, 4, none⟩ (.int .i64 c')))) := fun c' => by
        have h := H1.out.is.cost c'
        rw [ha, hn, hcap, hen, htp, HSB.out, HKX.out]
        exact (h.plane.keep h.since).near Z.cap Z.en Z.tp level HNN.out
      have s1 := H1.out.is.s1; have s2 := H1.out.is.s2; have s3 := H1.out.is.s3
      rw [← ha, ← hn, ← hcap, ← HSB.out] at s1
      rw [← hen, ← HSB.out] at s2
      rw [← htp, ← HSB.out] at s3
      have HLN := Lib.hid hn
      clear ha hn hcap hen htp
      obtain ⟨r1, r2, r3⟩ := (cst (wrap64 (c + 1))).out
      have NRR := NR (wrap64 (c + 1))
      have IS1 := Lib.hid (H1.out.is.cost (wrap64 (c + 1)))
      rw [← HSB.out] at IS1
      clear cst NR
      go_wp2_with (first
        | (go_at_call 59; refine NRR.out.mono ?_; rintro e w2 ⟨vn, rfl, hown2, hk2⟩
           have OF := Lib.hid (SOffer_own Z sn vq1 xq1 vb1 xb1 (pop ++ cur) _ vn (nearL Z.ns kx level) _ w2 IS1.out hk2 H1.out.sea hown2 (Nat.le_refl _) (by
             have h1 := H1.out.len; have h2 := H1.out.sea.len; have h3 := HLen.out; have h4 := nearL_len Z.ns kx level; have h5 := IS1.out.plane.len; rw [List.length_append] at h2; omega))
           rw [← HSB.out] at OF
           clear hown2 hk2 s1 s2 s3 r1 r2 r3 s4 f4 l4)
        | (go_at_call 58; refine OF.out.mono ?_; rintro e w3 ⟨rfl, sn2, vq2, xq2, vb2, xb2, hof⟩
           have s0 := hof.is.s0
           rw [← HSB.out, ← HPB.out] at s0
           have l0 := lt_of_cell s0
           have HOF := Lib.hid hof
           have WW := Lib.hid (Want_any Z.S Z.B Z.q Z.mask Z.ef sn2 vq2 xq2 vb2 xb2 w3 hof.is.probe (by have := hof.sea.len; have := hof.is.plane.len; omega))
           rw [← HPB.out] at WW
           clear hof)
        | (go_at_call 78; refine WW.out.mono ?_; rintro e w4 hw4
           obtain ⟨s, hs, hcur⟩ := C.out
           have LP : LookP w3 Z level seen sn2 (pop ++ cur) [] vq2 xq2 vb2 xb2 := look_next H1.out HOF.out hs hcur (HKX.out)
           obtain ⟨x2, b2, rfl, hrel2⟩ := want_rel LP hw4 (Nat.le_refl _)
           have R2 := Lib.hid hrel2
           have hm := H1.out.sea.len
           have hcl : (pop ++ cur).length = pop.length + 1 := by rw [hcur]; simp
           have HM := Lib.hid hm; have HCL := Lib.hid hcl
           clear hrel2 hw4 hm hcl))
      go_roundg (1 + (Z.ns.length - (pop ++ cur).length))
      case measure =>
        have h1 := HM.out; have h2 := HCL.out; have h3 := KK.out
        omega
      case rel => exact R2.out
end Go.Proofs.YtajbimmfkbgcpaaGreat

/- beam.find. -/
namespace Go.Proofs.YtajbimmfkbgcpaaGreat
open Go.RowKit

theorem sea_nil (ns : List Nd) (q : List Int) (mask ef : Int) : Sea ns q mask ef [] [] [] [] :=
  ⟨fun y h => (by cases h), (by simp [uniq, firsts]), ⟨[], by simp [uniq, firsts]⟩, fun _ => by simp [uniq, firsts]⟩

/-- A searcher that was just made. -/
theorem search_new {w w1 w2 : World} {S : Nat → Prop} {B : PB} {a : Option Addr} {ns : List Nd} {cap : Nat} {en tp : Int} {aq : Option Addr} {q : List Int} {mask ef : Int} {t : TypeId} (hG : PG w a ns aq q) (h1 : Kept w w1) (hS : ∀ b, b < w1.heap.size → S b)
    (hP : ProbeIs w2 S B q mask ef [] (.slice none 0 0) [] (.slice none 0 0) []) (h2 : Kept w1 w2) :
    SearchIs (w2.alloc (.cells #[.pointer (some ⟨B.pb, 0, none⟩), .slice a ns.length cap, .int .i64 en, .int .i64 tp, .int .i64 0] t)) ⟨w, fun b => S b ∨ b = w2.heap.size, w2.heap.size, B, a, ns, cap, en, tp, aq, q, mask, ef⟩ [] (.slice none 0 0) [] (.slice none 0 0) [] := by
  have lp := (hP.low _ hP.pbS).1
  have k := Kept.trans h1 h2
  refine ⟨hP.more (kept_alloc _ _) (Nat.le_refl _) (by simp), cell_new rfl rfl, cell_new rfl rfl, cell_new rfl rfl, cell_new rfl rfl, ⟨0, cell_new rfl rfl⟩, frozen_new _ _ _ _ _ rfl, .inr rfl, fun e => by simp only at e; omega, fun b o e => ?_, k.size, Kept.trans k (kept_alloc _ _), hG, fun b hb => .inl (hS b (Nat.lt_of_lt_of_le hb h1.size))⟩
  have := (hP.low b (hP.aqS b o e)).1
  simp only
  omega

def FindPost (ns : List Nd) (q : List Int) (mask ef : Int) (w : World) (e : Ending) (w' : World) : Prop :=
  ∃ (Z : SB) (seen0 seen : List Int) (pop : List Sp) (vq : Value) (xq : List Sp) (vb : Value) (xb : List Sp), e = .returned (.pointer (some ⟨Z.sb, 0, none⟩)) ∧ Kept w w' ∧ Z.ns = ns ∧ Z.q = q ∧ Z.mask = mask ∧ Z.ef = ef ∧
    LookP w' Z 0 seen0 seen pop [] vq xq vb xb ∧ doneB ef xq xb = true ∧ ∀ y ∈ nearL ns 0 0, y ∈ seen

set_option maxRecDepth 100000 in
set_option maxHeartbeats 1000000 in
theorem find_any (a : Option Addr) (ns : List Nd) (cap : Nat) (en tp : Int) (aq : Option Addr) (cq : Nat) (q : List Int) (mask ef : Int) (n0 : Nd) (w : World) (hG : PG w a ns aq q) (hql : q.length ≤ 4398046511104) (hn : ns[0]? = some n0) :
    Calls Tryz.prog 41 #[PlaneV a ns.length cap en tp, .slice aq q.length cq, .int .u64 mask, .int .i64 ef] w (FindPost ns q mask ef w) := by
  have G := Lib.hid hG
  have HN := Lib.hid hn
  have p0 : (w.alloc (.cells #[.slice a ns.length cap, .int .i64 en, .int .i64 tp] 24)).cell? ⟨w.heap.size, 0, none⟩ = some (.slice a ns.length cap) := cell_new rfl rfl
  have p1 : (w.alloc (.cells #[.slice a ns.length cap, .int .i64 en, .int .i64 tp] 24)).cell? ⟨w.heap.size, 1, none⟩ = some (.int .i64 en) := cell_new rfl rfl
  have p2 : (w.alloc (.cells #[.slice a ns.length cap, .int .i64 en, .int .i64 tp] 24)).cell? ⟨w.heap.size, 2, none⟩ = some (.int .i64 tp) := cell_new rfl rfl
  have K1 : Hid (Kept w (w.alloc (.cells #[.slice a ns.length cap, .int .i64 en, .int .i64 tp] 24)).drew) := Kept.trans (kept_alloc _ _) (drewK _)
  have PN : Hid (Calls Tryz.prog 56 #[.slice aq q.length cq, .int .u64 mask, .int .i64 ef] (w.alloc (.cells #[.slice a ns.length cap, .int .i64 en, .int .i64 tp] 24)).drew fun e w' => ∃ B S, e = .returned (.pointer (some ⟨B.pb, 0, none⟩)) ∧ (∀ b, b < (w.alloc (.cells #[.slice a ns.length cap, .int .i64 en, .int .i64 tp] 24)).drew.heap.size → S b) ∧ ProbeIs w' S B q mask ef [] (.slice none 0 0) [] (.slice none 0 0) [] ∧ Kept (w.alloc (.cells #[.slice a ns.length cap, .int .i64 en, .int .i64 tp] 24)).drew w') :=
    PNew_any aq cq q mask ef _ hql (G.out.qs.keep K1.out)
  have P0 := Lib.hid p0; have P1 := Lib.hid p1; have P2 := Lib.hid p2
  clear hG hn
  go_enter Tryz.func41, Tryz.ntmps41
  go_wp2_with fail
  go_region_held3 (fun w' => w'.cell? ⟨w.heap.size, 0, none⟩ = some (.slice a ns.length cap) ∧ w'.cell? ⟨w.heap.size, 1, none⟩ = some (.int .i64 en) ∧ w'.cell? ⟨w.heap.size, 2, none⟩ = some (.int .i64 tp))
    (first | exact ⟨P0.out, P1.out, P2.out⟩ | exact ⟨kcell hk2 P0.out, kcell hk2 P1.out, kcell hk2 P2.out⟩ | go_keep)
    (first
      | (go_at_call 56; refine PN.out.mono ?_; rintro e w2 ⟨B, S, rfl, hS, hP, hk2⟩))
  have hS' : ∀ b, b < (w.alloc (.cells #[.slice a ns.length cap, .int .i64 en, .int .i64 tp] 24)).drew.heap.size → S b := hS
  have hIS3 := search_new (cap := cap) (en := en) (tp := tp) (t := 88) (G.out.keep K1.out) (Kept.rfl' _) hS' hP hk2
  have NR : Hid (∀ W, Kept (w.alloc (.cells #[.slice a ns.length cap, .int .i64 en, .int .i64 tp] 24)).drew W → Calls Tryz.prog 59 #[PlaneV a ns.length cap en tp, .int .i64 0, .int .i64 0] W (NearPost ns 0 0 W)) := fun W hk => (G.out.keep (Kept.trans K1.out hk)).near cap en tp (k := 0) 0 HN.out
  have DN : Hid (∀ W, Kept (w.alloc (.cells #[.slice a ns.length cap, .int .i64 en, .int .i64 tp] 24)).drew W → Calls Tryz.prog 57 #[PlaneV a ns.length cap en tp, .slice aq q.length cq] W (DownPost ns W)) := fun W hk => Down_any a ns cap en tp aq cq q W (G.out.keep (Kept.trans K1.out hk))
  have PX : Hid (∀ W, Kept (w.alloc (.cells #[.slice a ns.length cap, .int .i64 en, .int .i64 tp] 24)).drew W → W.cell? ⟨w.heap.size, 0, none⟩ = some (.slice a ns.length cap) ∧ W.cell? ⟨w.heap.size, 1, none⟩ = some (.int .i64 en) ∧ W.cell? ⟨w.heap.size, 2, none⟩ = some (.int .i64 tp)) := fun W hk => ⟨kcell hk P0.out, kcell hk P1.out, kcell hk P2.out⟩
  have HLen := Lib.hid (show ns.length ≤ 1000 from G.out.len)
  obtain ⟨Z, hZ, ew, ens, eq, em, ee, esb⟩ : ∃ Z : SB, SearchIs (w2.alloc (.cells #[.pointer (some ⟨B.pb, 0, none⟩), .slice a ns.length cap, .int .i64 en, .int .i64 tp, .int .i64 0] 88)) Z [] (.slice none 0 0) [] (.slice none 0 0) [] ∧ Z.W0 = (w.alloc (.cells #[.slice a ns.length cap, .int .i64 en, .int .i64 tp] 24)).drew ∧ Z.ns = ns ∧ Z.q = q ∧ Z.mask = mask ∧ Z.ef = ef ∧ Z.sb = w2.heap.size := ⟨_, hIS3, rfl, rfl, rfl, rfl, rfl, rfl⟩
  have IS3 := Lib.hid hZ
  have HK2 := Lib.hid hk2
  clear hIS3
  generalize hsb : w2.heap.size = sb at *
  have EW := Lib.hid ew; have EN := Lib.hid ens; have EQ := Lib.hid eq; have EM := Lib.hid em; have EE := Lib.hid ee; have ES := Lib.hid esb
  have hk3 := hZ.since
  rw [ew] at hk3
  generalize hW3 : (w2.alloc (.cells #[.pointer (some ⟨B.pb, 0, none⟩), .slice a ns.length cap, .int .i64 en, .int .i64 tp, .int .i64 0] 88)) = w3 at *
  obtain ⟨r0, r1, r2⟩ := PX.out _ hk3
  have l0 := lt_of_cell r0
  have HK3 := Lib.hid hk3
  clear hZ hk3 ew ens eq em ee esb hS hS' hP hk2 P0 P1 P2 hsb hW3 p0 p1 p2 PN
  go_wp2_with (first
    | (go_at_call 57; refine (DN.out _ HK3.out).mono ?_; rintro e w4 ⟨r, b, rfl, hb, hk4⟩
       obtain ⟨sn, vq, xq, vb, xb, IS, SE, LE⟩ : ∃ (sn : List Int) (vq : Value) (xq : List Sp) (vb : Value) (xb : List Sp), Hid (SearchIs w4 Z sn vq xq vb xb) ∧ Hid (Sea Z.ns Z.q Z.mask Z.ef sn xq xb []) ∧ Hid (sn.length ≤ 1) := ⟨[], _, [], _, [], IS3.out.keep hk4, sea_nil _ _ _ _, Lib.hid (by simp)⟩
       have HK4 := Lib.hid (Kept.trans HK3.out hk4)
       have OA := Lib.hid (SOffer_own Z sn vq xq vb xb [] w4.heap.size (.slice (some ⟨w4.heap.size, 0, none⟩) 1 1) [r] w4 _ IS.out (kept_alloc w4 (.cells #[.int .i64 r] 3)) SE.out (own_made1 (Nat.le_refl _) rfl) (Nat.le_refl _) (by have := LE.out; simp; omega))
       rw [ES.out] at OA
       obtain ⟨t0, t1, t2⟩ := PX.out _ HK4.out
       have lt := lt_of_cell t0
       clear r0 r1 r2 l0 hk4 hb IS3)
    | (go_at_call 58; refine OF.out.mono ?_; rintro e w7 ⟨rfl, sn7, vq7, xq7, vb7, xb7, ho⟩
       have LK := Lib.hid (Look_any Z 0 sn7 vq7 xq7 vb7 xb7 w7 ho.is ho.sea (by have h1 := ho.len; have h2 := LE.out; have h3 := nearL_len ns 0 0; have h4 := HLen.out; omega))
       rw [ES.out] at LK
       have NW : Hid (∀ y ∈ nearL ns 0 0, y ∈ sn7) := fun y hy => ho.new y hy (by rw [EN.out]; exact ((mem_nearL y).1 hy).2)
       clear ho OF)
    | (go_at_call 59; refine (NR.out _ HK4.out).mono ?_; rintro e w6 ⟨vn, rfl, hown6, hk6⟩
       have OF := Lib.hid (SOffer_own Z sn vq xq vb xb [] _ vn (nearL ns 0 0) _ w6 IS.out hk6 SE.out hown6 (Nat.le_refl _) (by have := LE.out; have h3 := nearL_len ns 0 0; have h4 := HLen.out; omega))
       rw [ES.out] at OF
       clear hown6 hk6 t0 t1 t2 lt)
    | (go_at_call 58; refine OA.out.mono ?_; rintro e w5 ⟨rfl, sn5, vq5, xq5, vb5, xb5, ho⟩
       have hl5 := ho.len
       have hle := LE.out
       clear t0 t1 t2 lt HK4 IS SE LE OA
       obtain ⟨sn, vq, xq, vb, xb, IS, SE, LE⟩ : ∃ (sn : List Int) (vq : Value) (xq : List Sp) (vb : Value) (xb : List Sp), Hid (SearchIs w5 Z sn vq xq vb xb) ∧ Hid (Sea Z.ns Z.q Z.mask Z.ef sn xq xb []) ∧ Hid (sn.length ≤ 2) := ⟨sn5, vq5, xq5, vb5, xb5, ho.is, ho.sea, Lib.hid (by simp at hl5; omega)⟩
       have hk5 := ho.is.since
       rw [EW.out] at hk5
       have HK4 := Lib.hid hk5
       obtain ⟨t0, t1, t2⟩ := PX.out _ HK4.out
       have lt := lt_of_cell t0
       clear hl5 hle hk5 ho)
    | (go_at_call 60; refine LK.out.mono ?_; rintro e w8 ⟨rfl, sn8, pop8, vq8, xq8, vb8, xb8, hlp, hdn⟩))
  all_goals (
    go_ret
    have hk8 := hlp.is.since
    rw [EW.out] at hk8
    exact ⟨Z, sn7, sn8, pop8, vq8, xq8, vb8, xb8, by rw [ES.out]; rfl, Kept.trans K1.out hk8, EN.out, EQ.out, EM.out, EE.out, hlp, by rw [← EE.out]; exact hdn, fun y hy => hlp.old y (NW.out y hy)⟩)
end Go.Proofs.YtajbimmfkbgcpaaGreat

/- beam.Find. -/
namespace Go.Proofs.YtajbimmfkbgcpaaGreat
open Go.RowKit

/-- What a search of level 0 comes to. -/
def Reached (ns : List Nd) (q : List Int) (mask ef : Int) (xb : List Sp) : Prop :=
  ∃ seen pop xq, Sea ns q mask ef seen xq xb pop ∧ Closed ns 0 seen pop ∧ doneB ef xq xb = true ∧ ∀ y ∈ nearL ns 0 0, y ∈ seen

def FoundP (ns : List Nd) (q : List Int) (mask ef : Int) (w : World) (e : Ending) (w' : World) : Prop :=
  ∃ (v : Value) (xb : List Sp), e = .returned v ∧ w'.ownsRow w.heap.size 60 3 v (sortSp xb).length (flat (sortSp xb)) ∧ Kept w w' ∧ Reached ns q mask ef xb ∧ xb.length ≤ 1000

theorem find_reached {ns : List Nd} {q : List Int} {mask ef : Int} {w1 : World} {Z : SB} {sn0 sn : List Int} {pop : List Sp} {vq : Value} {xq : List Sp} {vb : Value} {xb : List Sp} (en1 : Z.ns = ns) (eq1 : Z.q = q) (em1 : Z.mask = mask) (ee1 : Z.ef = ef)
    (hl : LookP w1 Z 0 sn0 sn pop [] vq xq vb xb) (hd : doneB ef xq xb = true) (hnr : ∀ y ∈ nearL ns 0 0, y ∈ sn) (hlen : ns.length ≤ 1000) : Reached ns q mask ef xb ∧ xb.length ≤ 1000 := by
  subst en1; subst eq1; subst em1; subst ee1
  have hs := hl.sea
  rw [List.append_nil] at hs
  refine ⟨⟨sn, pop, xq, hs, hl.closed, hd, hnr⟩, ?_⟩
  obtain ⟨zs, hz⟩ := hl.sea.sub
  have h1 := hz.length_eq
  have h2 := uniq_len hl.sea.th
  have h3 := List.length_filter_le (tagsI Z.mask Z.ns) (uniq sn)
  simp only [List.length_append, List.length_map] at h1
  omega

set_option maxRecDepth 100000 in
theorem Find_any (a : Option Addr) (ns : List Nd) (cap : Nat) (en tp : Int) (aq : Option Addr) (cq : Nat) (q : List Int) (mask ef : Int) (n0 : Nd) (w : World) (hG : PG w a ns aq q) (hql : q.length ≤ 4398046511104) (hn : ns[0]? = some n0) :
    Calls Tryz.prog 19 #[PlaneV a ns.length cap en tp, .slice aq q.length cq, .int .u64 mask, .int .i64 ef] w (FoundP ns q mask ef w) := by
  have F := Lib.hid (find_any a ns cap en tp aq cq q mask ef n0 _ (hG.keep (kept_alloc w (.cells #[.slice a ns.length cap, .int .i64 en, .int .i64 tp] 24))) hql hn)
  have HL := Lib.hid hG.len
  clear hG hn
  go_enter Tryz.func19, Tryz.ntmps19
  go_wp2_with (first
    | (go_at_call 41; refine F.out.mono ?_; rintro e w1 ⟨Z, sn0, sn, pop, vq, xq, vb, xb, rfl, hk1, en1, eq1, em1, ee1, hl, hd, hnr⟩
       have s0 := hl.is.s0
       have l0 := lt_of_cell s0
       have FD := Lib.hid (Found_any Z.S Z.B Z.q Z.mask Z.ef sn vq xq vb xb w1 hl.is.probe)
       have R := Lib.hid (find_reached en1 eq1 em1 ee1 hl hd hnr HL.out)
       have HK1 := Lib.hid (Kept.trans (kept_alloc _ _) hk1)
       clear hk1 en1 eq1 em1 ee1 hl hd hnr)
    | (go_at_call 42; refine FD.out.mono ?_; rintro e w2 ⟨v, rfl, ho, hk2⟩))
  go_ret
  exact ⟨v, xb, rfl, own_weaken ho (by have := HK1.out.size; omega), Kept.trans HK1.out hk2, R.out.1, R.out.2⟩
end Go.Proofs.YtajbimmfkbgcpaaGreat
