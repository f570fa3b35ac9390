/-
  TopAllFound: THE PLAIN LAW: a search that may find all finds what is nearest; one that may find fewer is never ahead of it.
  TopAllFound: THE PLAIN LAW, second part: what searches have reached.
-/
import Derived.Test.YtajbimmfkbgcpaaGreatKRec
import Derived.Test.YtajbimmfkbgcpaaGreatKChk
/- TopAllFound: THE PLAIN LAW: a search that may find all finds what is nearest; one that may find fewer is never ahead of it. -/
namespace Go.Proofs.YtajbimmfkbgcpaaGreat
open Go.RowKit

section lists
variable {α β : Type} [DecidableEq α]
theorem perm_of_nodup {l m : List α} (h1 : l.Nodup) (h2 : m.Nodup) (h : ∀ x, x ∈ l ↔ x ∈ m) : l.Perm m := by
  rw [List.perm_iff_count]
  intro a
  have a1 := List.nodup_iff_count.1 h1 a
  have a2 := List.nodup_iff_count.1 h2 a
  have b1 := List.count_pos_iff (a := a) (l := l)
  have b2 := List.count_pos_iff (a := a) (l := m)
  have := h a
  by_cases hm : a ∈ l
  · have := b1.2 hm; have := b2.2 ((h a).1 hm); omega
  · have e1 : ¬ 0 < l.count a := fun h' => hm (b1.1 h')
    have e2 : ¬ 0 < m.count a := fun h' => hm ((h a).2 (b2.1 h'))
    omega
theorem perm_rest {l m : List α} (h1 : l.Nodup) (h2 : m.Nodup) (h : ∀ x ∈ l, x ∈ m) : (l ++ m.filter (fun x => decide (x ∉ l))).Perm m := by
  refine perm_of_nodup ?_ h2 (fun x => ?_)
  · rw [List.nodup_append]
    refine ⟨h1, h2.filter _, fun a ha b hb e => ?_⟩
    subst e
    have := (List.mem_filter.1 hb).2
    simp [ha] at this
  · rw [List.mem_append, List.mem_filter]
    constructor
    · rintro (h' | h')
      · exact h x h'
      · exact h'.1
    · intro h'
      by_cases hx : x ∈ l
      · exact .inl hx
      · exact .inr ⟨h', by simpa using hx⟩
theorem covers {l m : List α} (h1 : l.Nodup) (h : ∀ x ∈ l, x ∈ m) (hm : m.Nodup) (hl : l.length = m.length) : ∀ x ∈ m, x ∈ l := by
  have hp := perm_rest h1 hm h
  have hlen := hp.length_eq
  rw [List.length_append] at hlen
  have h0 : m.filter (fun x => decide (x ∉ l)) = [] := List.length_eq_zero_iff.1 (by omega)
  intro x hx
  by_cases hxl : x ∈ l
  · exact hxl
  · have : x ∈ m.filter (fun x => decide (x ∉ l)) := List.mem_filter.2 ⟨hx, by simpa using hxl⟩
    rw [h0] at this
    simp at this
end lists

/-- The order of hits. -/
def htLe (x y : Ht) : Prop := x.d < y.d ∨ (x.d = y.d ∧ x.i ≤ y.i)
instance (x y : Ht) : Decidable (htLe x y) := by unfold htLe; exact inferInstance
theorem htLe_anti {x y : Ht} (h1 : htLe x y) (h2 : htLe y x) : x = y := by
  unfold htLe at h1 h2
  cases x; cases y
  simp only [Ht.mk.injEq] at *
  omega
theorem htLe_total (x y : Ht) : htLe x y ∨ htLe y x := by unfold htLe; omega
theorem htLe_trans {x y z : Ht} (h1 : htLe x y) (h2 : htLe y z) : htLe x z := by unfold htLe at *; omega

theorem sortSp_perm (xs : List Sp) : (sortSp xs).Perm xs := List.mergeSort_perm xs _
theorem sortSp_sorted (xs : List Sp) : ((sortSp xs).map Sp.ht).Pairwise htLe := by
  have hs : (sortSp xs).Pairwise (fun x y => (!(ltOf plcSp) y x) = true) := List.pairwise_mergeSort (fun x y z h1 h2 => by
    simp only [Bool.not_eq_true'] at *
    exact swoSp.ntrans z y x h2 h1) (fun x y => by
    cases h1 : ltOf plcSp y x with
    | false => rfl
    | true =>
      cases h2 : ltOf plcSp x y with
      | false => rfl
      | true => have := swoSp.trans x y x h2 h1; rw [swoSp.irrefl] at this; cases this) xs
  rw [List.pairwise_map]
  refine hs.imp (fun {x y} h => ?_)
  simp only [Bool.not_eq_true'] at h
  have := (ltSp' y x).1 h
  unfold htLe Sp.ht
  simp only
  omega
theorem sortSp_eq {xs ys : List Sp} (h : (xs.map Sp.ht).Perm (ys.map Sp.ht)) : (sortSp xs).map Sp.ht = (sortSp ys).map Sp.ht := by
  refine List.Perm.eq_of_pairwise (fun a b _ _ h1 h2 => htLe_anti h1 h2) (sortSp_sorted xs) (sortSp_sorted ys) ?_
  exact (((sortSp_perm xs).map _).trans h).trans ((sortSp_perm ys).map _).symm

/-- Of two sorted lists, one of which lies in the other, the greater is never behind. -/
theorem sorted_ahead {s z h : List Ht} (hs : s.Pairwise htLe) (hh : h.Pairwise htLe) (hp : (s ++ z).Perm h) (i : Nat) (x y : Ht) (hx : h[i]? = some x) (hy : s[i]? = some y) : htLe x y := by
  rcases htLe_total x y with h1 | h1
  · exact h1
  · by_cases he : htLe x y
    · exact he
    · exfalso
      have il := (List.getElem?_eq_some_iff.1 hx).1
      have is := (List.getElem?_eq_some_iff.1 hy).1
      let p : Ht → Bool := fun u => decide (htLe u y)
      have c1 : i + 1 ≤ s.countP p := by
        have e : s = s.take (i + 1) ++ s.drop (i + 1) := (List.take_append_drop _ _).symm
        rw [e, List.countP_append]
        have hall : ∀ u ∈ s.take (i + 1), p u = true := by
          intro u hu
          obtain ⟨j, hj⟩ := List.getElem?_of_mem hu
          have hjl : j < i + 1 := by
            have := (List.getElem?_eq_some_iff.1 hj).1
            rw [List.length_take] at this
            omega
          rw [List.getElem?_take_of_lt hjl] at hj
          have hjs := (List.getElem?_eq_some_iff.1 hj)
          have his := (List.getElem?_eq_some_iff.1 hy)
          show decide (htLe u y) = true
          rw [decide_eq_true_iff, ← hjs.2, ← his.2]
          by_cases hij : j = i
          · subst hij; unfold htLe; omega
          · exact List.pairwise_iff_getElem.1 hs j i hjs.1 his.1 (by omega)
        rw [List.countP_eq_length.2 hall, List.length_take]
        omega
      have c2 : h.countP p ≤ i := by
        have e : h = h.take i ++ h.drop i := (List.take_append_drop _ _).symm
        rw [e, List.countP_append]
        have hnone : (h.drop i).countP p = 0 := by
          rw [List.countP_eq_zero]
          intro u hu
          obtain ⟨j, hj⟩ := List.getElem?_of_mem hu
          rw [List.getElem?_drop] at hj
          have hjs := (List.getElem?_eq_some_iff.1 hj)
          have his := (List.getElem?_eq_some_iff.1 hx)
          show ¬ decide (htLe u y) = true
          rw [decide_eq_true_iff]
          intro hu'
          have hxu : htLe x u := by
            rw [← hjs.2, ← his.2]
            by_cases hj0 : j = 0
            · subst hj0; unfold htLe; simp
            · exact List.pairwise_iff_getElem.1 hh i (i + j) his.1 hjs.1 (by omega)
          exact he (htLe_trans hxu hu')
        rw [hnone, Nat.add_zero]
        exact Nat.le_trans List.countP_le_length (List.length_take_le _ _)
      have c3 := hp.countP_eq p
      rw [List.countP_append] at c3
      omega
end Go.Proofs.YtajbimmfkbgcpaaGreat

/- TopAllFound: THE PLAIN LAW, second part: what searches have reached. -/
namespace Go.Proofs.YtajbimmfkbgcpaaGreat
open Go.RowKit

theorem mem_liveI {ns : List Nd} {y : Int} : y ∈ nats (live ns) ↔ there ns y = true := by
  unfold nats live liveTo
  rw [List.mem_map]
  constructor
  · rintro ⟨k, hk, rfl⟩
    exact (List.mem_filter.1 hk).2
  · intro h
    obtain ⟨k, n, rfl, hn, h0, hl⟩ := there_nat h
    exact ⟨k, List.mem_filter.2 ⟨List.mem_range.2 hl, h⟩, rfl⟩
theorem nodup_live (ns : List Nd) : (live ns).Nodup := List.nodup_range.filter _
theorem nodup_liveI (ns : List Nd) : (nats (live ns)).Nodup := by
  unfold nats
  rw [List.nodup_iff_pairwise_ne, List.pairwise_map]
  exact (List.nodup_iff_pairwise_ne.1 (nodup_live ns)).imp (fun h e => h (by omega))
theorem live_len (ns : List Nd) : (live ns).length ≤ ns.length := liveTo_len ns ns.length

theorem next_near {ns : List Nd} {x : Nat} (hx : x < ns.length) (h : there ns (nextOf ns x) = true) : nextOf ns x ∈ nearL ns x 0 := by
  rw [mem_nearL]
  refine ⟨?_, h⟩
  have hn : ns[x]? = some (ns[x]'hx) := List.getElem?_eq_getElem hx
  rw [nearX_eq hn]
  unfold nextOf
  rw [hn]
  simp
theorem chain_seen {ns : List Nd} {seen : List Int} (hc : ∀ y ∈ seen, ∀ z ∈ nearL ns y.toNat 0, z ∈ seen) : ∀ {r : List Nat} {c cur : Int}, Chain ns c r cur → (there ns c = true → c ∈ seen) → ∀ x ∈ r, (x : Int) ∈ seen
  | [], _, _, _, _, x, hx => by simp at hx
  | y :: r, c, cur, h, hs, x, hx => by
    obtain ⟨rfl, ht, hr⟩ := h
    have hy := hs ht
    rcases List.mem_cons.1 hx with rfl | hx
    · exact hy
    · refine chain_seen hc hr (fun hn => ?_) x hx
      have hlt := there_lt ht
      have := hc _ hy (nextOf ns y) (by rw [Int.toNat_natCast]; exact next_near (by omega) hn)
      exact this

/-- All that is there with the tags asked for. -/
def allSp (ns : List Nd) (q : List Int) (mask : Int) : List Sp := ((nats (live ns)).filter (tagsI mask ns)).map (spI q ns)

theorem spI_s {q : List Int} {ns : List Nd} {y : Int} (h : there ns y = true) : (spI q ns y).s = y := by
  obtain ⟨k, n, rfl, hn, h0, hl⟩ := there_nat h
  unfold spI
  rw [Int.toNat_natCast, spotAt_eq hn]
  rfl
theorem uniq_sub {ns : List Nd} {seen : List Int} (h : ∀ y ∈ seen, there ns y = true) : (uniq seen ++ (nats (live ns)).filter (fun x => decide (x ∉ uniq seen))).Perm (nats (live ns)) :=
  perm_rest (uniq_nodup seen) (nodup_liveI ns) (fun x hx => mem_liveI.2 (h x ((mem_uniq seen x).1 hx)))
theorem sea_part {ns : List Nd} {q : List Int} {mask ef : Int} {seen : List Int} {xq xb pop : List Sp} (h : Sea ns q mask ef seen xq xb pop) : ∃ zs, (xb ++ zs).Perm (allSp ns q mask) := by
  obtain ⟨zs, hz⟩ := h.sub
  have hu := uniq_sub h.th
  have h1 := (hu.filter (tagsI mask ns)).map (spI q ns)
  rw [List.filter_append, List.map_append] at h1
  refine ⟨zs ++ (((nats (live ns)).filter (fun x => decide (x ∉ uniq seen))).filter (tagsI mask ns)).map (spI q ns), ?_⟩
  rw [← List.append_assoc]
  exact (hz.append_right _).trans h1
theorem mostOf_40 : mostOf 40 = 40 := rfl

theorem reached_all {ns : List Nd} {q : List Int} {mask en tp links : Int} {xb : List Sp} (hl : ns.length ≤ 20) (hG : PlaneGood ns en tp links) (hR : Reached ns q mask 40 xb) : xb.Perm (allSp ns q mask) := by
  obtain ⟨seen, pop, xq, hS, hC, hd, hn⟩ := hR
  have hul : (uniq seen).length ≤ 20 := Nat.le_trans (uniq_len hS.th) hl
  have hfl : ((uniq seen).filter (tagsI mask ns)).length ≤ 20 := Nat.le_trans (List.length_filter_le _ _) hul
  have hall := hS.all (by rw [mostOf_40]; omega)
  have hbl : xb.length ≤ 20 := by rw [hall.length_eq, List.length_map]; exact hfl
  have hxq : xq = [] := by
    unfold doneB at hd
    have h40 : decide (mostOf 40 ≤ (xb.length : Int)) = false := by rw [mostOf_40]; simp; omega
    have h1 : decide ((40 : Int) < 1) = false := rfl
    rw [h40, h1, Bool.and_false, Bool.false_and, Bool.or_false, Bool.or_false] at hd
    exact List.isEmpty_iff.1 hd
  subst hxq
  have hw := hS.wait
  rw [List.append_nil] at hw
  have hclosed : ∀ y ∈ seen, ∀ z ∈ nearL ns y.toNat 0, z ∈ seen := by
    intro y hy z hz
    have hmem : spI q ns y ∈ pop := hw.mem_iff.2 (List.mem_map.2 ⟨y, (mem_uniq seen y).2 hy, rfl⟩)
    refine hC _ hmem z ?_
    rw [spI_s (hS.th y hy)]
    exact hz
  obtain ⟨r, cur, hrl, hrn, hrt, hch⟩ := hG.ring.all
  have hns : 0 < ns.length := by have := hG.len0; omega
  have hrs := chain_seen hclosed hch (fun ht => hn _ (next_near hns ht))
  have hlive : ∀ k ∈ live ns, (k : Int) ∈ seen := by
    have hcov := covers hrn (fun x hx => by
      have hlt := there_lt (hrt x hx)
      exact List.mem_filter.2 ⟨List.mem_range.2 (by omega), hrt x hx⟩) (nodup_live ns) hrl
    exact fun k hk => hrs k (hcov k hk)
  have hperm : (uniq seen).Perm (nats (live ns)) := perm_of_nodup (uniq_nodup seen) (nodup_liveI ns) (fun x => by
    rw [mem_uniq, mem_liveI]
    refine ⟨hS.th x, fun h => ?_⟩
    have := mem_liveI.2 h
    unfold nats at this
    obtain ⟨k, hk, rfl⟩ := List.mem_map.1 this
    exact hlive k hk)
  exact hall.trans ((hperm.filter _).map _)

/-- The same of the items. -/
theorem sel_ht (ns : List Nd) (q : List Int) (mask : Int) : (selOf q mask (itemsOf ns)).map Sp.ht = (allSp ns q mask).map Sp.ht := by
  unfold selOf allSp itemsOf nats
  rw [List.filter_map, List.filter_map, List.map_map, List.map_map, List.map_map, List.map_map]
  have hmem : ∀ k ∈ live ns, ∃ n, ns[k]? = some n := fun k hk => by
    have := List.mem_range.1 (List.mem_filter.1 hk).1
    exact ⟨_, List.getElem?_eq_getElem this⟩
  have hf : (live ns).filter ((fun n => hasB n.tags mask) ∘ fun k => ns[k]!) = (live ns).filter (tagsI mask ns ∘ fun (n : Nat) => (n : Int)) := by
    refine List.filter_congr (fun k hk => ?_)
    obtain ⟨n, hn⟩ := hmem k hk
    simp only [Function.comp, tagsI, Int.toNat_natCast, hn]
    rw [getElem!_def, hn]
  rw [hf]
  refine List.map_congr_left (fun k hk => ?_)
  obtain ⟨n, hn⟩ := hmem k (List.mem_filter.1 hk).1
  simp only [Function.comp, spI, Int.toNat_natCast, spotAt_eq hn]
  rw [getElem!_def, hn]
  rfl
theorem all_nodup {ns : List Nd} {q : List Int} {mask en tp links : Int} (hG : PlaneGood ns en tp links) : ((allSp ns q mask).map Sp.ht).Nodup := by
  have h1 : (((live ns).filter (tagsI mask ns ∘ fun (n : Nat) => (n : Int))).map (idOf ns)).Nodup := (hG.ids).sublist (List.Sublist.map _ List.filter_sublist)
  have h2 : ((allSp ns q mask).map Sp.ht).map Ht.i = ((live ns).filter (tagsI mask ns ∘ fun (n : Nat) => (n : Int))).map (idOf ns) := by
    unfold allSp nats
    rw [List.filter_map, List.map_map, List.map_map, List.map_map]
    refine List.map_congr_left (fun k hk => ?_)
    have := List.mem_range.1 (List.mem_filter.1 (List.mem_filter.1 hk).1).1
    have hn := List.getElem?_eq_getElem this
    simp only [Function.comp, spI, Int.toNat_natCast, spotAt_eq hn, idOf, hn]
    rfl
  rw [← h2] at h1
  rw [List.nodup_iff_pairwise_ne] at h1 ⊢
  rw [List.pairwise_map] at h1
  exact h1.imp (fun h e => h (by rw [e]))
theorem all_len (ns : List Nd) (q : List Int) (mask : Int) : (allSp ns q mask).length ≤ ns.length := by
  unfold allSp
  rw [List.length_map]
  refine Nat.le_trans (List.length_filter_le _ _) ?_
  unfold nats
  rw [List.length_map]
  exact live_len ns

/-- THE PLAIN LAW. -/
theorem law22 {ns : List Nd} {q : List Int} {mask en tp links ef : Int} {k : Int} {x1 x2 : List Sp} (hl : ns.length ≤ 20) (hG : PlaneGood ns en tp links) (h1 : Reached ns q mask 40 x1) (h2 : Reached ns q mask ef x2) {hs full some_ : List Ht}
    (eh : hs = (sortSp (selOf q mask (itemsOf ns))).map Sp.ht) (ef1 : full = ((sortSp x1).take k.toNat).map Sp.ht) (es : some_ = ((sortSp x2).take k.toNat).map Sp.ht) :
    full = hs.take k.toNat ∧ NoBehind ((hs.take k.toNat).take k.toNat) (some_.take k.toNat) ∧ lacks (hs.take 40) some_ = [] ∧ (lacks some_ (hs.take 40)).length + some_.length = (hs.take 40).length ∧ hs.length ≤ 20 ∧ some_.length ≤ 20 := by
  have hs1 : hs = (sortSp (allSp ns q mask)).map Sp.ht := eh.trans (sortSp_eq (List.Perm.of_eq (sel_ht ns q mask)))
  have hlen : hs.length ≤ 20 := by
    rw [hs1, List.length_map, (sortSp_perm _).length_eq]
    exact Nat.le_trans (all_len ns q mask) hl
  have h40 : hs.take 40 = hs := List.take_of_length_le (by omega)
  have hnd : hs.Nodup := by
    rw [hs1]
    exact (((sortSp_perm _).map Sp.ht).nodup_iff).2 (all_nodup hG)
  have hsort : hs.Pairwise htLe := by rw [hs1]; exact sortSp_sorted _
  obtain ⟨zs, hz⟩ := sea_part h2.choose_spec.choose_spec.choose_spec.1
  have hz2 : ((sortSp x2).map Sp.ht ++ zs.map Sp.ht).Perm hs := by
    rw [hs1, ← List.map_append]
    exact ((((sortSp_perm x2).append_right zs).trans hz).trans (sortSp_perm _).symm).map _
  have hs2 : ((sortSp x2).map Sp.ht).Pairwise htLe := sortSp_sorted x2
  have hsome : some_ = ((sortSp x2).map Sp.ht).take k.toNat := by rw [es, List.map_take]
  have hnd2 : ((sortSp x2).map Sp.ht).Nodup := (List.nodup_append.1 (hz2.nodup_iff.2 hnd)).1
  have hmem : ∀ x ∈ some_, x ∈ hs := fun x hx => hz2.mem_iff.1 (List.mem_append_left _ (List.mem_of_mem_take (hsome ▸ hx)))
  have hsn : some_.Nodup := by rw [hsome]; exact hnd2.sublist (List.take_sublist _ _)
  have hperm := perm_rest hsn hnd hmem
  have hpl := hperm.length_eq
  rw [List.length_append] at hpl
  refine ⟨?_, ?_, ?_, ?_, hlen, ?_⟩
  · rw [ef1, List.map_take, hs1, sortSp_eq ((reached_all hl hG h1).map Sp.ht)]
  · intro i x y hx hy
    rw [List.take_take, Nat.min_self] at hx
    rw [hsome, List.take_take, Nat.min_self] at hy
    have hx' := (List.getElem?_eq_some_iff.1 hx).1
    rw [List.length_take] at hx'
    rw [List.getElem?_take_of_lt (by omega)] at hx hy
    have := sorted_ahead hs2 hsort hz2 i x y hx hy
    unfold htLe at this
    omega
  · rw [h40]
    unfold lacks stays
    rw [List.filter_eq_nil_iff]
    intro x hx
    have := List.count_pos_iff.2 (hmem x hx)
    simp [inB, hmem x hx]
  · rw [h40]
    have e : lacks some_ hs = hs.filter (fun x => decide (x ∉ some_)) := by
      unfold lacks stays
      refine List.filter_congr (fun x _ => ?_)
      unfold inB
      by_cases hx : x ∈ some_
      · simp [hx]
      · simp [hx]
    rw [e]
    omega
  · omega
theorem hitsIn_self (l : List Ht) : hitsIn l l = l := by
  unfold hitsIn
  refine List.filter_eq_self.2 (fun x hx => ?_)
  simpa using hx
theorem lacks_self (l : List Ht) : lacks l l = [] := by
  unfold lacks stays
  rw [List.filter_eq_nil_iff]
  intro x hx
  simp [inB, hx]
end Go.Proofs.YtajbimmfkbgcpaaGreat
