/-
  plane.Check.
  slices.Clone, slices.IndexFunc, slices.DeleteFunc at []int; the last two for a function value with a memory of its own.
-/
import Derived.Test.YtajbimmfkbgcpaaGreatRing2
import Derived.Test.YtajbimmfkbgcpaaGreatKRing
import Derived.Test.YtajbimmfkbgcpaaGreatKMaps
import Derived.Lib.SliceRun
/- plane.Check. -/
namespace Go.Proofs.YtajbimmfkbgcpaaGreat
open Go.RowKit

def idOf (ns : List Nd) (s : Nat) : Int := match ns[s]? with | some n => n.id | none => 0
structure NodeGood (ns : List Nd) (links : Int) (s : Nat) (n : Nd) : Prop where
  level0 : 0 ≤ n.level
  level1 : n.level ≤ 7
  lists : (n.lists.length : Int) = n.level + 1
  list : ∀ l, l < n.lists.length → listB ns s l links = true
/-- What plane.Check finds out, where it says OK. -/
structure PlaneGood (ns : List Nd) (en tp links : Int) : Prop where
  len0 : 1 ≤ ns.length
  len1 : ns.length ≤ 4097
  ring : RingGood ns
  ids : ((live ns).map (idOf ns)).Nodup
  nodes : ∀ s ∈ live ns, ∀ n, ns[s]? = some n → NodeGood ns links s n
  entry : (en = 0 ∧ tp = 0) ∨ (there ns en = true ∧ 0 ≤ tp ∧ ∀ n, ns[en.toNat]? = some n → tp ≤ n.level)
def CheckPost (ns : List Nd) (en tp links : Int) (w : World) (e : Ending) (w' : World) : Prop :=
  Kept w w' ∧ (e = .returned (.int .i64 7) ∨ (e = .returned (.int .i64 0) ∧ PlaneGood ns en tp links))
theorem checkPost_bad {ns : List Nd} {en tp links : Int} {w w' : World} (h : Kept w w') : CheckPost ns en tp links w (.returned (.int .i64 7)) w' := ⟨h, .inl rfl⟩

theorem Tryz.keyU64 : KeyT Tryz.prog 26 (Value.int .u64) := keyT_int Tryz.underlying26
theorem mem_live {ns : List Nd} {s : Nat} (h : s ∈ live ns) : s < ns.length ∧ there ns (s : Int) = true := by
  unfold live liveTo at h
  rw [List.mem_filter, List.mem_range] at h
  exact ⟨h.1, h.2⟩

/-- The relation of the outer loop: the ids that were met are counted; the nodes that were looked at are right. -/
def CheckRel (ns : List Nd) (links : Int) (mb : Nat) (w0 : World) (i : Value) (wr : World) : Prop :=
  ∃ k : Nat, k ≤ (live ns).length ∧ i = .int .i64 (k : Int) ∧ MapIs wr mb (Value.int .u64) (cntM (((live ns).take k).map (idOf ns))) ∧ Far (· = mb) w0 wr ∧
    (((live ns).take k).map (idOf ns)).Nodup ∧ ∀ s ∈ (live ns).take k, ∀ n, ns[s]? = some n → NodeGood ns links s n

theorem nodup_snoc {l : List Int} {x : Int} (h : l.Nodup) (hx : l.count x = 0) : (l ++ [x]).Nodup := by
  rw [List.nodup_append]
  refine ⟨h, by simp, ?_⟩
  intro a ha b hb
  simp only [List.mem_singleton] at hb
  subst hb
  intro e
  subst e
  rw [List.count_eq_zero] at hx
  exact hx ha

set_option maxRecDepth 100000 in
set_option maxHeartbeats 4000000 in
theorem Check_any (a : Option Addr) (ns : List Nd) (cap : Nat) (en tp links : Int) (w : World) (hm : ns.length ≤ 4398046511104) (hN : NodesAt w a ns) :
    Calls Tryz.prog 5 #[PlaneV a ns.length cap en tp, .int .i64 links] w (CheckPost ns en tp links w) := by
  by_cases h1 : ns.length < 1
  · clear hN
    have hd : decide ((ns.length : Int) < 1) = true := by simp; omega
    generalize ns.length = len at *
    go_enter Tryz.func5, Tryz.ntmps5
    go_wp2
    go_ret
    exact checkPost_bad (kept_alloc w _)
  · by_cases h2 : 4097 < ns.length
    · clear hN
      have h3 : ¬ ((ns.length : Int) < 1) := by omega
      generalize ns.length = len at *
      go_enter Tryz.func5, Tryz.ntmps5
      go_wp2
      go_ret
      exact checkPost_bad (kept_alloc w _)
    · have h3 : ¬ ((ns.length : Int) < 1) := by omega
      have h4 : ¬ ((4097 : Int) < (ns.length : Int)) := by omega
      have hk0 : Kept w (w.alloc (.cells #[.slice a ns.length cap, .int .i64 en, .int .i64 tp] 24)) := kept_alloc w _
      have hRi := Lib.hid (ring_any a ns cap en tp (w.alloc (.cells #[.slice a ns.length cap, .int .i64 en, .int .i64 tp] 24)) hm (hN.keep hk0))
      have hLv := Lib.hid (fun W (h : Kept w W) => Live_any a ns cap en tp W hm (hN.keep h))
      have hmm := @run_makeMap Tryz.prog
      have HN := Lib.hid hN
      have Hk0 := Lib.hid hk0
      clear hN hk0 h1 h2
      go_enter Tryz.func5, Tryz.ntmps5
      go_wp2_with fail
      refine hRi.out.mono ?_
      rintro e w1 ⟨bl, rfl, hw1, hgood⟩
      cases bl with
      | false =>
        clear hgood
        go_wp2
        go_ret
        exact checkPost_bad (Hk0.out.trans hw1)
      | true =>
        have HG := Lib.hid (hgood rfl)
        have hpb := (PBox.new w a ns.length cap en tp 24).keep hw1
        have hsz : w.heap.size < w1.heap.size := by have := hw1.size; rw [alloc_size] at this; omega
        obtain ⟨p0, p1, p2⟩ := hpb
        have HK1 := Lib.hid (Hk0.out.trans hw1)
        have HB1 := Lib.hid (hw1.mono (show w.heap.size + 1 ≤ (w.alloc (.cells #[.slice a ns.length cap, .int .i64 en, .int .i64 tp] 24)).heap.size by rw [alloc_size]; omega))
        clear hgood hw1
        go_wp2_with fail
        refine (hLv.out _ (HK1.out.trans (kept_alloc w1 _))).mono ?_
        rintro e w2 ⟨v2, rfl, hown, hw2⟩
        have hl2 := hown.1
        obtain ⟨a2, c2, rfl, hc2, hI2, hab⟩ := ints_of_own' hown
        rw [nats_length]
        rw [alloc_size] at hab
        have hmap : Hid (MapIs w2 w1.heap.size (Value.int .u64) (cntM (((live ns).take 0).map (idOf ns)))) := (MapIs.new w1 (Value.int .u64)).keep hw2
        have hsz2 : w1.heap.size < w2.heap.size := by have := hw2.size; rw [alloc_size] at this; omega
        have HK2 := Lib.hid (HK1.out.trans (Kept.trans (kept_alloc w1 _) hw2))
        have HPB : Hid (PBox w2 w.heap.size a ns.length cap en tp) := (PBox.mk p0 p1 p2).keep (Kept.trans (kept_alloc w1 _) hw2)
        have HI2 := Lib.hid hI2
        have HAB := Lib.hid hab
        have hll : (live ns).length ≤ ns.length := liveTo_len ns ns.length
        clear hown hw2 hmm hl2 hI2 hab p0 p1 p2 hc2
        have HNL := Lib.hid (rfl : live ns = live ns)
        go_wp2_with fail
        go_loopw [30] (CheckRel ns links w1.heap.size w2) (fun i _ => (live ns).length - (intOf i).toNat)
        case atStart => exact ⟨0, Nat.zero_le _, rfl, hmap.out, Far.refl _ _, by simp, by simp⟩
        case round =>
          obtain ⟨k, hk, rfl, hmp, hfar, hnd, hng⟩ := hrel
          clear hmap HNL
          have hkw : Kept w wr := Below.trans HK2.out (hfar.below (fun j hj => by omega) (by omega))
          have hpbr : PBox wr w.heap.size a ns.length cap en tp := ⟨hfar.cell HPB.out.c0 (by omega), hfar.cell HPB.out.c1 (by omega), hfar.cell HPB.out.c2 (by omega)⟩
          by_cases hlk : k < (live ns).length
          · obtain ⟨s, hs⟩ : ∃ s, (live ns)[k]? = some s := ⟨(live ns)[k], List.getElem?_eq_getElem hlk⟩
            have hsm : s ∈ live ns := List.mem_of_getElem? hs
            obtain ⟨hsl, hst⟩ := mem_live hsm
            have hs0 := (there_lt hst).1
            obtain ⟨n, hn⟩ : ∃ n, ns[s]? = some n := ⟨ns[s], List.getElem?_eq_getElem hsl⟩
            have hI2r := HI2.out.far (fun b o h => by have := (HAB.out b o h).1; omega) hfar
            obtain ⟨b2, o2, rfl, hcs⟩ := hI2r.getD (i := k) (by rw [nats_length]; exact hlk)
            have hgs : (nats (live ns)).getD k 0 = (s : Int) := by simp [nats, hs]
            rw [hgs] at hcs
            have hNr := HN.out.keep hkw
            obtain ⟨b, o, rfl, hlt, hc, -, hls, hf⟩ := hNr s n hn
            have q0 := hc 0 _ rfl
            have q1 := hc 1 _ rfl
            have q2 := hc 2 _ rfl
            have q3 := hc 3 _ rfl
            have q4 := hc 4 _ rfl
            have q5 := hc 5 _ rfl
            have q6 := hc 6 _ rfl
            simp only [Nat.add_zero] at q0
            have hid : idOf ns s = n.id := by unfold idOf; rw [hn]
            have htk : ((live ns).take (k + 1)).map (idOf ns) = ((live ns).take k).map (idOf ns) ++ [n.id] := by
              rw [List.take_add_one, hs, List.map_append]; simp [hid]
            have htk' : (live ns).take (k + 1) = (live ns).take k ++ [s] := by rw [List.take_add_one, hs]; rfl
            obtain ⟨p0, p1, p2⟩ := hpbr
            have hmb : w1.heap.size < wr.heap.size := hmp.lt
            generalize hgids : ((live ns).take k).map (idOf ns) = ids at *
            have hidl : ids.length ≤ k := by rw [← hgids, List.length_map]; exact List.length_take_le _ _
            have hcnt : ids.count n.id ≤ k := Nat.le_trans List.count_le_length hidl
            have hlook := run_lookup_m (P := Tryz.prog) (t := 46) Tryz.keyU64 Tryz.underlying46 (Tryz.zeroInt (wr.alloc (.cells #[.int .u64 n.id, .slice n.va n.vec.length n.vc, .int .u64 n.tags, .int .i64 n.level, .slice n.la n.lists.length n.lc, .int .i64 n.next, .int .i64 n.prev] 53))) (hmp.keep (kept_alloc wr (.cells #[.int .u64 n.id, .slice n.va n.vec.length n.vc, .int .u64 n.tags, .int .i64 n.level, .slice n.la n.lists.length n.lc, .int .i64 n.next, .int .i64 n.prev] 53))) n.id
            rw [cntM_get] at hlook
            have Htk := Lib.hid htk; have Htk' := Lib.hid htk'; have Hnr := Lib.hid hNr; have Hnd := Lib.hid hnd; have Hng := Lib.hid hng; have Hn := Lib.hid hn; have Hfar := Lib.hid hfar; have Hkw := Lib.hid hkw; have Hst := Lib.hid hst
            have hfl := hf.level0; have hfl1 := hf.level1; have hnl := hf.listlen
            clear htk htk' hNr hnd hng hn hfar hkw hs hsm hst hI2r hgs hc hls hf hid hgids HPB HAB
            go_wp2_with (first | (at_mapUpdate; refine wpList_update_m Tryz.keyU64 Tryz.underlying46 rfl _ _ _ rfl rfl (by exact hmp.keep (kept_alloc wr (.cells #[.int .u64 n.id, .slice n.va n.vec.length n.vc, .int .u64 n.tags, .int .i64 n.level, .slice n.la n.lists.length n.lc, .int .i64 n.next, .int .i64 n.prev] 53))) n.id rfl _ rfl ?_))
            intro w3 hm3 ho3
            rw [cntM_put, ← Htk.out] at hm3
            have hsz3 : wr.heap.size < w3.heap.size := by have := ho3.size; rw [alloc_size] at this; omega
            have hfb : ∀ j v, (wr.alloc (.cells #[.int .u64 n.id, .slice n.va n.vec.length n.vc, .int .u64 n.tags, .int .i64 n.level, .slice n.la n.lists.length n.lc, .int .i64 n.next, .int .i64 n.prev] 53)).cell? ⟨wr.heap.size, j, none⟩ = some v → w3.cell? ⟨wr.heap.size, j, none⟩ = some v := fun j v h => (Far.of_only (F := (· = w1.heap.size)) ho3 rfl).cell h (by omega)
            have hfp : ∀ j v, wr.cell? ⟨w.heap.size, j, none⟩ = some v → w3.cell? ⟨w.heap.size, j, none⟩ = some v := fun j v h => (Far.of_only (F := (· = w1.heap.size)) ho3 rfl).cell (cell_old h) (by omega)
            have n0 := hfb 0 _ (cell_new rfl rfl)
            have n1 := hfb 3 _ (cell_new rfl rfl)
            have n4 := hfb 4 _ (cell_new rfl rfl)
            have r0 := hfp 0 _ p0
            have r1 := hfp 1 _ p1
            have r2 := hfp 2 _ p2
            have HK3 : Hid (Kept w w3) := Lib.hid (Below.trans (Kept.trans Hkw.out (kept_alloc wr (.cells #[.int .u64 n.id, .slice n.va n.vec.length n.vc, .int .u64 n.tags, .int .i64 n.level, .slice n.la n.lists.length n.lc, .int .i64 n.next, .int .i64 n.prev] 53))) (ho3.below (show w.heap.size ≤ w1.heap.size by omega)))
            have HF3 : Hid (Far (· = w1.heap.size) w2 w3) := Hfar.out.trans ((Far.of_kept _ (kept_alloc wr (.cells #[.int .u64 n.id, .slice n.va n.vec.length n.vc, .int .u64 n.tags, .int .i64 n.level, .slice n.la n.lists.length n.lc, .int .i64 n.next, .int .i64 n.prev] 53))).trans (Far.of_only ho3 rfl))
            have Hm3 := Lib.hid hm3
            clear hfb hfp hm3 ho3 hlook hmp p0 p1 p2 Hfar Hkw q0 q1 q2 q3 q4 q5 q6 hcs
            by_cases g1 : n.level < 0
            · go_wp2
              go_ret
              exact checkPost_bad HK3.out
            · by_cases g2 : 7 < n.level
              · go_wp2
                go_ret
                exact checkPost_bad HK3.out
              · by_cases g3 : (n.lists.length : Int) = n.level + 1
                · have G3 := Lib.hid g3
                  have g31 : (n.lists.length : Int) ≤ n.level + 1 := by omega
                  have g32 : n.level + 1 ≤ (n.lists.length : Int) := by omega
                  clear g3
                  have hlook := run_lookup_m (P := Tryz.prog) (t := 46) Tryz.keyU64 Tryz.underlying46 (Tryz.zeroInt w3) Hm3.out n.id
                  rw [cntM_get, Htk.out, List.count_append] at hlook
                  simp only [List.count_singleton_self] at hlook
                  by_cases g4 : ids.count n.id = 0
                  · rw [g4] at hlook
                    have Hnd3 : Hid ((((live ns).take (k + 1)).map (idOf ns)).Nodup) := by rw [Htk.out]; exact nodup_snoc Hnd.out g4
                    have HLi : Hid (∀ (j : Nat) W, j < n.lists.length → Kept w3 W → Calls Tryz.prog 16 #[PlaneV (some ⟨b, o, none⟩) ns.length cap en tp, .int .i64 (s : Int), .int .i64 (j : Int), .int .i64 links] W fun e w' => e = .returned (.bool (listB ns s j links)) ∧ Kept W w') := fun j W hj hW =>
                      list_any (some ⟨b, o, none⟩) ns cap en tp links s j n W (HN.out.keep (HK3.out.trans hW)) hm Hn.out hj
                    have HPB3 := Lib.hid (PBox.mk r0 r1 r2)
                    have hnl2 : n.lists.length ≤ 9 := by omega
                    clear g4
                    go_wp2_with fail
                    clear r0 r1 r2 n0 n1 n4 hlook
                    go_loopw [73] (fun i wi => ∃ j : Nat, j ≤ n.lists.length ∧ i = .int .i64 (j : Int) ∧ Hid (Kept w3 wi ∧ ∀ l, l < j → listB ns s l links = true)) (fun i _ => n.lists.length - (intOf i).toNat)
                    case atStart => exact ⟨0, Nat.zero_le _, rfl, Kept.rfl' _, fun l hl => absurd hl (by omega)⟩
                    case round =>
                      obtain ⟨j, hj, rfl, HJ⟩ := hrel
                      obtain ⟨r0, r1, r2⟩ := HPB3.out.keep HJ.out.1
                      by_cases hjl : j < n.lists.length
                      · have hli := HLi.out j _ hjl HJ.out.1
                        cases hlb : listB ns s j links with
                        | false =>
                          rw [hlb] at hli
                          have HLI := Lib.hid hli
                          clear hli hlb
                          go_wp2_with (first | (go_at_call 16; refine HLI.out.mono ?_; rintro e w5 ⟨rfl, hw5⟩))
                          go_ret
                          exact checkPost_bad (Kept.trans (Kept.trans HK3.out HJ.out.1) hw5)
                        | true =>
                          have HJ2 : Hid (∀ l, l < j + 1 → listB ns s l links = true) := fun l hl => by
                            by_cases e : l = j
                            · rw [e]; exact hlb
                            · exact HJ.out.2 l (by omega)
                          rw [hlb] at hli
                          have HLI := Lib.hid hli
                          clear hli hlb
                          go_wp2_with (first | (go_at_call 16; refine HLI.out.mono ?_; rintro e w5 ⟨rfl, hw5⟩))
                          go_roundw
                          case rel => exact ⟨j + 1, by omega, by go_num, Kept.trans HJ.out.1 hw5, HJ2.out⟩
                          case measure => simp [intOf]; omega
                      · obtain rfl : j = n.lists.length := by omega
                        have HNG : Hid (∀ s' ∈ (live ns).take (k + 1), ∀ n', ns[s']? = some n' → NodeGood ns links s' n') := by
                          rw [Htk'.out]
                          intro s' hs' n' hn'
                          rcases List.mem_append.1 hs' with h | h
                          · exact Hng.out s' h n' hn'
                          · simp only [List.mem_singleton] at h
                            subst h
                            obtain rfl : n' = n := Option.some.inj (hn'.symm.trans Hn.out)
                            exact ⟨by omega, by omega, G3.out, HJ.out.2⟩
                        have HMI := Lib.hid (Hm3.out.keep HJ.out.1)
                        have HFI := Lib.hid (HF3.out.trans (Far.of_kept _ HJ.out.1))
                        clear r0 r1 r2
                        go_wp2
                        go_roundw
                        case rel => exact ⟨k + 1, by omega, by go_num, HMI.out, HFI.out, Hnd3.out, HNG.out⟩
                        case measure => simp [intOf]; omega
                  · have g5 : 0 < ids.count n.id := by omega
                    clear g4
                    generalize ids.count n.id = ci at *
                    go_wp2
                    go_ret
                    exact checkPost_bad HK3.out
                · go_wp2
                  go_ret
                  exact checkPost_bad HK3.out
          · obtain rfl : k = (live ns).length := by omega
            rw [List.take_length] at hnd hng
            have HGood : Hid (((en = 0 ∧ tp = 0) ∨ (there ns en = true ∧ 0 ≤ tp ∧ ∀ n, ns[en.toNat]? = some n → tp ≤ n.level)) → PlaneGood ns en tp links) := fun h => ⟨by omega, by omega, HG.out, hnd, hng, h⟩
            have Hkw : Hid (Kept w wr) := hkw
            have hNr := HN.out.keep hkw
            have HT : Hid (∀ W, Kept wr W → Calls Tryz.prog 17 #[PlaneV a ns.length cap en tp, .int .i64 en] W fun e w' => e = .returned (.bool (there ns en)) ∧ Kept W w') := fun W hW => There_any a ns cap en tp en W (hNr.keep hW)
            obtain ⟨p0, p1, p2⟩ := hpbr
            have lb := lt_of_cell p0
            have hth0 : en = 0 → there ns en = false := fun h => by rw [h]; exact there_no (by omega)
            clear hnd hng hkw hmp hfar HPB HAB HI2 HK2 HB1 HK1 HG
            by_cases e1 : en = 0
            · have d1 : (en == 0) = true := by simpa using e1
              have hth := hth0 e1
              rw [hth] at HT
              by_cases e2 : tp = 0
              · have d2 : (tp == 0) = true := by simpa using e2
                have HE := Lib.hid (HGood.out (.inl ⟨e1, e2⟩))
                clear e1 e2 hth hth0 HGood hNr
                go_wp2_with fail
                refine wp_region_kept (by kernel_rfl) (by kernel_rfl) ?_
                repeat (go_big_quiet_step (first | (go_at_call 17; exact Calls.kept_of (HT.out _ (gr_kept _ _ _)))))
                refine wpQuiet_nil ?_
                intro w6 hw6
                have hk6 : Kept wr w6 := by obtain ⟨p, rfl⟩ := hw6; exact gr_kept _ _ _
                clear hw6
                go_wp2
                go_ret
                exact ⟨Hkw.out.trans hk6, .inr ⟨rfl, HE.out⟩⟩
              · have d2 : (tp == 0) = false := by simpa using e2
                clear e1 e2 hth hth0 HGood hNr
                go_wp2_with fail
                refine wp_region_kept (by kernel_rfl) (by kernel_rfl) ?_
                repeat (go_big_quiet_step (first | (go_at_call 17; exact Calls.kept_of (HT.out _ (gr_kept _ _ _)))))
                refine wpQuiet_nil ?_
                intro w6 hw6
                have hk6 : Kept wr w6 := by obtain ⟨p, rfl⟩ := hw6; exact gr_kept _ _ _
                clear hw6
                go_wp2
                go_ret
                exact checkPost_bad (Hkw.out.trans hk6)
            · have d1 : (en == 0) = false := by simpa using e1
              clear hth0
              cases hth : there ns en with
              | false =>
                rw [hth] at HT
                clear e1 hth HGood hNr
                go_wp2_with fail
                refine wp_region_kept (by kernel_rfl) (by kernel_rfl) ?_
                repeat (go_big_quiet_step (first | (go_at_call 17; exact Calls.kept_of (HT.out _ (gr_kept _ _ _)))))
                refine wpQuiet_nil ?_
                intro w6 hw6
                have hk6 : Kept wr w6 := by obtain ⟨p, rfl⟩ := hw6; exact gr_kept _ _ _
                clear hw6
                go_wp2
                go_ret
                exact checkPost_bad (Hkw.out.trans hk6)
              | true =>
                rw [hth] at HT
                obtain ⟨x0, x1⟩ := there_lt hth
                obtain ⟨x, rfl⟩ := Int.eq_ofNat_of_zero_le (Int.le_of_lt x0)
                obtain ⟨n, hn⟩ : ∃ n, ns[x]? = some n := ⟨ns[x]'(by omega), List.getElem?_eq_getElem (by omega)⟩
                obtain ⟨b, o, rfl, hlt, hc, -, -, -⟩ := hNr x n hn
                have q3 := hc 3 _ rfl
                have HE : Hid (0 ≤ tp → tp ≤ n.level → PlaneGood ns (x : Int) tp links) := fun h1 h2 => HGood.out (.inr ⟨hth, h1, fun n' hn' => by
                  rw [Int.toNat_natCast] at hn'
                  obtain rfl : n' = n := Option.some.inj (hn'.symm.trans hn)
                  exact h2⟩)
                clear e1 hth HGood hNr hc hn
                by_cases e3 : tp < 0
                · have d3 : decide (tp < 0) = true := by simpa using e3
                  go_wp2_with fail
                  refine wp_region_kept (by kernel_rfl) (by kernel_rfl) ?_
                  repeat (go_big_quiet_step (first | (go_at_call 17; exact Calls.kept_of (HT.out _ (gr_kept _ _ _)))))
                  refine wpQuiet_nil ?_
                  intro w6 hw6
                  have hk6 : Kept wr w6 := by obtain ⟨p, rfl⟩ := hw6; exact gr_kept _ _ _
                  clear hw6
                  go_wp2
                  go_ret
                  exact checkPost_bad (Hkw.out.trans hk6)
                · have d3 : decide (tp < 0) = false := by simpa using e3
                  by_cases e4 : n.level < tp
                  · have d4 : decide (n.level < tp) = true := by simpa using e4
                    go_wp2_with fail
                    refine wp_region_kept (by kernel_rfl) (by kernel_rfl) ?_
                    repeat (go_big_quiet_step (first | (go_at_call 17; exact Calls.kept_of (HT.out _ (gr_kept _ _ _)))))
                    refine wpQuiet_nil ?_
                    intro w6 hw6
                    have hk6 : Kept wr w6 := by obtain ⟨p, rfl⟩ := hw6; exact gr_kept _ _ _
                    clear hw6
                    go_wp2
                    go_ret
                    exact checkPost_bad (Hkw.out.trans hk6)
                  · have d4 : decide (n.level < tp) = false := by simpa using e4
                    have HE2 := Lib.hid (HE.out (by omega) (by omega))
                    clear HE
                    go_wp2_with fail
                    refine wp_region_kept (by kernel_rfl) (by kernel_rfl) ?_
                    repeat (go_big_quiet_step (first | (go_at_call 17; exact Calls.kept_of (HT.out _ (gr_kept _ _ _)))))
                    refine wpQuiet_nil ?_
                    intro w6 hw6
                    have hk6 : Kept wr w6 := by obtain ⟨p, rfl⟩ := hw6; exact gr_kept _ _ _
                    clear hw6
                    go_wp2
                    go_ret
                    exact ⟨Hkw.out.trans hk6, .inr ⟨rfl, HE2.out⟩⟩
end Go.Proofs.YtajbimmfkbgcpaaGreat

/- slices.Clone, slices.IndexFunc, slices.DeleteFunc at []int; the last two for a function value with a memory of its own. -/
namespace Go.Proofs.YtajbimmfkbgcpaaGreat
open Go.RowKit

theorem own_refl_slice {w : World} {base : Nat} {e : TypeId} {size n : Nat} {v : Value} {xs : List Value} (h : w.ownsRow base e size v n xs) : ∃ a c, v = .slice a n c := by
  rcases h.2 with ⟨rfl, h0⟩ | ⟨g, cap, cur, rfl, _⟩
  · exact ⟨none, 0, by rw [h0]⟩
  · exact ⟨_, _, rfl⟩
theorem ints_oneC (k : IntKind) (xs : List Int) : ∀ u ∈ ints k xs, u.oneCell' = true := by
  intro u hu
  obtain ⟨x, _, rfl⟩ := List.mem_map.1 hu
  rfl
theorem ints_length (k : IntKind) (xs : List Int) : (ints k xs).length = xs.length := by simp [ints]

def ClonePost (k : IntKind) (t : TypeId) (xs : List Int) (w : World) (e : Ending) (w' : World) : Prop :=
  ∃ v, e = .returned v ∧ w'.ownsRow w.heap.size t 1 v xs.length (ints k xs) ∧ Kept w w'
set_option maxRecDepth 100000 in
set_option maxHeartbeats 400000 in
theorem Clone_int (a : Option Addr) (c : Nat) (xs : List Int) (w : World) (hl : xs.length ≤ 4398046511104) (hX : IntsAt .i64 w a xs) :
    Calls Tryz.prog 75 #[.slice a xs.length c] w (ClonePost .i64 3 xs w) := by
  rcases a with _ | A
  · have h0 : xs = [] := by
      cases xs with
      | nil => rfl
      | cons x xs => obtain ⟨b, o, h, _⟩ := hX 0 x rfl; cases h
    subst h0
    have hn := fun W => Lib.run_eql_slice_nil (P := Tryz.prog) W 47 3 none 0 c 0 0 Tryz.underlying47
    go_enter Tryz.func75, Tryz.ntmps75
    go_wp2
    go_ret
    exact ⟨_, rfl, World.ownsRow_nil _ _ _ _, Kept.rfl' w⟩
  · have hn := fun W => Lib.run_eql_slice_nil (P := Tryz.prog) W 47 3 (some A) xs.length c 0 0 Tryz.underlying47
    have hcells : Hid (∀ j u, (ints .i64 xs)[j]? = some u → (w.alloc (.cells #[] 3)).cell? (A.add j) = some u) := by
      intro j u hj
      rw [ints, List.getElem?_map, Option.map_eq_some_iff] at hj
      obtain ⟨x, hx, rfl⟩ := hj
      obtain ⟨b, o, hA, hlt, hc⟩ := hX j x hx
      injection hA with hA
      subst hA
      have : (⟨b, o, none⟩ : Addr).add j = ⟨b, o + j, none⟩ := by unfold Addr.add; split <;> simp_all
      rw [this]
      exact (World.cell?_alloc_lt w _ ⟨b, o + j, none⟩ hlt).trans hc
    have hnew : Hid ((w.alloc (.cells #[] 3)).ownsRow w.heap.size 3 1 (.slice (some ⟨w.heap.size, 0, none⟩) 0 0) 0 []) := World.ownsRow_made w #[] 0 (Nat.le_refl _) (by unfold maxLen; omega) (by simp)
    obtain ⟨i0, hi0, hz0, hz1, hz2⟩ := info_parts Tryz.elemInt.info
    have hlen := Lib.hid (ints_length .i64 xs)
    clear hX
    go_enter Tryz.func75, Tryz.ntmps75
    go_wp2_with (first | (at_builtin; refine wpList_append_own _ rfl _ _ 47 rfl w.heap.size 3 i0 (.int .i64 0) 1 8 Tryz.underlying47 hi0 hz0 hz1 hz2 rfl (by decide) _ _ _ rfl (by exact hnew.out) A xs.length c (ints .i64 xs) rfl ?c0 (by exact hcells.out) (ints_oneC _ _) ?c1 ?c2 ?c3 ?_))
    case c0 => rw [ints_length]; omega
    case c1 => unfold maxLen; omega
    case c2 => omega
    case c3 => simp
    intro v' w' hown hg _
    have hk : Hid (Kept w w') := Below.trans (kept_alloc w (.cells #[] 3)) (own_below hnew.out hg (by simp))
    have Hown := Lib.hid hown
    clear hown hg
    go_wp2
    go_ret
    exact ⟨v', rfl, by simpa using Hown.out, hk.out⟩

/-- A function value that is asked one number after the other, with what it remembers. -/
def AskedI (g : FuncId) (cap : Array Value) (p : Nat → Bool) (xs : List Int) (Inv : Nat → World → Prop) : Prop :=
  ∀ k W, k < xs.length → Inv k W → Calls Tryz.prog g (#[.int .i64 (xs.getD k 0)] ++ cap) W fun e W' => e = .returned (.bool (p k)) ∧ Inv (k + 1) W'
/-- What slices.IndexFunc leaves: the place that it answers, and what is remembered. -/
def IdxPost (p : Nat → Bool) (n : Nat) (Inv : Nat → World → Prop) (e : Ending) (w' : World) : Prop :=
  (e = .returned (.int .i64 (-1)) ∧ Inv n w' ∧ ∀ j, j < n → p j = false) ∨ ∃ r : Nat, r < n ∧ e = .returned (.int .i64 (r : Int)) ∧ Inv (r + 1) w' ∧ p r = true ∧ ∀ j, j < r → p j = false

set_option maxRecDepth 100000 in
set_option maxHeartbeats 400000 in
theorem IndexFunc_st (g : FuncId) (cap : Array Value) (p : Nat → Bool) (Inv : Nat → World → Prop) (a : Option Addr) (c : Nat) (xs : List Int) (w : World) (hl : xs.length ≤ 35184372088832)
    (eg : ∀ args W, (callFunc g args).run Tryz.prog W = .ok (.enter g args) W) (hX : ∀ k W, Inv k W → IntsAt .i64 W a xs) (hp : AskedI g cap p xs Inv) (h0 : Inv 0 w) :
    Calls Tryz.prog 50 #[.slice a xs.length c, .func (.func g) #[] cap] w (IdxPost p xs.length Inv) := by
  have HX := Lib.hid hX; have HP := Lib.hid hp; have H0 := Lib.hid h0
  clear hX hp h0
  go_enter Tryz.func50, Tryz.ntmps50
  go_wp2_with fail
  go_loopw [8] (fun i wr => ∃ k : Nat, k ≤ xs.length ∧ i = .int .i64 (k : Int) ∧ Hid ((∀ j, j < k → p j = false) ∧ Inv k wr)) (fun i _ => xs.length - (intOf i).toNat)
  case atStart => exact ⟨0, Nat.zero_le _, rfl, fun j hj => absurd hj (by omega), H0.out⟩
  case round =>
    obtain ⟨k, hk, rfl, H⟩ := hrel
    clear H0
    by_cases hlk : k < xs.length
    · obtain ⟨b, o, rfl, hc⟩ := (HX.out k wr H.out.2).getD hlk
      have Hcall := Lib.hid (HP.out k wr hlk H.out.2)
      generalize hg : xs.getD k 0 = x at *
      clear hg
      cases hpx : p k with
      | true =>
        rw [hpx] at Hcall
        have Hpx := Lib.hid hpx
        clear hpx HX HP
        go_wp2_with (first | (go_at_fn g; refine Hcall.out.mono ?_; rintro e w1 ⟨rfl, hk1⟩))
        go_ret
        exact .inr ⟨k, hlk, rfl, hk1, Hpx.out, H.out.1⟩
      | false =>
        rw [hpx] at Hcall
        have Hpx := Lib.hid hpx
        clear hpx HX HP
        go_wp2_with (first | (go_at_fn g; refine Hcall.out.mono ?_; rintro e w1 ⟨rfl, hk1⟩))
        go_roundw
        case rel => exact ⟨k + 1, by omega, by go_num, fun j hj => by
          by_cases e : j = k
          · rw [e]; exact Hpx.out
          · exact H.out.1 j (by omega), hk1⟩
        case measure => simp [intOf]; omega
    · obtain rfl : k = xs.length := by omega
      go_wp2
      go_ret
      exact .inl ⟨rfl, H.out.2, H.out.1⟩

/-- Of the first k places those that stay. -/
def keepTo (p : Nat → Bool) (xs : List Int) (k : Nat) : List Int := ((List.range k).filter fun j => !p j).map fun j => xs.getD j 0
theorem keepTo_succ (p : Nat → Bool) (xs : List Int) (k : Nat) : keepTo p xs (k + 1) = keepTo p xs k ++ (if p k then [] else [xs.getD k 0]) := by
  unfold keepTo
  rw [List.range_succ, List.filter_append, List.map_append]
  congr 1
  cases h : p k <;> simp [h]
theorem keepTo_le (p : Nat → Bool) (xs : List Int) (k : Nat) : (keepTo p xs k).length ≤ k := by
  unfold keepTo
  rw [List.length_map]
  have := List.length_filter_le (fun j => !p j) (List.range k)
  simpa using this
theorem keepTo_all (p : Nat → Bool) (xs : List Int) : ∀ k, k ≤ xs.length → (∀ j, j < k → p j = false) → keepTo p xs k = xs.take k
  | 0, _, _ => by simp [keepTo]
  | k + 1, hk, h => by
    rw [keepTo_succ, keepTo_all p xs k (by omega) (fun j hj => h j (by omega)), h k (by omega), take_snoc_getD (by omega)]
    rfl

/-- What slices.DeleteFunc leaves. -/
def DelPost (p : Nat → Bool) (xs : List Int) (base : Nat) (Inv : Nat → World → Prop) (e : Ending) (w' : World) : Prop :=
  ∃ v, e = .returned v ∧ w'.ownsRow base 3 1 v (keepTo p xs xs.length).length (ints .i64 (keepTo p xs xs.length)) ∧ Inv xs.length w'

/-- The cells behind the first i are written: these stay. -/
theorem own_setCells {base g cap i : Nat} {e : TypeId} : ∀ (us : List Value) (o : Nat) (w : World) (n : Nat) (xs : List Value), w.ownsRow base e 1 (.slice (some ⟨g, 0, none⟩) n cap) n xs → i ≤ o → i ≤ n →
    ((w.setCells g o us).ownsRow base e 1 (.slice (some ⟨g, 0, none⟩) i cap) i (xs.take i) ∧ Only g w (w.setCells g o us))
  | [], o, w, n, xs, h, _, hin => by
    refine ⟨⟨by rw [List.length_take, h.1]; omega, ?_⟩, ⟨rfl, rfl, rfl, rfl, fun _ _ => rfl⟩⟩
    rcases h.2 with ⟨h', _⟩ | ⟨g', cap', cur, h', hb, hg, hnc, hcm, hcs, htake⟩
    · simp at h'
    · simp only [Value.slice.injEq, Option.some.injEq, Addr.mk.injEq, and_true, true_and] at h'
      obtain ⟨rfl, rfl⟩ := h'
      refine .inr ⟨g, cap, cur, rfl, hb, hg, by omega, hcm, hcs, ?_⟩
      rw [← htake, List.take_take]
      congr 1
      omega
  | u :: us, o, w, n, xs, h, hio, hin => by
    have h1 := (h.stored o u).1
    obtain ⟨r1, r2⟩ := own_setCells us (o + 1) (w.setCell ⟨g, o, none⟩ u) n (xs.set o u) h1 (by omega) hin
    refine ⟨?_, ?_⟩
    · have e1 : (xs.set o u).take i = xs.take i := by
        apply List.ext_getElem?
        intro j
        by_cases hj : j < i
        · rw [List.getElem?_take_of_lt hj, List.getElem?_take_of_lt hj, List.getElem?_set_ne (by omega)]
        · simp [List.getElem?_take, hj]
      rw [e1] at r1
      exact r1
    · have hs : (w.setCell ⟨g, o, none⟩ u).heap.size = w.heap.size := by simp [World.setCell]
      exact ⟨r2.os, r2.tape, r2.output, r2.size.trans hs, fun k hk => (r2.block k hk).trans (Below.heap_setCell w _ _ _ (fun e => hk e))⟩
/-- The relation of the loop: what stays stands ahead, what is still to be asked as it was. -/
def DelRel (p : Nat → Bool) (xs : List Int) (base g c : Nat) (Inv : Nat → World → Prop) (i j : Value) (wr : World) : Prop :=
  ∃ (k : Nat) (ys : List Int), k ≤ xs.length ∧ j = .int .i64 (k : Int) ∧ i = .int .i64 ((keepTo p xs k).length : Int) ∧ (keepTo p xs k).length < k ∧ ys.length = xs.length ∧ ys.take (keepTo p xs k).length = keepTo p xs k ∧
    (∀ t, k ≤ t → ys.getD t 0 = xs.getD t 0) ∧ wr.ownsRow base 3 1 (.slice (some ⟨g, 0, none⟩) xs.length c) xs.length (ints .i64 ys) ∧ Inv k wr

theorem only_setCell' (w : World) (g o : Nat) (u : Value) : Only g w (w.setCell ⟨g, o, none⟩ u) :=
  ⟨rfl, rfl, rfl, by simp [World.setCell], fun k hk => Below.heap_setCell w _ _ _ (fun e => hk e)⟩

theorem ints_at {k : IntKind} {xs : List Int} {i : Nat} (hi : i < xs.length) : (ints k xs)[i]? = some (.int k (xs.getD i 0)) := by simp [ints, hi]
theorem ints_set (k : IntKind) (xs : List Int) (i : Nat) (v : Int) : (ints k xs).set i (.int k v) = ints k (xs.set i v) := by simp [ints, List.map_set]
theorem ints_take (k : IntKind) (xs : List Int) (i : Nat) : (ints k xs).take i = ints k (xs.take i) := by simp [ints]

theorem own_cell_int {w : World} {base g c n : Nat} {e : TypeId} {k : IntKind} {ys : List Int} (h : w.ownsRow base e 1 (.slice (some ⟨g, 0, none⟩) n c) n (ints k ys)) {i : Nat} (hi : i < ys.length) :
    w.cell? ⟨g, i, none⟩ = some (.int k (ys.getD i 0)) ∧ w.frozen? ⟨g, i, none⟩ = false := by
  have hl : n = ys.length := by have := h.1; rw [ints_length] at this; omega
  exact ⟨by rw [h.cellAt i (by omega)]; exact ints_at hi, h.frozenAt i⟩
theorem own_block {w w' : World} {base g n c : Nat} {e : TypeId} {size : Nat} {xs : List Value} (h : w.ownsRow base e size (.slice (some ⟨g, 0, none⟩) n c) n xs) (hb : w'.heap[g]? = w.heap[g]?) : w'.ownsRow base e size (.slice (some ⟨g, 0, none⟩) n c) n xs := by
  refine ⟨h.1, ?_⟩
  rcases h.2 with ⟨h', _⟩ | ⟨g', cap', cur, h', hb', hg, r⟩
  · simp at h'
  · simp only [Value.slice.injEq, Option.some.injEq, Addr.mk.injEq, and_true, true_and] at h'
    obtain ⟨rfl, rfl⟩ := h'
    exact .inr ⟨g, c, cur, rfl, hb', hb.trans hg, r⟩
theorem own_cap {w : World} {base g n c : Nat} {e : TypeId} {size : Nat} {xs : List Value} (h : w.ownsRow base e size (.slice (some ⟨g, 0, none⟩) n c) n xs) : n ≤ c ∧ c ≤ maxLen := by
  rcases h.2 with ⟨h', _⟩ | ⟨g', cap', cur, h', hb', hg, h1, h2, r⟩
  · simp at h'
  · simp only [Value.slice.injEq, Option.some.injEq, Addr.mk.injEq, and_true, true_and] at h'
    obtain ⟨rfl, rfl⟩ := h'
    exact ⟨h1, h2⟩
theorem del_step_no {p : Nat → Bool} {xs : List Int} {k : Nat} (h : p k = true) : keepTo p xs (k + 1) = keepTo p xs k := by rw [keepTo_succ, h]; simp
theorem del_step_yes {p : Nat → Bool} {xs : List Int} {k : Nat} (h : p k = false) : keepTo p xs (k + 1) = keepTo p xs k ++ [xs.getD k 0] := by rw [keepTo_succ, h]; simp
theorem set_take_snoc {ys : List Int} {i : Nat} {v : Int} {l : List Int} (hi : i < ys.length) (hl : l.length = i) (h : ys.take i = l) : (ys.set i v).take (l ++ [v]).length = l ++ [v] := by
  subst hl
  rw [List.length_append, List.length_singleton, List.take_add_one, List.take_set_of_le (Nat.le_refl _), h]
  simp [hi]
theorem getD_set_lt {ys : List Int} {i t : Nat} {v : Int} (h : i < t) : (ys.set i v).getD t 0 = ys.getD t 0 := by
  simp [List.getD_eq_getElem?_getD, List.getElem?_set_ne (Nat.ne_of_lt h)]
theorem Tryz.zeroIntV (w : World) : (zeroValue 3).run Tryz.prog w = .ok (.int .i64 0) w := by kernel_rfl

set_option maxRecDepth 100000 in
set_option maxHeartbeats 2000000 in
/-- A slice of the call's own; asking leaves its cells alone, writing into it leaves alone what is remembered. -/
theorem DeleteFunc_own (g : FuncId) (cap : Array Value) (p : Nat → Bool) (Inv : Nat → World → Prop) (base A c : Nat) (xs : List Int) (w : World) (hl : xs.length ≤ 35184372088832)
    (eg : ∀ args W, (callFunc g args).run Tryz.prog W = .ok (.enter g args) W) (hown : w.ownsRow base 3 1 (.slice (some ⟨A, 0, none⟩) xs.length c) xs.length (ints .i64 xs))
    (hp : AskedI g cap p xs fun k W => Inv k W ∧ W.heap[A]? = w.heap[A]?) (hpp : ∀ k W, k < xs.length → Inv k W → Calls Tryz.prog g (#[.int .i64 (xs.getD k 0)] ++ cap) W fun e W' => e = .returned (.bool (p k)) ∧ Inv (k + 1) W' ∧ W'.heap[A]? = W.heap[A]?)
    (hw : ∀ k W W', Inv k W → Only A W W' → Inv k W') (h0 : Inv 0 w) :
    Calls Tryz.prog 76 #[.slice (some ⟨A, 0, none⟩) xs.length c, .func (.func g) #[] cap] w (DelPost p xs base Inv) := by
  have hI := Lib.hid (IndexFunc_st g cap p (fun k W => Inv k W ∧ W.heap[A]? = w.heap[A]?) (some ⟨A, 0, none⟩) c xs w hl eg (fun k W h => by
    intro i x hx
    have hi := (List.getElem?_eq_some_iff.1 hx).1
    have hc := (own_cell_int hown hi).1
    refine ⟨A, 0, rfl, ?_, ?_⟩
    · have := (hown.lt A rfl).2
      rcases Nat.lt_or_ge A W.heap.size with h' | h'
      · exact h'
      · rw [Array.getElem?_eq_none h'] at h
        rw [Array.getElem?_eq_getElem this] at h
        exact absurd h.2 (by simp)
    · rw [Nat.zero_add, World.cell?_of_block (w := w) h.2, hc]
      have : xs.getD i 0 = x := by simp [hx]
      rw [this]) hp ⟨h0, rfl⟩)
  have HO := Lib.hid hown; have HP := Lib.hid hpp; have HW := Lib.hid hw
  clear hp hpp hown hw h0
  go_enter Tryz.func76, Tryz.ntmps76
  go_wp2_with fail
  refine hI.out.mono ?_
  rintro e w1 (⟨rfl, ⟨hi1, ha1⟩, hall⟩ | ⟨r, hr, rfl, ⟨hi1, ha1⟩, hpr, hall⟩)
  · have hk := keepTo_all p xs xs.length (Nat.le_refl _) hall
    rw [List.take_length] at hk
    have Hfin : Hid (DelPost p xs base Inv (.returned (.slice (some ⟨A, 0, none⟩) xs.length c)) w1) := ⟨_, rfl, by rw [hk]; exact own_block HO.out ha1, hi1⟩
    clear hi1 ha1 hall hk
    go_wp2
    go_ret
    exact Hfin.out
  · have hd : ((r : Int) == -1) = false := by rw [beq_eq_false_iff_ne]; omega
    obtain ⟨hcap, hcm⟩ := own_cap HO.out
    unfold maxLen at hcm
    have hstart : Hid (DelRel p xs base A c Inv (.int .i64 (r : Int)) (.int .i64 ((r : Int) + 1)) w1) := by
      have hk := keepTo_all p xs r (by omega) hall
      have hk1 := del_step_no (xs := xs) hpr
      have hkl : (keepTo p xs (r + 1)).length = r := by rw [hk1, hk, List.length_take]; omega
      exact ⟨r + 1, xs, by omega, by go_num, by rw [hkl], by omega, rfl, by rw [hkl, hk1, hk], fun _ _ => rfl, own_block HO.out ha1, hi1⟩
    clear hi1 ha1 hall hpr
    go_wp2_with fail
    go_loopw [5, 6] (DelRel p xs base A c Inv) (fun _ j _ => xs.length - (intOf j).toNat)
    case atStart => exact hstart.out
    case round =>
      obtain ⟨k, ys, hk, rfl, rfl, hik, hyl, htake, hrest, hown, hinv⟩ := hrel
      clear hstart
      by_cases hlk : k < xs.length
      · have hck := (own_cell_int hown (i := k) (by omega)).1
        rw [hrest k (Nat.le_refl _)] at hck
        have hci := own_cell_int hown (i := (keepTo p xs k).length) (by omega)
        have hcall := HP.out k wr hlk hinv
        have hgrow := hown
        cases hpk : p k with
        | true =>
          rw [hpk] at hcall
          have Hcall := Lib.hid hcall
          have Hst := Lib.hid (del_step_no (xs := xs) hpk)
          have Hrel : Hid (∀ W', Inv (k + 1) W' → W'.heap[A]? = wr.heap[A]? → DelRel p xs base A c Inv (.int .i64 ((keepTo p xs k).length : Int)) (.int .i64 ((k : Int) + 1)) W') := fun W' h1 h2 =>
            ⟨k + 1, ys, by omega, by go_num, by rw [Hst.out], by rw [Hst.out]; omega, hyl, by rw [Hst.out]; exact htake, fun t ht => hrest t (by omega), own_block hown h2, h1⟩
          generalize hgx : xs.getD k 0 = x at *
          generalize (keepTo p xs k).length = i at *
          clear hcall hpk hgx htake hrest hown hinv hgrow Hst hci HO hI
          go_wp2_with (first | (go_at_fn g; refine Hcall.out.mono ?_; rintro e w2 ⟨rfl, hi2, ha2⟩))
          go_roundw
          case rel => exact Hrel.out _ hi2 ha2
          case measure => simp [intOf]; omega
        | false =>
          rw [hpk] at hcall
          have Hcall := Lib.hid hcall
          have Hst := Lib.hid (del_step_yes (xs := xs) hpk)
          have Hrel : Hid (∀ W', Inv (k + 1) W' → W'.heap[A]? = wr.heap[A]? → DelRel p xs base A c Inv (.int .i64 (((keepTo p xs k).length : Int) + 1)) (.int .i64 ((k : Int) + 1)) (W'.setCell ⟨A, (keepTo p xs k).length, none⟩ (.int .i64 (xs.getD k 0)))) := fun W' h1 h2 => by
            have ho := (own_block hown h2).stored (keepTo p xs k).length (.int .i64 (xs.getD k 0))
            rw [ints_set] at ho
            refine ⟨k + 1, ys.set (keepTo p xs k).length (xs.getD k 0), by omega, by go_num, ?_, ?_, by rw [List.length_set, hyl], ?_, fun t ht => ?_, ho.1, HW.out _ _ _ h1 (only_setCell' _ _ _ _)⟩
            · rw [Hst.out, List.length_append]; simp
            · rw [Hst.out, List.length_append]; simp; omega
            · rw [Hst.out]; exact set_take_snoc (by omega) rfl htake
            · rw [getD_set_lt (by omega)]; exact hrest t (by omega)
          have Hci : Hid (∀ W' : World, W'.heap[A]? = wr.heap[A]? → W'.cell? ⟨A, (keepTo p xs k).length, none⟩ = some (.int .i64 (ys.getD (keepTo p xs k).length 0)) ∧ W'.frozen? ⟨A, (keepTo p xs k).length, none⟩ = false) := fun W' h => ⟨(World.cell?_of_block h).trans hci.1, (World.frozen?_of_block h).trans hci.2⟩
          generalize hgx : xs.getD k 0 = x at *
          generalize (keepTo p xs k).length = i at *
          generalize ys.getD i 0 = old at *
          clear hcall hpk hgx htake hrest hown hinv hgrow Hst hci HO hI
          go_wp2_with (first | (go_at_fn g; refine Hcall.out.mono ?_; rintro e w2 ⟨rfl, hi2, ha2⟩; obtain ⟨hx1, hx2⟩ := Hci.out _ ha2))
          go_roundw
          case rel => exact Hrel.out _ hi2 ha2
          case measure => simp [intOf]; omega
      · obtain rfl : k = xs.length := by omega
        obtain ⟨r1, r2⟩ := own_setCells (i := (keepTo p xs xs.length).length) (List.replicate (xs.length - (keepTo p xs xs.length).length) (.int .i64 0)) (keepTo p xs xs.length).length wr xs.length _ hown (Nat.le_refl _) (by omega)
        rw [ints_take, htake] at r1
        have Hfin : Hid (DelPost p xs base Inv (.returned (.slice (some ⟨A, 0, none⟩) (keepTo p xs xs.length).length c)) (wr.setCells A (keepTo p xs xs.length).length (List.replicate (xs.length - (keepTo p xs xs.length).length) (.int .i64 0)))) := ⟨_, rfl, r1, HW.out _ _ _ hinv r2⟩
        have hcl : ∀ ty, (Builtin.clear_ #[47] ty #[.slice (some ⟨A, (keepTo p xs xs.length).length, none⟩) (xs.length - (keepTo p xs xs.length).length) (c - (keepTo p xs xs.length).length)]).run Tryz.prog wr = .ok (.tuple #[]) (wr.setCells A (keepTo p xs xs.length).length (List.replicate (xs.length - (keepTo p xs xs.length).length) (.int .i64 0))) :=
          fun ty => Lib.run_clear_slice wr 47 3 ty (.int .i64 0) Tryz.underlying47 (fun W => Tryz.zeroIntV W) rfl rfl A (keepTo p xs xs.length).length _ _ (by omega) (fun t ht => by rw [(own_cell_int hown (by omega)).1]; rfl) (fun t ht => (own_cell_int hown (by omega)).2)
        have hle := keepTo_le p xs xs.length
        generalize (keepTo p xs xs.length).length = i at *
        clear r1 r2 htake hrest hown hinv HO hI
        go_wp2
        go_ret
        exact Hfin.out
end Go.Proofs.YtajbimmfkbgcpaaGreat
