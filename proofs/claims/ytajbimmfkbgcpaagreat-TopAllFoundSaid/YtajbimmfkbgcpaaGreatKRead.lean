/-
  HOW Go's DATA READ: slices of numbers, lists of numbers, items, nodes and planes, as words for memory; their sizes by the form's own reach.
  HOW Go's DATA READ, second part: lists of lists, nodes, planes.
-/
import Derived.Test.YtajbimmfkbgcpaaGreatRows
import Derived.Test.YtajbimmfkbgcpaaGreatKBase
import Derived.Deep.Slices
import Derived.ChangeSame
import Derived.Lib.SmallJoins
import Derived.SizedLaws
import Derived.OpenShut
/- HOW Go's DATA READ: slices of numbers, lists of numbers, items, nodes and planes, as words for memory; their sizes by the form's own reach. -/
namespace Go.Proofs.YtajbimmfkbgcpaaGreat
open Go.RowKit Go.ChangeShapes Go.WideShapes Go.Deep

theorem exists_list {α : Type} (p : Nat → α → Prop) : ∀ n, (∀ i, i < n → ∃ x, p i x) → ∃ xs : List α, xs.length = n ∧ ∀ i x, xs[i]? = some x → p i x
  | 0, _ => ⟨[], rfl, by simp⟩
  | n + 1, h => by
    obtain ⟨xs, hl, hx⟩ := exists_list p n (fun i hi => h i (by omega))
    obtain ⟨y, hy⟩ := h n (by omega)
    refine ⟨xs ++ [y], by simp [hl], fun i x hi => ?_⟩
    rw [List.getElem?_append] at hi
    by_cases hin : i < xs.length
    · rw [if_pos hin] at hi; exact hx i x hi
    · rw [if_neg hin] at hi
      have : i = n := by
        have := (List.getElem?_eq_some_iff.1 hi).1
        simp at this
        omega
      subst this
      rw [hl] at hi
      simp at hi
      subst hi
      exact hy
theorem add_at {w : World} {a : Addr} {i : Nat} {v v0 : Value} (h0 : w.cell? (a.add 0) = some v0) (h : w.cell? (a.add i) = some v) : a = ⟨a.block, a.off, none⟩ ∧ a.block < w.heap.size ∧ w.cell? ⟨a.block, a.off + i, none⟩ = some v := by
  have hs := World.cell?_spot h0
  obtain ⟨b, o, s⟩ := a
  have e0 : (⟨b, o, s⟩ : Addr).add 0 = ⟨b, o, s⟩ := by simp [Addr.add]
  rw [e0] at hs
  simp only at hs
  subst hs
  have e : (⟨b, o, none⟩ : Addr).add i = ⟨b, o + i, none⟩ := by unfold Addr.add; split <;> simp_all
  rw [e] at h
  exact ⟨rfl, lt_of_cell h, h⟩

/-- What is read, weighs no more than the form's reach. -/
def Sz {H : Type} (P : Program) (t : TypeId) (d : DataW H) : Prop := ∀ n ∈ d.weights P t, n ≤ reachBytes
section
variable {H : Type} {enc : TypeId × Value → H} {P : Program} {w : World} {base : Nat} {spare : Nat → Bool} {held : Bool}
theorem sz_each {ts : List TypeId} {ds : List (DataW H)} (h : (DataW.weightsEach P ts ds).all (· ≤ reachBytes) = true) {j : Nat} {t : TypeId} {d : DataW H} (ht : ts[j]? = some t) (hd : ds[j]? = some d) : Sz P t d := fun n hn => by
  simpa using List.all_eq_true.1 h n (DataW.weights_mem_each ht hd n hn)
theorem sz_field {t : TypeId} {fs : Array Field} {parts : List (DataW H)} (h : Sz P t (.agg parts)) (hu : P.underlying t = some (.struct fs)) {j : Nat} {f : Field} {d : DataW H} (hf : fs[j]? = some f) (hd : parts[j]? = some d) : Sz P f.type d := fun n hn =>
  h n (by
    rw [DataW.weights, hu]
    exact DataW.weights_mem_each (j := j) (by simp [List.getElem?_map, hf]) hd n hn)
theorem weights_mem_all {e : TypeId} : ∀ {ds : List (DataW H)} {d : DataW H}, d ∈ ds → ∀ n ∈ d.weights P e, n ∈ DataW.weightsAll P e ds
  | x :: ds, d, hd, n, hn => by
    rw [DataW.weightsAll, List.mem_append]
    rcases List.mem_cons.1 hd with rfl | hd
    · exact .inl hn
    · exact .inr (weights_mem_all hd n hn)
theorem sz_slice {t e : TypeId} {el sp : List (DataW H)} (h : Sz P t (.slice el sp)) (hu : P.underlying t = some (.slice e)) : (el.length + sp.length) * P.bytesOf e ≤ reachBytes ∧ ∀ d ∈ el, Sz P e d := by
  unfold Sz at h
  rw [DataW.weights, hu] at h
  refine ⟨h _ (List.mem_cons_self ..), fun d hd n hn => h n ?_⟩
  exact List.mem_cons_of_mem _ (List.mem_append_left _ (weights_mem_all hd n hn))

/-- A slice, element by element. -/
theorem read_slice {t e : TypeId} {fuel : Nat} {cs : List Value} {x : DataW H × List MemPlace} (ht : P.underlying t = some (.slice e)) (h : DataW.trod enc P w base spare held fuel t cs = some x) :
    (cs = [.slice none 0 0] ∧ x.1 = .nil) ∨ ∃ (a : Addr) (len cap n : Nat) (D : Nat → DataW H) (Pl : Nat → List MemPlace) (sp : List (DataW H)), cs = [.slice (some a) len cap] ∧ len ≤ cap ∧ cap ≤ maxLen ∧ x.1 = .slice ((List.range len).map D) sp ∧
      ∀ i, i < len → ∃ cs', cs'.length = P.cellsOf e ∧ (∀ j v, cs'[j]? = some v → w.cell? (a.add (i * P.cellsOf e + j)) = some v) ∧ DataW.trod enc P w base spare held n e cs' = some (D i, Pl i) := by
  rcases open_slice ht h with ⟨h0, h1⟩ | ⟨a, len, cap, m, n, D, Pl, hcs, hb, hl, hm, hmm, hx, hi⟩
  · exact .inl ⟨h0, by rw [h1]⟩
  · refine .inr ⟨a, len, cap, n, D, Pl, _, hcs, hl, hm, by rw [hx], fun i hil => ?_⟩
    obtain ⟨cs', hc, ht'⟩ := hi i (by rw [hmm]; split <;> omega)
    obtain ⟨_, hcl, hat⟩ := World.cells?_some hc
    refine ⟨cs', hcl, fun j v hj => ?_, ht'⟩
    have hjl := (List.getElem?_eq_some_iff.1 hj).1
    rw [← Go.Deep.add_add, hat j (by omega), hj]

theorem read_ints {t e : TypeId} {k : IntKind} {fuel : Nat} {cs : List Value} {x : DataW H × List MemPlace} (ht : P.underlying t = some (.slice e)) (he : P.underlying e = some (.int k)) (hC : P.cellsOf e = 1) (h : DataW.trod enc P w base spare held fuel t cs = some x) (hz : Sz P t x.1) :
    ∃ (a : Option Addr) (xs : List Int) (c : Nat), cs = [.slice a xs.length c] ∧ xs.length ≤ c ∧ IntsAt k w a xs ∧ (∀ n ∈ xs, (Lit.int k n).wf = true) ∧ xs.length * P.bytesOf e ≤ reachBytes := by
  rcases read_slice ht h with ⟨h0, _⟩ | ⟨a, len, cap, n, D, Pl, sp, hcs, hl, hm, hx, hi⟩
  · exact ⟨none, [], 0, h0, by simp, IntsAt.nil _ _ _, by simp, by simp⟩
  · obtain ⟨xs, hxl, hxs⟩ := exists_list (fun i z => w.cell? (a.add i) = some (.int k z) ∧ (Lit.int k z).wf = true) len (fun i hil => by
      obtain ⟨cs', hcl, hat, ht'⟩ := hi i hil
      obtain ⟨z, hz1, _, hz3⟩ := DataW.trod_int he ht'
      refine ⟨z, ?_, hz3⟩
      have := hat 0 (.int k z) (by rw [hz1]; rfl)
      rw [hC] at this
      simpa using this)
    subst hxl
    refine ⟨some a, xs, cap, hcs, hl, fun i z hiz => ?_, fun z hz' => ?_, ?_⟩
    · have h0 : 0 < xs.length := by have := (List.getElem?_eq_some_iff.1 hiz).1; omega
      obtain ⟨e1, e2, e3⟩ := add_at (hxs 0 _ (List.getElem?_eq_getElem h0)).1 (hxs i z hiz).1
      exact ⟨a.block, a.off, by rw [← e1], e2, e3⟩
    · obtain ⟨i, hiz⟩ := List.getElem?_of_mem hz'
      exact (hxs i z hiz).2
    · rw [hx] at hz
      have := (sz_slice hz ht).1
      simp only [List.length_map, List.length_range] at this
      exact Nat.le_trans (Nat.mul_le_mul_right _ (by omega)) this
end
end Go.Proofs.YtajbimmfkbgcpaaGreat

/- HOW Go's DATA READ, second part: lists of lists, nodes, planes. -/
namespace Go.Proofs.YtajbimmfkbgcpaaGreat
open Go.RowKit Go.ChangeShapes Go.WideShapes Go.Deep

theorem Tryz.cellsInt : Tryz.prog.cellsOf 3 = 1 := by kernel_rfl
theorem Tryz.cellsI32 : Tryz.prog.cellsOf 21 = 1 := by kernel_rfl
theorem Tryz.cellsU64 : Tryz.prog.cellsOf 26 = 1 := by kernel_rfl
theorem Tryz.cellsInts : Tryz.prog.cellsOf 47 = 1 := by kernel_rfl
theorem Tryz.cellsI32s : Tryz.prog.cellsOf 25 = 1 := by kernel_rfl
theorem Tryz.cellsLists : Tryz.prog.cellsOf 51 = 1 := by kernel_rfl
theorem Tryz.cellsItem : Tryz.prog.cellsOf 50 = 3 := by kernel_rfl
theorem Tryz.cellsNode : Tryz.prog.cellsOf 53 = 7 := by kernel_rfl
theorem Tryz.cellsNodes : Tryz.prog.cellsOf 22 = 1 := by kernel_rfl
theorem Tryz.cellsPlane : Tryz.prog.cellsOf 24 = 3 := by kernel_rfl
theorem Tryz.bytesInt : Tryz.prog.bytesOf 3 = 8 := by kernel_rfl
theorem Tryz.bytesI32 : Tryz.prog.bytesOf 21 = 4 := by kernel_rfl
theorem Tryz.bytesInts : Tryz.prog.bytesOf 47 = 24 := by kernel_rfl
theorem Tryz.bytesNode : Tryz.prog.bytesOf 53 = 88 := by kernel_rfl
theorem reach_eq : reachBytes = 140737488351232 := rfl

section
variable {H : Type} {enc : TypeId × Value → H} {w : World} {base : Nat} {spare : Nat → Bool} {held : Bool}
theorem read_lists {fuel : Nat} {cs : List Value} {x : DataW H × List MemPlace} (h : DataW.trod enc Tryz.prog w base spare held fuel 51 cs = some x) (hz : Sz Tryz.prog 51 x.1) :
    ∃ (a : Option Addr) (ls : List (List Int)) (c : Nat), cs = [.slice a ls.length c] ∧ ls.length ≤ c ∧ ListsAt w a ls ∧ (∀ l ∈ ls, l.length ≤ 35184372088832 ∧ ∀ x ∈ l, -9223372036854775808 ≤ x ∧ x ≤ 9223372036854775807) ∧ ls.length ≤ 35184372088832 := by
  rcases read_slice Tryz.underlying51 h with ⟨h0, _⟩ | ⟨a, len, cap, n, D, Pl, sp, hcs, hl, hm, hx, hi⟩
  · exact ⟨none, [], 0, h0, by simp, by intro i l hl; simp at hl, by simp, by simp⟩
  · rw [hx] at hz
    obtain ⟨hb, hel⟩ := sz_slice hz Tryz.underlying51
    simp only [List.length_map, List.length_range, Tryz.bytesInts, reach_eq] at hb
    obtain ⟨ls, hll, hls⟩ := exists_list (fun i (l : List Int) => (∃ la lc, w.cell? (a.add i) = some (.slice la l.length lc) ∧ l.length ≤ lc ∧ IntsAt .i64 w la l) ∧ l.length ≤ 35184372088832 ∧ ∀ x ∈ l, -9223372036854775808 ≤ x ∧ x ≤ 9223372036854775807) len (fun i hil => by
      obtain ⟨cs', hcl, hat, ht'⟩ := hi i hil
      obtain ⟨la, l, lc, hc, hlc, hints, hwf, hby⟩ := read_ints Tryz.underlying47 Tryz.underlying3 Tryz.cellsInt ht' (hel _ (List.mem_map.2 ⟨i, List.mem_range.2 hil, rfl⟩))
      rw [Tryz.bytesInt, reach_eq] at hby
      have := hat 0 _ (by rw [hc]; rfl)
      rw [Tryz.cellsInts] at this
      exact ⟨l, ⟨la, lc, by simpa using this, hlc, hints⟩, by omega, fun z hz' => bounds_i64 (hwf z hz')⟩)
    subst hll
    refine ⟨some a, ls, cap, hcs, hl, fun i l hil => ?_, fun l hl' => ?_, by omega⟩
    · have h0 : 0 < ls.length := by have := (List.getElem?_eq_some_iff.1 hil).1; omega
      obtain ⟨la, lc, hc, hlc, hints⟩ := (hls i l hil).1
      obtain ⟨la0, lc0, hc0, _, _⟩ := (hls 0 _ (List.getElem?_eq_getElem h0)).1
      obtain ⟨e1, e2, e3⟩ := add_at hc0 hc
      exact ⟨a.block, a.off, la, lc, by rw [← e1], e2, e3, hlc, hints⟩
    · obtain ⟨i, hil⟩ := List.getElem?_of_mem hl'
      exact (hls i l hil).2

set_option maxRecDepth 100000 in
theorem read_node {fuel : Nat} {cs : List Value} {x : DataW H × List MemPlace} (h : DataW.trod enc Tryz.prog w base spare held fuel 53 cs = some x) (hz : Sz Tryz.prog 53 x.1) :
    ∃ n : Nd, cs = n.cells ∧ IntsAt .i32 w n.va n.vec ∧ ListsAt w n.la n.lists ∧ n.Fits := by
  obtain ⟨xs, m, _, hx, hlen, hxl, hf⟩ := DataW.trod_struct Tryz.underlying53 h
  rw [Tryz.cellsNode] at hlen
  rw [hx] at hz
  match cs, hlen with
  | [c0, c1, c2, c3, c4, c5, c6], _ =>
    match xs, hxl with
    | [y0, y1, y2, y3, y4], _ =>
      have g0 := hf 0 ⟨ "Item", 50, 0, false, "", "", 0⟩ rfl
      have g1 := hf 1 ⟨ "Level", 3, 3, false, "", "", 40⟩ rfl
      have g2 := hf 2 ⟨ "Lists", 51, 4, false, "", "", 48⟩ rfl
      have g3 := hf 3 ⟨ "Next", 3, 5, false, "", "", 72⟩ rfl
      have g4 := hf 4 ⟨ "Prev", 3, 6, false, "", "", 80⟩ rfl
      have z0 := sz_field hz Tryz.underlying53 (j := 0) (f := ⟨ "Item", 50, 0, false, "", "", 0⟩) rfl rfl
      have z2 := sz_field hz Tryz.underlying53 (j := 2) (f := ⟨ "Lists", 51, 4, false, "", "", 48⟩) rfl rfl
      simp only [Tryz.cellsItem, Tryz.cellsInt, Tryz.cellsLists, List.drop_zero, List.take_succ_cons, List.take_zero, List.drop_succ_cons, List.getElem?_cons_zero, List.getElem?_cons_succ] at g0 g1 g2 g3 g4
      obtain ⟨us, m2, _, hu, _, hul, hg⟩ := DataW.trod_struct Tryz.underlying50 g0
      rw [hu] at z0
      match us, hul with
      | [u0, u1, u2], _ =>
        have k0 := hg 0 ⟨ "Id", 26, 0, false, "", "", 0⟩ rfl
        have k1 := hg 1 ⟨ "Vec", 25, 1, false, "", "", 8⟩ rfl
        have k2 := hg 2 ⟨ "Tags", 26, 2, false, "", "", 32⟩ rfl
        have z1 := sz_field z0 Tryz.underlying50 (j := 1) (f := ⟨ "Vec", 25, 1, false, "", "", 8⟩) rfl rfl
        simp only [Tryz.cellsU64, Tryz.cellsI32s, List.drop_zero, List.take_succ_cons, List.take_zero, List.drop_succ_cons, List.getElem?_cons_zero, List.getElem?_cons_succ] at k0 k1 k2
        obtain ⟨id, e0, _, wid⟩ := DataW.trod_int Tryz.underlying26 k0
        obtain ⟨va, vec, vc, e1, hvc, hva, hvw, hvb⟩ := read_ints Tryz.underlying25 Tryz.underlying21 Tryz.cellsI32 k1 z1
        obtain ⟨tags, e2, _, wtags⟩ := DataW.trod_int Tryz.underlying26 k2
        obtain ⟨lev, e3, _, wlev⟩ := DataW.trod_int Tryz.underlying3 g1
        obtain ⟨la, ls, lc, e4, hlc, hla, hlb, hll⟩ := read_lists g2 z2
        obtain ⟨nx, e5, _, wnx⟩ := DataW.trod_int Tryz.underlying3 g3
        obtain ⟨pv, e6, _, wpv⟩ := DataW.trod_int Tryz.underlying3 g4
        simp only [List.cons.injEq, and_true] at e0 e1 e2 e3 e4 e5 e6
        subst e0 e1 e2 e3 e4 e5 e6
        rw [Tryz.bytesI32, reach_eq] at hvb
        have b0 := bounds_u64 wid; have b1 := bounds_u64 wtags; have b2 := bounds_i64 wlev; have b3 := bounds_i64 wnx; have b4 := bounds_i64 wpv
        exact ⟨⟨id, va, vc, vec, tags, lev, la, lc, ls, nx, pv⟩, rfl, hva, hla, ⟨b0.1, b0.2, b1.1, b1.2, b2.1, b2.2, b3.1, b3.2, b4.1, b4.2, by show vec.length ≤ _; omega, hvc, fun z hz' => bounds_i32 (hvw z hz'), hll, hlc, fun l hl' => (hlb l hl').1, fun l hl' => (hlb l hl').2⟩⟩

theorem read_nodes {fuel : Nat} {cs : List Value} {x : DataW H × List MemPlace} (h : DataW.trod enc Tryz.prog w base spare held fuel 22 cs = some x) (hz : Sz Tryz.prog 22 x.1) :
    ∃ (a : Option Addr) (ns : List Nd) (c : Nat), cs = [.slice a ns.length c] ∧ ns.length ≤ c ∧ NodesAt w a ns ∧ ns.length ≤ 4398046511104 := by
  rcases read_slice Tryz.underlying22 h with ⟨h0, _⟩ | ⟨a, len, cap, n, D, Pl, sp, hcs, hl, hm, hx, hi⟩
  · exact ⟨none, [], 0, h0, by simp, by intro i l hl; simp at hl, by simp⟩
  · rw [hx] at hz
    obtain ⟨hb, hel⟩ := sz_slice hz Tryz.underlying22
    simp only [List.length_map, List.length_range, Tryz.bytesNode, reach_eq] at hb
    obtain ⟨ns, hnl, hns⟩ := exists_list (fun i (n : Nd) => (∀ j v, n.cells[j]? = some v → w.cell? (a.add (i * 7 + j)) = some v) ∧ IntsAt .i32 w n.va n.vec ∧ ListsAt w n.la n.lists ∧ n.Fits) len (fun i hil => by
      obtain ⟨cs', hcl, hat, ht'⟩ := hi i hil
      obtain ⟨n, hc, h1, h2, h3⟩ := read_node ht' (hel _ (List.mem_map.2 ⟨i, List.mem_range.2 hil, rfl⟩))
      rw [Tryz.cellsNode] at hat
      exact ⟨n, fun j v hj => hat j v (by rw [hc]; exact hj), h1, h2, h3⟩)
    subst hnl
    refine ⟨some a, ns, cap, hcs, hl, fun i n hin => ?_, by omega⟩
    have h0 : 0 < ns.length := by have := (List.getElem?_eq_some_iff.1 hin).1; omega
    obtain ⟨hc, h1, h2, h3⟩ := hns i n hin
    have hc0 := (hns 0 _ (List.getElem?_eq_getElem h0)).1 0 _ rfl
    have hc00 : w.cell? (a.add 0) = some (.int .u64 (ns[0]'h0).id) := by simpa using hc0
    obtain ⟨e1, e2, -⟩ := add_at hc00 hc00
    refine ⟨a.block, a.off, by rw [← e1], e2, fun j v hj => ?_, h1, h2, h3⟩
    have := (add_at hc00 (hc j v hj)).2.2
    rw [Nat.add_assoc]
    exact this

set_option maxRecDepth 100000 in
/-- A plane by value. -/
theorem read_plane {r : Reach} {b0 : Nat} {v : Value} {d : DataW H} {p : List MemPlace} (hv : Value.okWide Tryz.prog w r b0 24 v) (h : DataW.Trod enc Tryz.prog w base spare held 24 v d p) (hz : Sz Tryz.prog 24 d) :
    ∃ (a : Option Addr) (ns : List Nd) (c : Nat) (en tp : Int), v = .agg #[.slice a ns.length c, .int .i64 en, .int .i64 tp] ∧ ns.length ≤ c ∧ NodesAt w a ns ∧ ns.length ≤ 4398046511104 ∧ (Lit.int .i64 en).wf = true ∧ (Lit.int .i64 tp).wf = true := by
  obtain ⟨c0, c1, c2, y0, y1, y2, m, rfl, rfl, _, g0, g1, g2⟩ := Go.Joins.open_agg3 Tryz.underlying24 (by kernel_rfl) Tryz.cellsPlane hv h
  have z0 := sz_field hz Tryz.underlying24 (j := 0) rfl rfl
  obtain ⟨a, ns, c, e0, hc, hN, hl⟩ := read_nodes g0 z0
  obtain ⟨en, e1, _, wen⟩ := DataW.trod_int Tryz.underlying3 g1
  obtain ⟨tp, e2, _, wtp⟩ := DataW.trod_int Tryz.underlying3 g2
  simp only [List.cons.injEq, and_true] at e0 e1 e2
  subst e0 e1 e2
  exact ⟨a, ns, c, en, tp, rfl, hc, hN, hl, wen, wtp⟩
end
end Go.Proofs.YtajbimmfkbgcpaaGreat
