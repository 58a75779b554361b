/-
  The keys of a session's table, collected in whatever order and sorted. Conditions: none.
-/
import Derived.Test.YthnjfpfcnpefaaaGreatProg
import Derived.Test.YthnjfpfcnpefaaaGreatKC3
import Derived.Maps.RangeWalk
import Derived.Maps.AppendAt
import Derived.Sort.OwnSorted
import Derived.WalkKit
namespace Go.Proofs.YthnjfpfcnpefaaaGreat
open Go.RowKit Go.Maps
open Go.Am (IntRow One2 KeysCall)
open Go.MapKept (Stamped)
open Go.WideElems (rd rg Fit)
theorem law3 : Keyed Tryz.prog 3 := int_keyed Tryz.underlying3
theorem Tryz.info3 : (Tryz.prog.info? 3).map (fun i => (i.zero, i.size, i.bytes)) = some (some (.int .i64 0), 1, 8) := by kernel_rfl
/-- Whatever an element is. -/
def anyElem (_ : Value) : Option (DataW Unit × List MemPlace) := some (.lit (.bool true), [])
def CollI (D0 : DataW Unit) (left : Lit → Bool) (ss : List Int) : Prop := ss.Nodup ∧ ∀ x, x ∈ ss ↔ (has D0 (.int .i64 x) = true ∧ left (.int .i64 x) = false)
theorem CollI.start (D0 : DataW Unit) : CollI D0 (has D0) [] := ⟨List.nodup_nil, fun x => by cases has D0 (.int .i64 x) <;> simp⟩
theorem CollI.step {D0 : DataW Unit} {left : Lit → Bool} {ss : List Int} (h : CollI D0 left ss) {x : Int} {y : DataW Unit} (hlk : left (.int .i64 x) = true) (hat : ∀ zd, D0.atKey (.int .i64 x) zd = y) : CollI D0 (fun z => left z && !z.sameKey (.int .i64 x)) (ss ++ [x]) := by
  have hhas : has D0 (.int .i64 x) = true := has_true_of_atKey hat
  have hnew : x ∉ ss := fun hx => by have := ((h.2 x).1 hx).2; rw [hlk] at this; cases this
  refine ⟨List.nodup_append.2 ⟨h.1, by simp, fun a ha b hb => by simp at hb; subst hb; exact fun e => hnew (e ▸ ha)⟩, fun y => ?_⟩
  by_cases hy : y = x
  · subst hy; simp [hhas, Lit.sameKey]
  · simp [h.2 y, hy, Lit.sameKey]
/-- What is asked of the library's sort. -/
def SortNil : Prop := ∀ w : World, Calls Tryz.prog 198 #[.slice none 0 0] w fun e w' => e = .returned (.tuple #[]) ∧ Below w.heap.size w w'
def SortRow : Prop := ∀ (ss : List Int) (w0 w : World) (g cap : Nat) (cur : Array Value), ss.Nodup → (∀ x ∈ ss, One2 x) → ss ≠ [] → Below w0.heap.size w0 w → w0.heap.size ≤ g → w.heap[g]? = some (.cells cur 3 (0, 0)) → ss.length ≤ cap → cur.size = cap →
  cur.toList.take ss.length = ss.map (Value.int .i64) → Calls Tryz.prog 198 #[.slice (some ⟨g, 0, none⟩) ss.length cap] w fun e w' => e = .returned (.tuple #[]) ∧ IntRow w0.heap.size w' (.slice (some ⟨g, 0, none⟩) ss.length cap) (ss.mergeSort fun x y => decide (x ≤ y)) ∧ Below w0.heap.size w0 w'
set_option maxRecDepth 100000 in
set_option maxHeartbeats 1000000 in
/-- THE WALK. -/
theorem keys_any (hnil : SortNil) (hsort : SortRow) (b n : Nat) (D0 : DataW Unit) (ad ao : Nat) (w : World) (hown : w.ownsMap Tryz.prog 3 anyElem b n D0) (hcell : w.cell? ⟨ad, ao, none⟩ = some (.map (some b))) (hmax : Maps.size D0 ≤ 2) (h12 : ∀ x, has D0 (.int .i64 x) = true → One2 x) :
    Calls Tryz.prog 149 #[.pointer (some ⟨ad, ao, none⟩)] w fun e w' => ∃ (v : Value) (ss : List Int), e = .returned v ∧ ss.Nodup ∧ (∀ x, x ∈ ss ↔ has D0 (.int .i64 x) = true) ∧ IntRow w.heap.size w' v (ss.mergeSort fun x y => decide (x ≤ y)) ∧ Below w.heap.size w w' := by
  have hbl := hown.lt
  obtain ⟨i0, hi, hz0, hz1, hz2⟩ := info_parts Tryz.info3
  go_enter Tryz.func149, Tryz.ntmps149
  go_wp2_with (first
    | (at_range; refine wpList_range_own _ rfl _ 223 rfl 3 240 law3 Tryz.underlying223 _ b n _ rfl hown ?_; intro w0 hrg0 hg0 hs0)
    | go_in)
  go_frame
  go_loopw [3] (fun v wr => ∃ (left : Lit → Bool) (cnt : Nat) (ss : List Int), wr.ranges Tryz.prog 3 anyElem b w.heap.size n D0 left cnt ∧ ss.length + cnt ≤ Maps.size D0 ∧
      wr.ownsRow w.heap.size 3 1 v ss.length (ss.map (Value.int .i64)) ∧ (ss = [] → v = .slice none 0 0) ∧ CollI D0 left ss ∧ Below w.heap.size w wr)
    (fun _ wr => wr.rangeLeft b w.heap.size)
  case atStart =>
    exact ⟨_, _, [], hrg0, by simp, World.ownsRow_nil _ _ _ _, fun _ => rfl, CollI.start D0, (Below.refl _ _).grown hg0 (Nat.le_refl _) (fun j hj => by cases hj)⟩
  case round =>
    obtain ⟨left, cnt, ss, hrg, hcs, hrow, hnn, hC, hnx⟩ := hrel
    go_wp2_with (first
      | (at_next; refine wpList_next_ranges _ rfl _ rfl 3 law3 anyElem (Value.int .i64) (fun v : Value => v) (fun key kl hk => by obtain ⟨x, hx, _⟩ := Maps.keyOf_int_inv Tryz.underlying3 hk; exact ⟨x, hx⟩) (fun v y _ => ⟨v, rfl⟩) b w.heap.size n _ _ _ rfl hrg ?_ ?_)
      | go_in)
    · intro hc0 hl0
      have hiff : ∀ x, x ∈ ss ↔ has D0 (.int .i64 x) = true := fun x => by rw [hC.2 x, hl0]; simp
      rcases hrow.2 with ⟨rfl, h0⟩ | ⟨g, cap, cur, rfl, hbase, hb, h1, h2, h3, h4⟩
      · have hs0 : ss = [] := List.length_eq_zero_iff.1 h0
        subst hs0
        have hc := hnil wr
        go_wp2_with (first
          | (go_at_call 198; refine hc.mono ?_; rintro e w' ⟨rfl, hB⟩)
          | go_in)
        go_ret
        exact ⟨_, [], rfl, hC.1, hiff, .inl ⟨by simp, rfl⟩, hnx.trans (hB.mono hnx.size)⟩
      · have hne : ss ≠ [] := fun e => by have := hnn e; cases this
        have hc := hsort ss w wr g cap cur hC.1 (fun x hx => h12 x ((hC.2 x).1 hx).1) hne hnx hbase hb h1 (by omega) (by rw [Nat.mul_one] at h4; exact h4)
        go_wp2_with (first
          | (go_at_call 198; refine hc.mono ?_; rintro e w' ⟨rfl, hR, hB⟩)
          | go_in)
        go_ret
        exact ⟨_, ss, rfl, hC.1, hiff, hR, hB⟩
    · intro x c kl yd yp w2 cnt2 hkey hlk hv hat hrg2 hlt hg2 hs2 hen
      obtain ⟨x', ex, rfl, _⟩ := Maps.keyOf_int_inv Tryz.underlying3 hkey
      cases ex
      have hrow2 := hrow.kept hg2 (Or.inr (row_ne_iter hrow hrg).symm)
      clear hs2
      go_wp2_with (first
        | (at_builtin; refine wpList_append_own _ rfl _ _ 68 rfl w.heap.size 3 i0 (.int .i64 0) 1 8 Tryz.underlying68 hi hz0 hz1 hz2 rfl (by decide) _ _ _ rfl (hrow2.alloc _) ⟨w2.heap.size, 0, none⟩ 1 1 [.int .i64 x] rfl rfl (cell_one_new _ _ _) (ints_oneCell .i64 [x]) (by unfold maxLen; omega) (by omega) (by have := hnx.size; have := hg2.size; simp; omega) ?_; intro v' w3 hown' hg3 hnil3; go_frame)
        | go_in)
      have hrg3 := (hrg2.alloc _).kept hg3 (row_ne_low hrow2 hbl) (row_ne_iter hrow2 hrg2)
      go_roundw
      case rel =>
        refine ⟨_, cnt2, ss ++ [x], hrg3, by simp; omega, by simpa using hown', fun e => by simp at e, hC.step hlk hat, ?_⟩
        exact ((hnx.grown hg2 hnx.size (fun j hj => by cases hj; exact Nat.le_refl _)).alloc (by have := hnx.size; have := hg2.size; omega) _).grown hg3 (by have := hnx.size; have := hg2.size; simp; omega) (fun j hj => (hrow2.lt j hj).1)
      case measure => rw [hrg3.left_eq, hrg.left_eq]; exact hlt
theorem lit_ok {z : Int} (h : One2 z) : (Lit.int .i64 z).wf = true := by rcases h with rfl | rfl <;> decide
theorem perm_sort {l l' : List Int} (h : l.Perm l') : (l.mergeSort fun x y => decide (x ≤ y)) = l'.mergeSort fun x y => decide (x ≤ y) := by
  have tr : ∀ a b c : Int, decide (a ≤ b) = true → decide (b ≤ c) = true → decide (a ≤ c) = true := fun a b c h1 h2 => by simp only [decide_eq_true_eq] at *; omega
  have to : ∀ a b : Int, (decide (a ≤ b) || decide (b ≤ a)) = true := fun a b => by simp only [Bool.or_eq_true, decide_eq_true_eq]; omega
  refine List.Perm.eq_of_pairwise (le := fun a b => decide (a ≤ b) = true) (fun a b _ _ h1 h2 => ?_) (List.pairwise_mergeSort tr to l) (List.pairwise_mergeSort tr to l') (((List.mergeSort_perm l _).trans h).trans (List.mergeSort_perm l' _).symm)
  simp only [decide_eq_true_eq] at h1 h2
  omega
theorem keys_call (hnil : SortNil) (hsort : SortRow) : KeysCall Tryz.prog 149 := by
  refine ⟨Am.enters_of Tryz.func149 (by kernel_rfl) (by decide +kernel), ?_⟩
  intro ad ao w c es clock zs hcell hb hst hks hnd h12
  have hkey : ∀ x ∈ es.toList, ∃ z ∈ zs, x.key = .int .i64 z := fun x hx => by
    have : x.key ∈ zs.map (Value.int .i64) := by rw [← hks]; exact List.mem_map.2 ⟨x, hx, rfl⟩
    obtain ⟨z, hz, e⟩ := List.mem_map.1 this
    exact ⟨z, hz, e.symm⟩
  have hrd : ∀ x ∈ es.toList, ∀ z, x.key = .int .i64 z → One2 z → rd Tryz.prog 3 anyElem x = some (.int .i64 z, .lit (.bool true)) := fun x hx z hz h => by
    unfold rd
    rw [hz, keyOf_int_mk Tryz.underlying3 (lit_ok h)]
    rfl
  have hlen : es.toList.length = zs.length := by have := congrArg List.length hks; simpa using this
  have hsz : zs.length ≤ 2 := by rcases Am.small_cases hnd h12 with rfl | rfl | rfl | rfl | rfl <;> simp
  have hown : w.ownsMap Tryz.prog 3 anyElem c es.size (.map ((es.toList.map (rg Tryz.prog 3 anyElem)).foldr DataW.insert [])) :=
    ⟨es, clock, hb, ⟨by rw [← Array.length_toList, hlen]; unfold maxLen; omega, hst, fun x hx => by obtain ⟨z, hz, e⟩ := hkey x hx; exact ⟨_, hrd x hx z e (h12 z hz)⟩⟩, Nat.le_refl _, rfl⟩
  have hhas : ∀ x, has (DataW.map ((es.toList.map (rg Tryz.prog 3 anyElem)).foldr DataW.insert [])) (.int .i64 x) = true ↔ x ∈ zs := fun x => by
    rw [has_eq, List.any_eq_true]
    constructor
    · rintro ⟨p, hp, hs⟩
      obtain ⟨y, hy, rfl⟩ := List.mem_map.1 (mem_sorted.1 hp)
      obtain ⟨z, hz, e⟩ := hkey y hy
      unfold rg at hs
      rw [hrd y hy z e (h12 z hz)] at hs
      have : z = x := by simpa [Lit.sameKey] using hs
      rw [← this]; exact hz
    · intro hx
      have : Value.int .i64 x ∈ es.toList.map (·.key) := by rw [hks]; exact List.mem_map.2 ⟨x, hx, rfl⟩
      obtain ⟨y, hy, e⟩ := List.mem_map.1 this
      refine ⟨_, mem_sorted.2 (List.mem_map.2 ⟨y, hy, rfl⟩), ?_⟩
      unfold rg
      rw [hrd y hy x e (h12 x hx)]
      simp [Lit.sameKey]
  refine (keys_any hnil hsort c es.size _ ad ao w hown hcell ?_ fun x hx => h12 x ((hhas x).1 hx)).mono fun e w' ⟨v, ss, e1, e2, e3, e4, e5⟩ => ?_
  · show (List.foldr DataW.insert [] _).length ≤ 2
    rw [length_sorted, List.length_map, hlen]; exact hsz
  · have hp : ss.Perm zs := (List.perm_ext_iff_of_nodup e2 hnd).2 fun x => (e3 x).trans (hhas x)
    rw [perm_sort hp] at e4
    exact ⟨v, e1, e4, e5⟩
end Go.Proofs.YthnjfpfcnpefaaaGreat
