/-
  draylaw24.StoreOthers answers true, whatever is asked of it. Conditions: none.
-/
import Derived.Test.YtkgjghlklniaeaaRows
import Derived.Test.YtkgjghlklniaeaaJ13
import Derived.Test.YtkgjghlklniaeaaJ1
import Derived.Test.YtkgjghlklniaeaaS2
import Derived.ProofKit
import Derived.SizedLaws
namespace Go.Proofs.Ytkgjghlklniaeaa
open Go.ChangeShapes Go.WideShapes Go.ChangeAt Go.RowKit
open Go.Am (cvt mapW memW Wide SR SRs V1 VR SlAt BySl AVal)
theorem Try.own : ownKnob Try.prog.godebug = none := by kernel_rfl
theorem Try.laidOut : laidOutB Try.prog = true := by kernel_rfl
theorem cells3 : Try.prog.cellsOf 3 = 1 := by kernel_rfl
theorem cells5 : Try.prog.cellsOf 5 = 1 := by kernel_rfl
theorem cells9 : Try.prog.cellsOf 9 = 1 := by kernel_rfl
theorem cells62 : Try.prog.cellsOf 62 = 1 := by kernel_rfl
theorem cells64 : Try.prog.cellsOf 64 = 6 := by kernel_rfl
theorem cells66 : Try.prog.cellsOf 66 = 15 := by kernel_rfl
theorem cells114 : Try.prog.cellsOf 114 = 2 := by kernel_rfl
def CInt (v : AVal) : Prop := ∃ n : Int, v = .int .i64 n
def CStr (v : AVal) : Prop := ∃ s : List Nat, Am.Bytes s ∧ v = .str s
def CEnt (K : Nat) (W : World) (v : AVal) : Prop := ∃ es m, Am.EnAt (memW K W) v es m ∧ ∀ e ∈ es, Am.Bytes e.2
section
variable {H : Type} {enc : TypeId × Value → H} {W : World} {K : Nat} {held : Bool}
theorem int_cell {fuel : Nat} {cs : List Value} {x : DataW H × List MemPlace} (hx : DataW.trod enc Try.prog W 0 (fun _ => true) held fuel 3 cs = some x) : ∃ y v, cs = [y] ∧ cvt K W y = some v ∧ CInt v := by
  obtain ⟨m, h1, _, h2⟩ := DataW.trod_int Try.underlying3 hx
  exact ⟨_, _, h1, rfl, m, rfl⟩
theorem str_cell {fuel : Nat} {cs : List Value} {x : DataW H × List MemPlace} (hx : DataW.trod enc Try.prog W 0 (fun _ => true) held fuel 9 cs = some x) : ∃ y v, cs = [y] ∧ cvt K W y = some v ∧ CStr v := by
  obtain ⟨s, h1, _, hs⟩ := DataW.trod_string Try.underlying9 hx
  refine ⟨_, _, h1, rfl, _, fun c hc => ?_, rfl⟩
  obtain ⟨b, _, rfl⟩ := List.mem_map.1 hc
  exact b.toNat_lt
theorem ent_cells (fuel : Nat) (cs : List Value) (x : DataW H × List MemPlace) (hx : DataW.trod enc Try.prog W 0 (fun _ => true) held fuel 114 cs = some x) (j : Nat) (hj : j < Try.prog.cellsOf 114) :
    ∃ y v, cs[j]? = some y ∧ cvt K W y = some v ∧ ((j = 0 ∧ CInt v) ∨ (j = 1 ∧ CStr v)) := by
  rw [cells114] at hj
  obtain ⟨xs, n, _, _, hl, hxl, hf⟩ := DataW.trod_struct Try.underlying114 hx
  have hxl : xs.length = 2 := hxl
  match j, hj with
  | 0, _ =>
    have : DataW.trod enc Try.prog W 0 (fun _ => true) held n 3 ((cs.drop 0).take (Try.prog.cellsOf 3)) = xs[0]? := hf 0 _ rfl
    rw [cells3, List.getElem?_eq_getElem (by omega)] at this
    obtain ⟨y, v, h1, h2, h3⟩ := int_cell (K := K) this
    exact ⟨y, v, cell_of_cut h1, h2, .inl ⟨rfl, h3⟩⟩
  | 1, _ =>
    have : DataW.trod enc Try.prog W 0 (fun _ => true) held n 9 ((cs.drop 1).take (Try.prog.cellsOf 9)) = xs[1]? := hf 1 _ rfl
    rw [cells9, List.getElem?_eq_getElem (by omega)] at this
    obtain ⟨y, v, h1, h2, h3⟩ := str_cell (K := K) this
    exact ⟨y, v, cell_of_cut h1, h2, .inr ⟨rfl, h3⟩⟩
  | n + 2, h => omega
theorem ents_of (n : Nat) : ∀ {cs : List AVal}, cs.length = n * 2 → (∀ k, k < n → ∀ j, j < 2 → ∃ u, cs[k * 2 + j]? = some u ∧ ((j = 0 ∧ CInt u) ∨ (j = 1 ∧ CStr u))) → ∃ es : List (Int × List Nat), Am.ents es = cs ∧ es.length = n ∧ ∀ e ∈ es, Am.Bytes e.2 := by
  induction n with
  | zero => intro cs h _; exact ⟨[], by rw [List.length_eq_zero_iff.1 (show cs.length = 0 by omega)]; rfl, rfl, fun r hr => by cases hr⟩
  | succ n ih =>
    intro cs h hk
    match cs, h with
    | a :: b :: cs, h =>
      obtain ⟨u0, g0, k0⟩ := hk 0 (by omega) 0 (by omega)
      obtain ⟨u1, g1, k1⟩ := hk 0 (by omega) 1 (by omega)
      simp at g0 g1
      subst g0 g1
      have k0 : CInt a := by rcases k0 with ⟨_, k⟩ | ⟨k, _⟩; exact k; omega
      have k1 : CStr b := by rcases k1 with ⟨k, _⟩ | ⟨_, k⟩; omega; exact k
      obtain ⟨i, rfl⟩ := k0
      obtain ⟨s, hs, rfl⟩ := k1
      obtain ⟨es, e1, e2, e3⟩ := ih (cs := cs) (by simp at h; omega) fun k hk' j hj => by
        obtain ⟨u, hu, hc⟩ := hk (k + 1) (by omega) j hj
        refine ⟨u, ?_, hc⟩
        rw [show (k + 1) * 2 + j = k * 2 + j + 1 + 1 by omega] at hu
        simpa using hu
      refine ⟨(i, s) :: es, by rw [← e1]; rfl, by simp [e2], fun e he => ?_⟩
      rcases List.mem_cons.1 he with q | q
      · rw [q]; exact hs
      · exact e3 e q
    | [a], h => simp at h; omega
    | [], h => simp at h
theorem log_cell (hw : Wide K W) {fuel : Nat} {cs : List Value} (hz : ∀ ad len cap, cs = [.slice (some ad) len cap] → 0 < W.heap.size) {x : DataW H × List MemPlace} (hx : DataW.trod enc Try.prog W 0 (fun _ => true) held fuel 62 cs = some x) : ∃ y v, cs = [y] ∧ SR (mapW K W) v y ∧ CEnt K W v := by
  obtain ⟨X, v, n, cs', mo, h1, h4, h3, _, h5, _⟩ := Am.sl_trod (R := fun j u => (j = 0 ∧ CInt u) ∨ (j = 1 ∧ CStr u)) hw Try.underlying62 (by rw [cells114]; omega) (fun ad len cap h _ => hz ad len cap h) hx (fun _ fuel cs x _ hx => ent_cells fuel cs x hx)
  rw [cells114] at h3 h5
  obtain ⟨es, e1, e2, e3⟩ := ents_of n (by have := h3.1; omega) h5
  subst e1
  subst e2
  exact ⟨X, v, h1, h4, es, mo, h3, e3⟩
def HardCell (K : Nat) (W : World) (j : Nat) (v : AVal) : Prop := (j < 4 ∧ CInt v) ∨ (j = 4 ∧ CStr v) ∨ (j = 5 ∧ CEnt K W v)
theorem hard_cells (hw : Wide K W) {fuel : Nat} {cs : List Value} (hz : ∀ ad len cap, cs[5]? = some (.slice (some ad) len cap) → 0 < W.heap.size) {x : DataW H × List MemPlace}
    (hx : DataW.trod enc Try.prog W 0 (fun _ => true) held fuel 64 cs = some x) (j : Nat) (hj : j < 6) : ∃ y v, cs[j]? = some y ∧ SR (mapW K W) v y ∧ HardCell K W j v := by
  obtain ⟨xs, n, _, _, hl, hxl, hf⟩ := DataW.trod_struct Try.underlying64 hx
  have hxl : xs.length = 6 := hxl
  have hint : ∀ (i : Nat) (f : Field), i < 4 → (#[{ name := "Term", type := 3, offset := 0, embedded := false, tag := "", pkgPath := "", byteOffset := 0 },
        { name := "Vote", type := 3, offset := 1, embedded := false, tag := "", pkgPath := "", byteOffset := 8 },
        { name := "Base", type := 3, offset := 2, embedded := false, tag := "", pkgPath := "", byteOffset := 16 },
        { name := "BaseTerm", type := 3, offset := 3, embedded := false, tag := "", pkgPath := "", byteOffset := 24 },
        { name := "Snap", type := 9, offset := 4, embedded := false, tag := "", pkgPath := "", byteOffset := 32 },
        { name := "Log", type := 62, offset := 5, embedded := false, tag := "", pkgPath := "", byteOffset := 48 }] : Array Field)[i]? = some f → f.type = 3 → f.offset = i → ∃ y v, cs[i]? = some y ∧ SR (mapW K W) v y ∧ HardCell K W i v := by
    intro i f hi hfi ht ho
    have := hf i f hfi
    rw [ht, ho, cells3, List.getElem?_eq_getElem (by omega)] at this
    obtain ⟨y, v, h1, h2, h3⟩ := int_cell (K := K) this
    exact ⟨y, v, cell_of_cut h1, Am.cvt_rel h2, .inl ⟨hi, h3⟩⟩
  match j, hj with
  | 0, _ => exact hint 0 _ (by omega) rfl rfl rfl
  | 1, _ => exact hint 1 _ (by omega) rfl rfl rfl
  | 2, _ => exact hint 2 _ (by omega) rfl rfl rfl
  | 3, _ => exact hint 3 _ (by omega) rfl rfl rfl
  | 4, _ =>
    have : DataW.trod enc Try.prog W 0 (fun _ => true) held n 9 ((cs.drop 4).take (Try.prog.cellsOf 9)) = xs[4]? := hf 4 _ rfl
    rw [cells9, List.getElem?_eq_getElem (by omega)] at this
    obtain ⟨y, v, h1, h2, h3⟩ := str_cell (K := K) this
    exact ⟨y, v, cell_of_cut h1, Am.cvt_rel h2, .inr (.inl ⟨rfl, h3⟩)⟩
  | 5, _ =>
    have : DataW.trod enc Try.prog W 0 (fun _ => true) held n 62 ((cs.drop 5).take (Try.prog.cellsOf 62)) = xs[5]? := hf 5 _ rfl
    rw [cells62, List.getElem?_eq_getElem (by omega)] at this
    obtain ⟨y, v, h1, h2, h3⟩ := log_cell hw (fun ad len cap h => hz ad len cap (cell_of_cut h)) this
    exact ⟨y, v, cell_of_cut h1, h2, .inr (.inr ⟨rfl, h3⟩)⟩
  | n + 6, h => omega
def AskCell (K : Nat) (W : World) (j : Nat) (v : AVal) : Prop := (j < 7 ∧ CInt v) ∨ (j = 7 ∧ CEnt K W v) ∨ (j = 8 ∧ CStr v) ∨ (9 ≤ j ∧ HardCell K W (j - 9) v)
theorem ask_cells (hw : Wide K W) {fuel : Nat} {cs : List Value} (hz : ∀ i ad len cap, (i = 7 ∨ i = 14) → cs[i]? = some (.slice (some ad) len cap) → 0 < W.heap.size) {x : DataW H × List MemPlace}
    (hx : DataW.trod enc Try.prog W 0 (fun _ => true) held fuel 66 cs = some x) (j : Nat) (hj : j < 15) : ∃ y v, cs[j]? = some y ∧ SR (mapW K W) v y ∧ AskCell K W j v := by
  obtain ⟨xs, n, _, _, hl, hxl, hf⟩ := DataW.trod_struct Try.underlying66 hx
  have hxl : xs.length = 10 := hxl
  have hint : ∀ (i : Nat), i < 7 → (∀ fuel cs' y, DataW.trod enc Try.prog W 0 (fun _ => true) held fuel 3 cs' = some y → ∃ y v, cs' = [y] ∧ cvt K W y = some v ∧ CInt v) → DataW.trod enc Try.prog W 0 (fun _ => true) held n 3 ((cs.drop i).take (Try.prog.cellsOf 3)) = xs[i]? → ∃ y v, cs[i]? = some y ∧ SR (mapW K W) v y ∧ AskCell K W i v := by
    intro i hi _ this
    rw [cells3, List.getElem?_eq_getElem (by omega)] at this
    obtain ⟨y, v, h1, h2, h3⟩ := int_cell (K := K) this
    exact ⟨y, v, cell_of_cut h1, Am.cvt_rel h2, .inl ⟨hi, h3⟩⟩
  have hard : ∀ j, 9 ≤ j → j < 15 → ∃ y v, cs[j]? = some y ∧ SR (mapW K W) v y ∧ AskCell K W j v := by
    intro j h9 h15
    have : DataW.trod enc Try.prog W 0 (fun _ => true) held n 64 ((cs.drop 9).take (Try.prog.cellsOf 64)) = xs[9]? := hf 9 _ rfl
    rw [cells64, List.getElem?_eq_getElem (by omega)] at this
    have hg : ∀ i, i < 6 → ((cs.drop 9).take 6)[i]? = cs[9 + i]? := fun i hi => by rw [List.getElem?_take_of_lt hi, List.getElem?_drop]
    obtain ⟨y, v, h1, h2, h3⟩ := hard_cells hw (fun ad len cap h => hz 14 ad len cap (.inr rfl) (by rw [hg 5 (by omega)] at h; exact h)) this (j - 9) (by omega)
    rw [hg _ (by omega), show 9 + (j - 9) = j by omega] at h1
    exact ⟨y, v, h1, h2, .inr (.inr (.inr ⟨h9, h3⟩))⟩
  match j, hj with
  | 0, _ => exact hint 0 (by omega) (fun _ _ _ h => int_cell h) (hf 0 _ rfl)
  | 1, _ => exact hint 1 (by omega) (fun _ _ _ h => int_cell h) (hf 1 _ rfl)
  | 2, _ => exact hint 2 (by omega) (fun _ _ _ h => int_cell h) (hf 2 _ rfl)
  | 3, _ => exact hint 3 (by omega) (fun _ _ _ h => int_cell h) (hf 3 _ rfl)
  | 4, _ => exact hint 4 (by omega) (fun _ _ _ h => int_cell h) (hf 4 _ rfl)
  | 5, _ => exact hint 5 (by omega) (fun _ _ _ h => int_cell h) (hf 5 _ rfl)
  | 6, _ => exact hint 6 (by omega) (fun _ _ _ h => int_cell h) (hf 6 _ rfl)
  | 7, _ =>
    have : DataW.trod enc Try.prog W 0 (fun _ => true) held n 62 ((cs.drop 7).take (Try.prog.cellsOf 62)) = xs[7]? := hf 7 _ rfl
    rw [cells62, List.getElem?_eq_getElem (by omega)] at this
    obtain ⟨y, v, h1, h2, h3⟩ := log_cell hw (fun ad len cap h => hz 7 ad len cap (.inl rfl) (cell_of_cut h)) this
    exact ⟨y, v, cell_of_cut h1, h2, .inr (.inl ⟨rfl, h3⟩)⟩
  | 8, _ =>
    have : DataW.trod enc Try.prog W 0 (fun _ => true) held n 9 ((cs.drop 8).take (Try.prog.cellsOf 9)) = xs[8]? := hf 8 _ rfl
    rw [cells9, List.getElem?_eq_getElem (by omega)] at this
    obtain ⟨y, v, h1, h2, h3⟩ := str_cell (K := K) this
    exact ⟨y, v, cell_of_cut h1, Am.cvt_rel h2, .inr (.inr (.inl ⟨rfl, h3⟩))⟩
  | n + 9, h => exact hard (n + 9) (by omega) h
end
theorem same_cell {K : Nat} {W : World} {j : Nat} {v : AVal} (h : HardCell K W j v) : Am.same1 v v = true := by
  rcases h with ⟨_, n, rfl⟩ | ⟨_, s, _, rfl⟩ | ⟨_, es, m, h, _⟩
  · exact Am.same_int .i64 n
  · exact Am.same_ss s
  · exact Am.same1_slv h
theorem ask_of {K : Nat} {W : World} {cs : List AVal} (hl : cs.length = 15) (h : ∀ j, j < 15 → ∃ u, cs[j]? = some u ∧ AskCell K W j u) :
    ∃ (q : Am.Nask) (ev : AVal) (hc : List AVal) (me : Nat), cs = q.cells ev hc ∧ Am.EnAt (memW K W) ev q.es me ∧ (∀ e ∈ q.es, Am.Bytes e.2) ∧ Am.Bytes q.s ∧ hc.length = 6 ∧ ∀ c ∈ hc, Am.same1 c c = true := by
  match cs, hl with
  | [a0, a1, a2, a3, a4, a5, a6, a7, a8, a9, a10, a11, a12, a13, a14], _ =>
    have int : ∀ j v, j < 7 → [a0, a1, a2, a3, a4, a5, a6, a7, a8, a9, a10, a11, a12, a13, a14][j]? = some v → CInt v := fun j v hj hv => by
      obtain ⟨u, hu, hc⟩ := h j (by omega)
      rw [hv] at hu; injection hu with hu; subst hu
      rcases hc with ⟨_, hc⟩ | ⟨hc, _⟩ | ⟨hc, _⟩ | ⟨hc, _⟩
      · exact hc
      all_goals omega
    have hard : ∀ j v, 9 ≤ j → j < 15 → [a0, a1, a2, a3, a4, a5, a6, a7, a8, a9, a10, a11, a12, a13, a14][j]? = some v → Am.same1 v v = true := fun j v h9 hj hv => by
      obtain ⟨u, hu, hc⟩ := h j hj
      rw [hv] at hu; injection hu with hu; subst hu
      rcases hc with ⟨hc, _⟩ | ⟨hc, _⟩ | ⟨hc, _⟩ | ⟨_, hc⟩
      · omega
      · omega
      · omega
      · exact same_cell hc
    obtain ⟨n0, rfl⟩ := int 0 a0 (by omega) rfl
    obtain ⟨n1, rfl⟩ := int 1 a1 (by omega) rfl
    obtain ⟨n2, rfl⟩ := int 2 a2 (by omega) rfl
    obtain ⟨n3, rfl⟩ := int 3 a3 (by omega) rfl
    obtain ⟨n4, rfl⟩ := int 4 a4 (by omega) rfl
    obtain ⟨n5, rfl⟩ := int 5 a5 (by omega) rfl
    obtain ⟨n6, rfl⟩ := int 6 a6 (by omega) rfl
    have h7 : CEnt K W a7 := by
      obtain ⟨u, hu, hc⟩ := h 7 (by omega)
      have hu : some a7 = some u := hu
      injection hu with hu; subst hu
      rcases hc with ⟨hc, _⟩ | ⟨_, hc⟩ | ⟨hc, _⟩ | ⟨hc, _⟩
      · omega
      · exact hc
      all_goals omega
    have h8 : CStr a8 := by
      obtain ⟨u, hu, hc⟩ := h 8 (by omega)
      have hu : some a8 = some u := hu
      injection hu with hu; subst hu
      rcases hc with ⟨hc, _⟩ | ⟨hc, _⟩ | ⟨_, hc⟩ | ⟨hc, _⟩
      · omega
      · omega
      · exact hc
      · omega
    obtain ⟨es, m, g1, g2⟩ := h7
    obtain ⟨s, hs, rfl⟩ := h8
    refine ⟨⟨n0, n1, n2, n3, n4, n5, n6, es, s⟩, a7, [a9, a10, a11, a12, a13, a14], m, rfl, g1, g2, hs, rfl, fun c hc => ?_⟩
    simp only [List.mem_cons, List.not_mem_nil, or_false] at hc
    rcases hc with rfl | rfl | rfl | rfl | rfl | rfl
    · exact hard 9 _ (by omega) (by omega) rfl
    · exact hard 10 _ (by omega) (by omega) rfl
    · exact hard 11 _ (by omega) (by omega) rfl
    · exact hard 12 _ (by omega) (by omega) rfl
    · exact hard 13 _ (by omega) (by omega) rfl
    · exact hard 14 _ (by omega) (by omega) rfl
theorem types66 : Try.prog.cellTypes Try.prog.depth 66 = some [3, 3, 3, 3, 3, 3, 3, 62, 9, 3, 3, 3, 3, 9, 62] := by kernel_rfl
theorem srs_of {m : Am.Mp} : ∀ {ys : List Value} {n : Nat} {P : Nat → AVal → Prop}, ys.length = n → (∀ j, j < n → ∃ y v, ys[j]? = some y ∧ SR m v y ∧ P j v) → ∃ vs : List AVal, SRs m vs ys ∧ vs.length = n ∧ ∀ j, j < n → ∃ u, vs[j]? = some u ∧ P j u
  | [], n, P, hn, _ => ⟨[], .nil, hn, fun j hj => by have : n = 0 := hn.symm; omega⟩
  | y :: ys, n, P, hn, h => by
    obtain ⟨k, rfl⟩ : ∃ k, n = k + 1 := ⟨ys.length, hn.symm⟩
    obtain ⟨y0, v, h1, h2, h3⟩ := h 0 (by omega)
    have h1 : some y = some y0 := h1
    injection h1 with h1
    subst h1
    obtain ⟨vs, g1, g2, g3⟩ := srs_of (ys := ys) (n := k) (P := fun j => P (j + 1)) (by simpa using hn) fun j hj => by
      obtain ⟨y', v', a1, a2, a3⟩ := h (j + 1) (by omega)
      exact ⟨y', v', by simpa using a1, a2, a3⟩
    refine ⟨v :: vs, .cons _ _ _ _ h2 g1, by simp [g2], fun j hj => ?_⟩
    cases j with
    | zero => exact ⟨v, rfl, h3⟩
    | succ j =>
      obtain ⟨u, u1, u2⟩ := g3 j (by omega)
      exact ⟨u, by simpa using u1, u2⟩
set_option maxRecDepth 100000 in
theorem ask_arg {H : Type} {enc : TypeId × Value → H} {W : World} {base K : Nat} (hw : Wide K W) {v : Value} {d : DataW H} {p : List MemPlace} (hv : Value.okWide Try.prog W .any base 66 v) (h : DataW.Trod enc Try.prog W 0 (fun _ => true) true 66 v d p) :
    ∃ (q : Am.Nask) (ev : AVal) (hc : List AVal) (me : Nat), VR (mapW K W) (.agg (q.cells ev hc)) v ∧ Am.EnAt (memW K W) ev q.es me ∧ (∀ e ∈ q.es, Am.Bytes e.2) ∧ Am.Bytes q.s ∧ hc.length = 6 ∧ ∀ c ∈ hc, Am.same1 c c = true := by
  unfold Value.okWide at hv
  rw [Try.underlying66] at hv
  have hv : ∃ cs, v = .agg cs ∧ cs.size = Try.prog.cellsOf 66 ∧ Row.okWide Try.prog W .any base 66 cs := hv
  obtain ⟨cs, rfl, hsz, ts, ht, _, hrow⟩ := hv
  rw [types66] at ht
  cases ht
  rw [cells66] at hsz
  obtain ⟨fuel, hf⟩ := h
  have slz : ∀ i ad len cap, (i = 7 ∨ i = 14) → cs.toList[i]? = some (.slice (some ad) len cap) → 0 < W.heap.size := fun i ad len cap hi hc => by
    have fin : Value.okWide Try.prog W .any base 62 (.slice (some ad) len cap) → 0 < W.heap.size := fun hx => by
      obtain ⟨a, l, c, he, ha⟩ := Am.okWide_room Try.underlying62 hx
      cases he
      exact ha ad rfl
    rcases hi with rfl | rfl
    · obtain ⟨u, hu, hx⟩ := hrow 7 _ (by rw [← Array.getElem?_toList]; exact hc)
      cases hu
      exact fin (by unfold Value.okWide; rw [Try.underlying62]; exact hx)
    · obtain ⟨u, hu, hx⟩ := hrow 14 _ (by rw [← Array.getElem?_toList]; exact hc)
      cases hu
      exact fin (by unfold Value.okWide; rw [Try.underlying62]; exact hx)
  have hall := ask_cells hw (cs := cs.toList) slz hf
  have hl : cs.toList.length = 15 := by rw [Array.length_toList]; exact hsz
  obtain ⟨vs, g1, g2, g3⟩ := srs_of (P := AskCell K W) hl hall
  obtain ⟨q, ev, hc, me, e1, e2⟩ := ask_of g2 g3
  subst e1
  exact ⟨q, ev, hc, me, .v1 _ _ (.agg _ _ g1), e2⟩
theorem call30 : ∀ (σ1 : Am.S) (Q1 : AVal → Am.S → Prop), (∀ σ2, Q1 (.bool true) σ2) → Am.WF tabH 30 [] σ1 Q1 := fun σ1 Q1 hQ =>
  ⟨.bool true, σ1, hQ σ1, 1, fun m hm => by
    obtain ⟨m, rfl⟩ : ∃ k, m = k + 1 := ⟨m - 1, by omega⟩
    rw [Am.evalF_succ, tab30]
    exact Am.trueFn_run _ _ _⟩
set_option maxRecDepth 100000 in
theorem sothers_run {H : Type} {enc : TypeId × Value → H} {W : World} {base : Nat} {file at_ : Int} {v2 v3 : Value} {d2 d3 : DataW H} {p2 p3 : List MemPlace}
    (hv2 : Value.okWide Try.prog W .any base 22 v2) (hv3 : Value.okWide Try.prog W .any base 66 v3)
    (h2 : DataW.Trod enc Try.prog W 0 (fun _ => true) true 22 v2 d2 p2) (h3 : DataW.Trod enc Try.prog W 0 (fun _ => true) true 66 v3 d3 p3)
    (hsz : ∀ es sp, d2 = .slice es sp → (es.length + sp.length) * Try.prog.bytesOf 5 ≤ reachBytes) :
    Calls Try.prog 8 #[.int .i64 file, .int .i64 at_, v2, v3] W fun | .returned x, W' => x = .bool true ∧ Below W.heap.size W W' | _, _ => False := by
  obtain ⟨K, hw⟩ := Am.wide_ex W
  have hw : Wide (K + 1) W := fun b c h => by have := hw b c h; omega
  have hK : 0 < K + 1 := by omega
  obtain ⟨pv, p, mp, r2, hp, hpb, hd⟩ := Am.by_arg hw Try.underlying22 Try.underlying5 cells5 hv2 h2
  obtain ⟨q, ev, hc, me, r3, hev, heb, hsb, hc6, hsame⟩ := ask_arg hw hv3 h3
  have hpl : p.length ≤ 4611686018427387904 := by
    rcases hd with ⟨_, h⟩ | ⟨es, sp, h, he⟩
    · omega
    · have := hsz es sp h
      have hb : Try.prog.bytesOf 5 = 1 := by kernel_rfl
      rw [hb] at this
      unfold reachBytes at this
      omega
  obtain ⟨v, σ', hv, N, hN⟩ := Am.sothers_c (Q := fun v _ => v = .bool true) (file := file) (at_ := at_) tabs (Am.memW_ok (w := W) hK) hp hpb hpl hev heb hsb hc6 hsame (fun σ1 Q1 hQ => call30 σ1 Q1 hQ) (fun _ => rfl)
  subst hv
  obtain ⟨_, hcalls⟩ := Am.sound (w0 := W) mixed tabH_ok N 8 _ _ _ σ' W _ _ (hN N (Nat.le_refl _)) (Am.memW_rel hK) (.cons _ _ _ _ (SR.int _ _).vr (.cons _ _ _ _ (SR.int _ _).vr (.cons _ _ _ _ r2.vr (.cons _ _ _ _ r3 .nil))))
  refine hcalls.mono fun e w' he => ?_
  cases e with
  | returned x =>
    obtain ⟨m', g1, _, g3⟩ := he
    exact ⟨g1.bool, g3.below⟩
  | panicked c => exact he.elim
  | outgrown => exact he.elim
set_option maxRecDepth 100000 in
theorem storeOthers_lifted (os : Os) (started : os.Started) (H : Type) (enc : TypeId × Value → H) :
    ReturnsInHanded {} Try.checked os 8 .any (Rows.storeOthersSpec.pre6 enc Try.prog Try.f8 Rows.storeOthersRow.domain false) (Rows.storeOthersSpec.post enc Try.prog Try.f8 false true false false) := by
  refine returnsInHanded_of_change_sized (C := Try.checked) Try.own started (by kernel_rfl) Try.func8
    (ChangeSpec.witness6 (enc := enc) (C := Try.checked) false ⟨#[], #[.int .i64 0, .int .i64 0, .slice none 0 0, .agg #[.int .i64 0, .int .i64 0, .int .i64 0, .int .i64 0, .int .i64 0, .int .i64 0, .int .i64 0, .slice none 0 0, .string ByteArray.empty, .int .i64 0, .int .i64 0, .int .i64 0, .int .i64 0, .string ByteArray.empty, .slice none 0 0]], []⟩ 8 (by kernel_rfl) (by kernel_rfl) (by kernel_rfl) (by kernel_rfl)) ?_
  intro W base args ds gs before hval0 hW hcnd hsz _
  have hval : ∀ (j : Nat) t v, Try.f8.params[j]? = some t → args[j]? = some v → Value.okWide Try.prog W .any base t v := hval0
  have hW' := hW
  obtain ⟨p, q, hA0, hV, rfl, hfz, hnd⟩ := hW
  have hA : DataW.TrodAll enc Try.prog W 0 (fun _ => true) true Try.f8.params.toList args.toList ds p := hA0
  rw [Try.params8] at hA hval
  obtain ⟨v0, v1, v2, v3, d0, d1, d2, d3, p0, p1, p2, p3, rfl, rfl, rfl, h0, h1, h2, h3⟩ := trodAll_four hA
  obtain ⟨rfl, rfl⟩ := trodVars_none hV
  have hv2 := hval 2 22 v2 rfl rfl
  have hv3 := hval 3 66 v3 rfl rfl
  obtain ⟨a, rfl, rfl, rfl, wa⟩ := open_int Try.underlying3 (hval 0 3 v0 rfl rfl) h0
  obtain ⟨b, rfl, rfl, rfl, wb⟩ := open_int Try.underlying3 (hval 1 3 v1 rfl rfl) h1
  have hsz : (DataW.weightsEach Try.prog [3, 3, 22, 66] [.lit (.int .i64 a), .lit (.int .i64 b), d2, d3]).all (· ≤ reachBytes) = true := by
    have hsz : (DataW.weightsEach Try.prog (Try.f8.params.toList ++ []) ([.lit (.int .i64 a), .lit (.int .i64 b), d2, d3] ++ [])).all (· ≤ reachBytes) = true := hsz
    rw [Try.params8] at hsz
    exact hsz
  clear hA0 hval0
  simp only [List.append_nil] at hW'
  have hlt2 : ∀ x ∈ p2, x.block < W.heap.size := fun x hx => hW'.lt x (by simp [hx])
  have hlt3 : ∀ x ∈ p3, x.block < W.heap.size := fun x hx => hW'.lt x (by simp [hx])
  refine (sothers_run hv2 hv3 h2 h3 (fun es sp hd => sized_slice hsz (j := 2) rfl (by rw [hd]; rfl) Try.underlying22)).mono fun e W' he => ?_
  cases e with
  | panicked c => exact he.elim
  | outgrown => exact he.elim
  | returned x =>
    obtain ⟨rfl, hB⟩ := he
    refine ⟨_, rfl, Am.post_of_below (pa := p2 ++ p3) (pv := []) hW' (fun _ _ _ => trodAll_mk1 (shut_bool Try.underlying4 true)) (fun sp hsp => ?_) (fun _ _ => rfl) (by simp) hB (ok_one (by kernel_rfl) rfl (okWide_bool_mk Try.underlying4 true))⟩
    refine trodAll_mk4 (p := []) (p' := []) (shut_int Try.underlying3 wa) (shut_int Try.underlying3 wb) ?_ ?_
    · exact WideElems.Trod_stays Try.laidOut (by kernel_rfl) (of_decide_eq_true (by kernel_rfl)) h2 (fun x hx => hB.same (hlt2 x hx)) (fun x hx => hsp x (by simp [hx]))
    · exact WideElems.Trod_stays Try.laidOut (by kernel_rfl) (of_decide_eq_true (by kernel_rfl)) h3 (fun x hx => hB.same (hlt3 x hx)) (fun x hx => hsp x (by simp [hx]))
theorem storeOthers_holds : Rows.StoreOthersSaid :=
  OpenClaim.holds_of_wide 8 Try.f8 rfl rfl rfl rfl rfl rfl rfl ⟨rfl, rfl, rfl, rfl, rfl⟩ rfl rfl rfl rfl rfl (by kernel_rfl) Try.func8 (by kernel_rfl)
    (of_decide_eq_true (by kernel_rfl)) (by unfold Func.isWrapper; first | (rw [if_pos (by decide +kernel)]; kernel_rfl) | (rw [if_neg (by decide +kernel)]; exact ⟨rfl, rfl⟩))
    (fun os started H enc _ => storeOthers_lifted os started H enc)
end Go.Proofs.Ytkgjghlklniaeaa
