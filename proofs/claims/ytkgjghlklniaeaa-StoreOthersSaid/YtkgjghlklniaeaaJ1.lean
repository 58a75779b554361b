/-
  What a world holds ahead of a call, as the evaluator's memory. Conditions: none.
-/
import Derived.Test.YtkgjghlklniaeaaJ0
import Derived.Test.YtkgjghlklniaeaaC0
import Derived.ChangeShapes
namespace Go.Am
open Go.RowKit (Below)
def sayOf (f : Value → Option AVal) : List Value → List AVal
  | [] => []
  | x :: l => match f x with
    | some v => v :: sayOf f l
    | none => []
theorem sayOf_get {f : Value → Option AVal} : ∀ {l : List Value} {i : Nat} {v : AVal}, (sayOf f l)[i]? = some v → ∃ x, l[i]? = some x ∧ f x = some v
  | [], _, _, h => by simp [sayOf] at h
  | x :: l, i, v, h => by
    unfold sayOf at h
    split at h
    · rename_i u hu
      cases i with
      | zero => simp at h; subst h; exact ⟨x, rfl, hu⟩
      | succ i => simp at h; simpa using sayOf_get h
    · simp at h
theorem sayOf_len {f : Value → Option AVal} : ∀ {n : Nat} {l : List Value}, (∀ i, i < n → ∃ x v, l[i]? = some x ∧ f x = some v) → n ≤ (sayOf f l).length
  | 0, _, _ => Nat.zero_le _
  | n + 1, [], h => by obtain ⟨x, v, h1, _⟩ := h 0 (by omega); simp at h1
  | n + 1, x :: l, h => by
    obtain ⟨y, v, h1, h2⟩ := h 0 (by omega)
    simp at h1; subst h1
    unfold sayOf; rw [h2]
    have := sayOf_len (f := f) (n := n) (l := l) fun i hi => by
      obtain ⟨y, u, g1, g2⟩ := h (i + 1) (by omega)
      exact ⟨y, u, by simpa using g1, g2⟩
    simpa using this
def rowAt (w : World) (b : Nat) : Option (Array Value) := match w.heap[b]? with
  | some (.cells c _ _) => some c
  | _ => none
theorem rowAt_eq {w : World} {b : Nat} {c : Array Value} (h : rowAt w b = some c) : ∃ t f, w.heap[b]? = some (.cells c t f) := by
  unfold rowAt at h
  split at h
  · rename_i c' t f hc; cases h; exact ⟨t, f, hc⟩
  · cases h
theorem rowAt_lt {w : World} {b : Nat} {c : Array Value} (h : rowAt w b = some c) : b < w.heap.size := by
  obtain ⟨t, f, h⟩ := rowAt_eq h
  exact (Array.getElem?_eq_some_iff.1 h).1
theorem cell_rowAt {w : World} {b o : Nat} {x : Value} (h : w.cell? ⟨b, o, none⟩ = some x) : ∃ c, rowAt w b = some c ∧ c[o]? = some x := by
  unfold World.cell? at h
  unfold rowAt
  split at h
  · rename_i c t f hc
    simp at h hc
    rw [hc]; exact ⟨c, rfl, h⟩
  · cases h
def Wide (K : Nat) (w : World) : Prop := ∀ b c, rowAt w b = some c → c.size < K
theorem wide_ex (w : World) : ∃ K, Wide K w := by
  have key : ∀ n : Nat, ∃ K, ∀ b c, b < n → rowAt w b = some c → c.size < K := by
    intro n
    induction n with
    | zero => exact ⟨0, fun b c h => by omega⟩
    | succ n ih =>
      obtain ⟨K, hK⟩ := ih
      cases hr : rowAt w n with
      | none => exact ⟨K, fun b c hb hc => by
          by_cases e : b = n
          · subst e; rw [hr] at hc; cases hc
          · exact hK b c (by omega) hc⟩
      | some d => exact ⟨K + d.size + 1, fun b c hb hc => by
          by_cases e : b = n
          · subst e; rw [hr] at hc; cases hc; omega
          · have := hK b c (by omega) hc; omega⟩
  obtain ⟨K, hK⟩ := key w.heap.size
  exact ⟨K, fun b c hc => hK b c (rowAt_lt hc) hc⟩
def cvt (K : Nat) (w : World) : Value → Option AVal
  | .bool b => some (.bool b)
  | .int k n => some (.int k n)
  | .string t => some (.str (t.data.toList.map (·.toNat)))
  | .slice none len cap => if len = 0 ∧ cap = 0 then some .nsl else none
  | .slice (some a) len cap =>
    if cap = 0 then (if len = 0 ∧ 0 < w.heap.size then some (.slu Pos.first 0 0 1) else none)
    else match rowAt w a.block with
      | some _ => if len ≤ cap ∧ a.spot = none ∧ a.off < K then some (.sl (.big (a.block * K + a.off)) 0 len cap) else none
      | none => none
  | _ => none
def mapW (K : Nat) (w : World) : Mp
  | .big n => match rowAt w (n / K) with
    | some c => some ⟨n / K, n % K, c.size⟩
    | none => none
  | .mk _ _ _ _ => if 0 < w.heap.size then some ⟨0, 0, 0⟩ else none
def memW (K : Nat) (w : World) : S :=
  ⟨.mk (N16.all (N16.all (N16.all (N16.all none)))) fun n => match rowAt w (n / K) with
    | some c => some ⟨1, .ro, sayOf (cvt K w) (c.toList.drop (n % K))⟩
    | none => none, .big (w.heap.size * K), .empty, .empty⟩
section
variable {K : Nat} {w : World}
theorem div_big {b off : Nat} (h : off < K) : (b * K + off) / K = b := by
  rw [Nat.add_comm, Nat.add_mul_div_right _ _ (by omega), Nat.div_eq_of_lt h, Nat.zero_add]
theorem mod_big {b off : Nat} (h : off < K) : (b * K + off) % K = off := by
  rw [Nat.add_comm, Nat.add_mul_mod_self_right, Nat.mod_eq_of_lt h]
theorem mapW_big {b off : Nat} {c : Array Value} (h : off < K) (hc : rowAt w b = some c) : mapW K w (.big (b * K + off)) = some ⟨b, off, c.size⟩ := by
  unfold mapW
  simp only [div_big h, mod_big h, hc]
theorem cvt_rel {x : Value} {v : AVal} (h : cvt K w x = some v) : SR (mapW K w) v x := by
  unfold cvt at h
  split at h
  · cases h; exact .bool _
  · cases h; exact .int _ _
  · cases h; exact .str _ _ rfl
  · split at h
    · rename_i h0; obtain ⟨rfl, rfl⟩ := h0; cases h; exact .nsl
    · cases h
  · rename_i a len cap
    split at h
    · rename_i h0
      split at h
      · rename_i h1
        cases h
        obtain ⟨rfl, h1⟩ := h1
        refine .slu _ _ _ _ ⟨0, 0, 0⟩ a cap ?_ (by omega) (.inr ⟨rfl, h0⟩) (.inl h0)
        show (if 0 < w.heap.size then some (⟨0, 0, 0⟩ : MI) else none) = _
        rw [if_pos h1]
      · cases h
    · split at h
      · rename_i c hc
        split at h
        · rename_i h1
          cases h
          obtain ⟨h1, h2, h3⟩ := h1
          have := SR.sl (m := mapW K w) (.big (a.block * K + a.off)) 0 len cap ⟨a.block, a.off, c.size⟩ (mapW_big h3 hc) h1
          obtain ⟨b, o, s⟩ := a
          simp only at h2
          subst h2
          exact this
        · cases h
      · cases h
  · cases h
theorem memW_blk {p : Pos} {b : Blk} (h : (memW K w).blk p = some b) : ∃ n c, p = .big n ∧ rowAt w (n / K) = some c ∧ b = ⟨1, .ro, sayOf (cvt K w) (c.toList.drop (n % K))⟩ := by
  cases p with
  | mk i j k l =>
    have h0 : Tr.get (.mk i j k l) (Tr.empty : Tr Blk) = some b := h
    rw [Tr.get_empty] at h0; cases h0
  | big n =>
    have h0 : (match rowAt w (n / K) with | some c => some (⟨1, .ro, sayOf (cvt K w) (c.toList.drop (n % K))⟩ : Blk) | none => none) = some b := h
    split at h0
    · rename_i c hc; cases h0; exact ⟨n, c, rfl, hc, rfl⟩
    · cases h0
theorem memW_big {n : Nat} {c : Array Value} (h : rowAt w (n / K) = some c) : (memW K w).blk (.big n) = some ⟨1, .ro, sayOf (cvt K w) (c.toList.drop (n % K))⟩ := by
  show (match rowAt w (n / K) with | some c => some (⟨1, .ro, sayOf (cvt K w) (c.toList.drop (n % K))⟩ : Blk) | none => none) = _
  rw [h]
theorem big_lt {n : Nat} {c : Array Value} (hK : 0 < K) (h : rowAt w (n / K) = some c) : n < w.heap.size * K := by
  have := rowAt_lt h
  exact (Nat.div_lt_iff_lt_mul hK).1 this
theorem fam_memW (r : Pos) : (memW K w).fam r = [] := by
  show famOf r Tr.empty = []
  unfold famOf; rw [Tr.get_empty]
theorem maps_memW (p : Pos) : Tr.get p (memW K w).maps = none := Tr.get_empty p
theorem memW_ok (hK : 0 < K) : Ok (memW K w) := by
  refine ⟨fun p hp => ⟨?_, maps_memW p, fun r => by rw [fam_memW]; exact List.not_mem_nil⟩, fun r q b h => ?_, fun q b r vb h hk => ?_, fun _ _ => Tr.get_empty _⟩
  · cases hb : (memW K w).blk p with
    | none => rfl
    | some b =>
      obtain ⟨n, c, rfl, hc, _⟩ := memW_blk hb
      have := big_lt hK hc
      have hp : 65536 + w.heap.size * K ≤ 65536 + n := hp
      omega
  · rw [fam_memW] at h; cases h
  · obtain ⟨n, c, _, _, rfl⟩ := memW_blk h
    cases hk
theorem memW_rel (hK : 0 < K) : WR w (mapW K w) (memW K w) w := by
  refine ⟨Below.refl _ _, fun b mi h => ?_, fun b blk h => ?_, fun b b' blk blk' mi mi' h h' _ _ _ _ => ?_, fun b blk root vb h hk => ?_, fun p hp => ⟨Tr.get_empty p, fun root => ?_, fun b blk root vb h hk => ?_⟩, fun b mb h => ?_, fun b b' mb mb' mi mi' h => ?_⟩
  · cases b with
    | mk i j k l =>
      have h : (if 0 < w.heap.size then some (⟨0, 0, 0⟩ : MI) else none) = some mi := h
      split at h
      · rename_i h0
        cases h
        refine ⟨?_, h0⟩
        have h1 : Pos.nat (.mk i j k l) < 65536 := by
          show 4096 * i.nat + 256 * j.nat + 16 * k.nat + l.nat < 65536
          have := i.nat_lt; have := j.nat_lt; have := k.nat_lt; have := l.nat_lt
          omega
        show Pos.nat (.mk i j k l) < 65536 + w.heap.size * K
        omega
      · cases h
    | big n =>
      have h : (match rowAt w (n / K) with | some c => some (⟨n / K, n % K, c.size⟩ : MI) | none => none) = some mi := h
      split at h
      · rename_i c hc
        cases h
        have := big_lt hK hc
        exact ⟨by show 65536 + n < 65536 + w.heap.size * K; omega, rowAt_lt hc⟩
      · cases h
  · obtain ⟨n, c, rfl, hc, rfl⟩ := memW_blk h
    obtain ⟨t, f, hh⟩ := rowAt_eq hc
    refine ⟨⟨n / K, n % K, c.size⟩, ?_, ⟨c, t, f, hh, rfl, fun i v hv => ?_, .inl rfl⟩⟩
    · show (match rowAt w (n / K) with | some c => some (⟨n / K, n % K, c.size⟩ : MI) | none => none) = _
      rw [hc]
    · obtain ⟨x, h1, h2⟩ := sayOf_get hv
      rw [List.getElem?_drop, Array.getElem?_toList] at h1
      exact ⟨x, h1, cvt_rel h2⟩
  · obtain ⟨n, c, rfl, hc, rfl⟩ := memW_blk h
    obtain ⟨n', c', rfl, hc', rfl⟩ := memW_blk h'
    exact .inl ⟨rfl, rfl⟩
  · obtain ⟨n, c, rfl, hc, rfl⟩ := memW_blk h; cases hk
  · show p ∉ famOf root Tr.empty
    unfold famOf; rw [Tr.get_empty]; exact List.not_mem_nil
  · obtain ⟨n, c, rfl, hc, rfl⟩ := memW_blk h; cases hk
  · rw [maps_memW] at h; cases h
  · rw [maps_memW] at h; cases h
theorem sl_memW (hw : Wide K w) {a : Addr} {len cap esz : Nat} (he : 0 < esz) (hle : len ≤ cap) (hw0 : cap = 0 → 0 < w.heap.size) {R : Nat → AVal → Prop}
    (h : ∀ k, k < cap → ∀ j, j < esz → ∃ x v, w.cell? (a.add (k * esz + j)) = some x ∧ cvt K w x = some v ∧ R j v) :
    ∃ v cs mo, SR (mapW K w) v (.slice (some a) len cap) ∧ SlAt (memW K w) v esz len cs mo ∧ (esz = 1 → cvt K w (.slice (some a) len cap) = some v) ∧ ∀ k, k < len → ∀ j, j < esz → ∃ u, cs[k * esz + j]? = some u ∧ R j u := by
  cases cap with
  | zero =>
    obtain rfl : len = 0 := by omega
    refine ⟨.slu Pos.first 0 0 esz, [], 0, .slu _ _ _ _ ⟨0, 0, 0⟩ a 0 ?_ (Nat.le_refl _) (.inr ⟨rfl, rfl⟩) (.inl rfl), ⟨by simp, rfl, rfl, fun h => absurd (by simp) h⟩, fun h1 => ?_, fun k hk => by omega⟩
    · show (if 0 < w.heap.size then some (⟨0, 0, 0⟩ : MI) else none) = _
      rw [if_pos (hw0 rfl)]
    · subst h1
      unfold cvt
      simp only [if_true, hw0 rfl, true_and]
  | succ c0 =>
    obtain ⟨b, off, s⟩ := a
    obtain ⟨x, v, h1, _⟩ := h 0 (by omega) 0 he
    have hs : s = none := by simpa [Addr.add] using World.cell?_spot h1
    subst hs
    rw [WideShapes.add_plain] at h1
    obtain ⟨c, hc, hcx⟩ := cell_rowAt h1
    have hlt := (Array.getElem?_eq_some_iff.1 hcx).1
    have hK := hw b c hc
    have hoff : off < K := by omega
    have hcl : ∀ i, i < (c0 + 1) * esz → ∃ x v, (c.toList.drop off)[i]? = some x ∧ cvt K w x = some v ∧ R (i % esz) v := fun i hi => by
      have hq : i / esz < c0 + 1 := (Nat.div_lt_iff_lt_mul he).2 hi
      obtain ⟨x, v, g1, g2, g3⟩ := h (i / esz) hq (i % esz) (Nat.mod_lt _ he)
      rw [Nat.mul_comm, Nat.div_add_mod, WideShapes.add_plain] at g1
      obtain ⟨c', hc', hcx'⟩ := cell_rowAt g1
      rw [hc] at hc'; cases hc'
      exact ⟨x, v, by rw [List.getElem?_drop, Array.getElem?_toList]; exact hcx', g2, g3⟩
    have hlen : (c0 + 1) * esz ≤ (sayOf (cvt K w) (c.toList.drop off)).length := sayOf_len fun i hi => by
      obtain ⟨x, v, g1, g2, _⟩ := hcl i hi; exact ⟨x, v, g1, g2⟩
    have hle' : len * esz ≤ (c0 + 1) * esz := Nat.mul_le_mul_right _ hle
    have hbl : (memW K w).blk (.big (b * K + off)) = some ⟨1, .ro, sayOf (cvt K w) (c.toList.drop off)⟩ := by
      rw [memW_big (c := c) (by rw [div_big hoff]; exact hc), mod_big hoff]
    refine ⟨.sl (.big (b * K + off)) 0 len (c0 + 1), (sayOf (cvt K w) (c.toList.drop off)).take (len * esz), (Pos.big (b * K + off)).nat, ?_, ⟨?_, rfl, hle, fun _ => ⟨_, hbl, rfl, ?_, ?_⟩⟩, fun _ => ?_, fun k hk j hj => ?_⟩
    · exact SR.sl (m := mapW K w) (.big (b * K + off)) 0 len (c0 + 1) ⟨b, off, c.size⟩ (mapW_big hoff hc) hle
    · rw [List.length_take]; omega
    · show 0 + len * esz ≤ (sayOf (cvt K w) (c.toList.drop off)).length; omega
    · show ((sayOf (cvt K w) (c.toList.drop off)).drop 0).take (len * esz) = _
      rw [List.drop_zero]
    · unfold cvt
      simp only [Nat.add_one_ne_zero, if_false, hc]
      rw [if_pos ⟨hle, trivial, hoff⟩]
    · have hkj : k * esz + j < len * esz := by
        have : (k + 1) * esz ≤ len * esz := Nat.mul_le_mul_right _ hk
        rw [Nat.add_mul] at this; omega
      have hm : (k * esz + j) % esz = j := by rw [Nat.add_comm, Nat.add_mul_mod_self_right, Nat.mod_eq_of_lt hj]
      rw [List.getElem?_take_of_lt hkj]
      obtain ⟨x, v, g1, g2, g3⟩ := hcl (k * esz + j) (by omega)
      rw [hm] at g3
      obtain ⟨u, hu⟩ : ∃ u, (sayOf (cvt K w) (c.toList.drop off))[k * esz + j]? = some u := ⟨_, List.getElem?_eq_getElem (by omega)⟩
      obtain ⟨x', g1', g2'⟩ := sayOf_get hu
      rw [g1] at g1'; cases g1'
      rw [g2] at g2'; cases g2'
      exact ⟨_, hu, g3⟩
theorem heap_pos {a : Addr} {x : Value} (h : w.cell? a = some x) : 0 < w.heap.size := by
  have hs := World.cell?_spot h
  obtain ⟨b, o, s⟩ := a
  have hs : s = none := hs
  subst hs
  obtain ⟨c, hc, _⟩ := cell_rowAt h
  exact Nat.lt_of_le_of_lt (Nat.zero_le _) (rowAt_lt hc)
theorem sl_trod {H : Type} {enc : TypeId × Value → H} {P : Program} {t e : TypeId} {held : Bool} (hw : Wide K w) (ht : P.underlying t = some (.slice e)) (hp : 0 < P.cellsOf e) {cs0 : List Value} {x : DataW H × List MemPlace} {fuel : Nat}
    (hz : ∀ ad len cap, cs0 = [.slice (some ad) len cap] → cap = 0 → 0 < w.heap.size) (hd : DataW.trod enc P w 0 (fun _ => true) held fuel t cs0 = some x) {R : Nat → AVal → Prop}
    (hc : 0 < w.heap.size → ∀ fuel cs x, cs.length = P.cellsOf e → DataW.trod enc P w 0 (fun _ => true) held fuel e cs = some x → ∀ j, j < P.cellsOf e → ∃ y v, cs[j]? = some y ∧ cvt K w y = some v ∧ R j v) :
    ∃ X v n cs mo, cs0 = [X] ∧ SR (mapW K w) v X ∧ SlAt (memW K w) v (P.cellsOf e) n cs mo ∧ (P.cellsOf e = 1 → cvt K w X = some v) ∧ (∀ k, k < n → ∀ j, j < P.cellsOf e → ∃ u, cs[k * P.cellsOf e + j]? = some u ∧ R j u) ∧
      ((x.1 = .nil ∧ n = 0) ∨ ∃ es sp, x.1 = .slice es sp ∧ es.length = n) := by
  rcases DataW.trod_slice ht hd with ⟨rfl, hx⟩ | ⟨ad, len, cap, elems, rest, n, _, rfl, hx, _, hle, _, hl, he, hr, _⟩
  · exact ⟨_, .nsl, 0, [], 0, rfl, .nsl, ⟨by simp, rfl⟩, fun _ => rfl, fun k hk => by omega, .inl ⟨by rw [hx], rfl⟩⟩
  · obtain ⟨hr1, hr2⟩ := hr rfl
    have row : ∀ k, k < cap → ∃ cs y, w.cells? 0 (ad.add (k * P.cellsOf e)) (P.cellsOf e) = some cs ∧ DataW.trod enc P w 0 (fun _ => true) held n e cs = some y := by
      intro k hk
      have hrow : ∃ y, (w.cells? 0 (ad.add (k * P.cellsOf e)) (P.cellsOf e)).bind (DataW.trod enc P w 0 (fun _ => true) held n e) = some y := by
        by_cases hkl : k < len
        · rw [he k hkl]
          exact ⟨_, List.getElem?_eq_getElem (by omega)⟩
        · have := hr2 (k - len) (by omega)
          rw [show len + (k - len) = k by omega] at this
          rw [this]
          exact ⟨_, List.getElem?_eq_getElem (by omega)⟩
      obtain ⟨y, hy⟩ := hrow
      obtain ⟨cs, h1, h2⟩ := Option.bind_eq_some_iff.1 hy
      exact ⟨cs, y, h1, h2⟩
    have hsp : cap ≠ 0 → ad.spot = none := by
      intro h0
      obtain ⟨cs, y, h1, h2⟩ := row 0 (by omega)
      obtain ⟨_, g1, g2⟩ := World.cells?_some h1
      have := g2 0 hp
      rw [List.getElem?_eq_getElem (by omega)] at this
      have := World.cell?_spot this
      simpa [Addr.add] using this
    have key : ∀ k, k < cap → ∀ j, j < P.cellsOf e → ∃ x v, w.cell? (ad.add (k * P.cellsOf e + j)) = some x ∧ cvt K w x = some v ∧ R j v := by
      intro k hk j hj
      obtain ⟨cs, y, h1, h2⟩ := row k hk
      obtain ⟨_, g1, g2⟩ := World.cells?_some h1
      have hpos : 0 < w.heap.size := heap_pos (x := cs[0]) (by rw [g2 0 hp, List.getElem?_eq_getElem])
      obtain ⟨z, v, h3, h4, h5⟩ := hc hpos n cs y g1 h2 j hj
      refine ⟨z, v, ?_, h4, h5⟩
      have := g2 j hj
      rw [h3] at this
      have hsp := hsp (by omega)
      obtain ⟨b, off, s⟩ := ad
      simp only at hsp
      subst hsp
      simp only [WideShapes.add_plain] at this ⊢
      rw [← this, Nat.add_assoc]
    obtain ⟨v, cs, mo, h1, h2, h3, h4⟩ := sl_memW (K := K) hw hp hle (fun h0 => hz ad len cap rfl h0) key
    exact ⟨_, v, len, cs, mo, rfl, h1, h2, h3, h4, .inr ⟨_, _, by rw [hx], by simp [hl]⟩⟩
theorem okWide_room {P : Program} {r : Reach} {base : Nat} {t e : TypeId} {X : Value} (ht : P.underlying t = some (.slice e)) (h : Value.okWide P w r base t X) : ∃ a len cap, X = .slice a len cap ∧ ∀ ad, a = some ad → 0 < w.heap.size := by
  obtain ⟨a, len, cap, rfl⟩ := WideShapes.okWide_slice ht h
  refine ⟨a, len, cap, rfl, fun ad had => ?_⟩
  subst had
  unfold Value.okWide at h
  rw [ht] at h
  have h : Cell.okWide P w r base t (.slice (some ad) len cap) := h
  unfold Cell.okWide at h
  rw [ht] at h
  have h : Cell.ok P w r base t (.slice (some ad) len cap) := h
  unfold Cell.ok at h
  rw [ht] at h
  have h : len ≤ cap ∧ (cap : Int) ≤ IntKind.i64.max ∧ w.has P r base ad e cap := h
  obtain ⟨_, _, _, _, row, cells, hs, _⟩ := h
  unfold World.shape? at hs
  by_cases h0 : 0 < w.heap.size
  · exact h0
  · have : w.heap[ad.block]? = none := Array.getElem?_eq_none (by omega)
    rw [this] at hs; cases hs
theorem sl_arg {H : Type} {enc : TypeId × Value → H} {P : Program} {r : Reach} {base : Nat} {t e : TypeId} {held : Bool} (hw : Wide K w) (ht : P.underlying t = some (.slice e)) {X : Value} {d : DataW H} {ps : List MemPlace} (hp : 0 < P.cellsOf e)
    (hok : Value.okWide P w r base t X) (hd : DataW.Trod enc P w 0 (fun _ => true) held t X d ps) {R : Nat → AVal → Prop}
    (hc : 0 < w.heap.size → ∀ fuel cs x, cs.length = P.cellsOf e → DataW.trod enc P w 0 (fun _ => true) held fuel e cs = some x → ∀ j, j < P.cellsOf e → ∃ y v, cs[j]? = some y ∧ cvt K w y = some v ∧ R j v) :
    ∃ v n cs mo, SR (mapW K w) v X ∧ SlAt (memW K w) v (P.cellsOf e) n cs mo ∧ (∀ k, k < n → ∀ j, j < P.cellsOf e → ∃ u, cs[k * P.cellsOf e + j]? = some u ∧ R j u) ∧
      ((d = .nil ∧ n = 0) ∨ ∃ es sp, d = .slice es sp ∧ es.length = n) := by
  obtain ⟨a, len, cap, rfl, hz⟩ := okWide_room ht hok
  obtain ⟨fuel, hf⟩ := hd
  obtain ⟨X', v, n, cs, mo, h1, h2, h3, _, h5, h6⟩ := sl_trod hw ht hp (fun ad len' cap' h _ => by
    simp [Value.cells] at h
    exact hz ad h.1) hf hc
  simp [Value.cells] at h1
  subst h1
  exact ⟨v, n, cs, mo, h2, h3, h5, h6⟩
theorem bytesV_of {n : Nat} : ∀ {cs : List AVal}, cs.length = n → (∀ k, k < n → ∃ b, b < 256 ∧ cs[k]? = some (.int .u8 (Int.ofNat b))) → ∃ bs : List Nat, bytesV bs = cs ∧ Bytes bs ∧ bs.length = n := by
  induction n with
  | zero => intro cs h _; exact ⟨[], by rw [List.length_eq_zero_iff.1 h]; rfl, Bytes.nil, rfl⟩
  | succ n ih =>
    intro cs h hk
    cases cs with
    | nil => simp at h
    | cons c cs =>
      obtain ⟨b, h1, h2⟩ := hk 0 (by omega)
      obtain ⟨bs, g1, g2, g3⟩ := ih (cs := cs) (by simpa using h) fun k hk' => by
        obtain ⟨b, h1, h2⟩ := hk (k + 1) (by omega)
        exact ⟨b, h1, by simpa using h2⟩
      refine ⟨b :: bs, ?_, fun x hx => ?_, by simp [g3]⟩
      · simp at h2
        rw [h2, ← g1]; rfl
      · rcases List.mem_cons.1 hx with rfl | hx
        · exact h1
        · exact g2 x hx
theorem u8_of {n : Int} (h : (Lit.int .u8 n).wf = true) : ∃ b : Nat, b < 256 ∧ n = Int.ofNat b := by
  have h : (decide (IntKind.u8.min ≤ n) && decide (n ≤ IntKind.u8.max)) = true := h
  simp only [Bool.and_eq_true, decide_eq_true_eq] at h
  have h1 : (0 : Int) ≤ n := h.1
  have h2 : n ≤ 255 := h.2
  exact ⟨n.toNat, by omega, by show n = ((n.toNat : Nat) : Int); omega⟩
theorem by_arg {H : Type} {enc : TypeId × Value → H} {P : Program} {r : Reach} {base : Nat} {t e : TypeId} {held : Bool} (hw : Wide K w) (ht : P.underlying t = some (.slice e)) (he : P.underlying e = some (.int .u8)) (hp : P.cellsOf e = 1) {X : Value} {d : DataW H} {ps : List MemPlace}
    (hok : Value.okWide P w r base t X) (hd : DataW.Trod enc P w 0 (fun _ => true) held t X d ps) :
    ∃ v bs mo, SR (mapW K w) v X ∧ BySl (memW K w) v bs mo ∧ Bytes bs ∧ ((d = .nil ∧ bs.length = 0) ∨ ∃ es sp, d = .slice es sp ∧ es.length = bs.length) := by
  obtain ⟨v, n, cs, mo, h1, h2, h3, h4⟩ := sl_arg (R := fun _ v => ∃ b : Nat, b < 256 ∧ v = .int .u8 (Int.ofNat b)) hw ht (by omega) hok hd (fun _ fuel cs x hl hx j hj => by
    obtain ⟨n, rfl, _, hwf⟩ := DataW.trod_int he hx
    obtain ⟨b, hb, rfl⟩ := u8_of hwf
    obtain rfl : j = 0 := by omega
    exact ⟨_, _, rfl, rfl, b, hb, rfl⟩)
  rw [hp] at h2 h3
  obtain ⟨bs, g1, g2, rfl⟩ := bytesV_of (cs := cs) (n := n) (by rw [h2.1]; omega) fun k hk => by
    obtain ⟨u, hu, b, hb, rfl⟩ := h3 k hk 0 (by omega)
    exact ⟨b, hb, by simpa using hu⟩
  subst g1
  exact ⟨v, bs, mo, h1, h2, g2, h4⟩
end
end Go.Am
