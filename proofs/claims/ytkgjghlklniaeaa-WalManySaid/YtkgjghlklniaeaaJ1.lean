/-
  What a world holds ahead of a call, as the evaluator's memory. Conditions: none.
-/
import Derived.Test.YtkgjghlklniaeaaJ0
import Derived.Test.YtkgjghlklniaeaaC0
import Derived.ChangeShapes
namespace Go.Am
open Go.RowKit (Below)
def sayOf (f : Value → Option AVal) : List Value → List AVal
  | [] => []
  | x :: l => match f x with
    | some v => v :: sayOf f l
    | none => []
theorem sayOf_get {f : Value → Option AVal} : ∀ {l : List Value} {i : Nat} {v : AVal}, (sayOf f l)[i]? = some v → ∃ x, l[i]? = some x ∧ f x = some v
  | [], _, _, h => by simp [sayOf] at h
  | x :: l, i, v, h => by
    unfold sayOf at h
    split at h
    · rename_i u hu
      cases i with
      | zero => simp at h; subst h; exact ⟨x, rfl, hu⟩
      | succ i => simp at h; simpa using sayOf_get h
    · simp at h
def rowAt (w : World) (b : Nat) : Option (Array Value) := match w.heap[b]? with
  | some (.cells c _ _) => some c
  | _ => none
theorem rowAt_eq {w : World} {b : Nat} {c : Array Value} (h : rowAt w b = some c) : ∃ t f, w.heap[b]? = some (.cells c t f) := by
  unfold rowAt at h
  split at h
  · rename_i c' t f hc; cases h; exact ⟨t, f, hc⟩
  · cases h
theorem rowAt_lt {w : World} {b : Nat} {c : Array Value} (h : rowAt w b = some c) : b < w.heap.size := by
  obtain ⟨t, f, h⟩ := rowAt_eq h
  exact (Array.getElem?_eq_some_iff.1 h).1
def Wide (K : Nat) (w : World) : Prop := ∀ b c, rowAt w b = some c → c.size < K
theorem wide_ex (w : World) : ∃ K, Wide K w := by
  have key : ∀ n : Nat, ∃ K, ∀ b c, b < n → rowAt w b = some c → c.size < K := by
    intro n
    induction n with
    | zero => exact ⟨0, fun b c h => by omega⟩
    | succ n ih =>
      obtain ⟨K, hK⟩ := ih
      cases hr : rowAt w n with
      | none => exact ⟨K, fun b c hb hc => by
          by_cases e : b = n
          · subst e; rw [hr] at hc; cases hc
          · exact hK b c (by omega) hc⟩
      | some d => exact ⟨K + d.size + 1, fun b c hb hc => by
          by_cases e : b = n
          · subst e; rw [hr] at hc; cases hc; omega
          · have := hK b c (by omega) hc; omega⟩
  obtain ⟨K, hK⟩ := key w.heap.size
  exact ⟨K, fun b c hc => hK b c (rowAt_lt hc) hc⟩
def cvt (K : Nat) (w : World) : Value → Option AVal
  | .bool b => some (.bool b)
  | .int k n => some (.int k n)
  | .string t => some (.str (t.data.toList.map (·.toNat)))
  | .slice none len cap => if len = 0 ∧ cap = 0 then some .nsl else none
  | .slice (some a) len cap =>
    if cap = 0 then (if len = 0 ∧ 0 < w.heap.size then some (.slu Pos.first 0 0 1) else none)
    else match rowAt w a.block with
      | some _ => if len ≤ cap ∧ a.spot = none ∧ a.off < K then some (.sl (.big (a.block * K + a.off)) 0 len cap) else none
      | none => none
  | _ => none
def mapW (K : Nat) (w : World) : Mp
  | .big n => match rowAt w (n / K) with
    | some c => some ⟨n / K, n % K, c.size⟩
    | none => none
  | .mk _ _ _ _ => if 0 < w.heap.size then some ⟨0, 0, 0⟩ else none
def memW (K : Nat) (w : World) : S :=
  ⟨.mk (N16.all (N16.all (N16.all (N16.all none)))) fun n => match rowAt w (n / K) with
    | some c => some ⟨1, .ro, sayOf (cvt K w) (c.toList.drop (n % K))⟩
    | none => none, .big (w.heap.size * K), .empty, .empty⟩
section
variable {K : Nat} {w : World}
theorem div_big {b off : Nat} (h : off < K) : (b * K + off) / K = b := by
  rw [Nat.add_comm, Nat.add_mul_div_right _ _ (by omega), Nat.div_eq_of_lt h, Nat.zero_add]
theorem mod_big {b off : Nat} (h : off < K) : (b * K + off) % K = off := by
  rw [Nat.add_comm, Nat.add_mul_mod_self_right, Nat.mod_eq_of_lt h]
theorem mapW_big {b off : Nat} {c : Array Value} (h : off < K) (hc : rowAt w b = some c) : mapW K w (.big (b * K + off)) = some ⟨b, off, c.size⟩ := by
  unfold mapW
  simp only [div_big h, mod_big h, hc]
theorem cvt_rel {x : Value} {v : AVal} (h : cvt K w x = some v) : SR (mapW K w) v x := by
  unfold cvt at h
  split at h
  · cases h; exact .bool _
  · cases h; exact .int _ _
  · cases h; exact .str _ _ rfl
  · split at h
    · rename_i h0; obtain ⟨rfl, rfl⟩ := h0; cases h; exact .nsl
    · cases h
  · rename_i a len cap
    split at h
    · rename_i h0
      split at h
      · rename_i h1
        cases h
        obtain ⟨rfl, h1⟩ := h1
        refine .slu _ _ _ _ ⟨0, 0, 0⟩ a cap ?_ (by omega) (.inr ⟨rfl, h0⟩) (.inl h0)
        show (if 0 < w.heap.size then some (⟨0, 0, 0⟩ : MI) else none) = _
        rw [if_pos h1]
      · cases h
    · split at h
      · rename_i c hc
        split at h
        · rename_i h1
          cases h
          obtain ⟨h1, h2, h3⟩ := h1
          have := SR.sl (m := mapW K w) (.big (a.block * K + a.off)) 0 len cap ⟨a.block, a.off, c.size⟩ (mapW_big h3 hc) h1
          obtain ⟨b, o, s⟩ := a
          simp only at h2
          subst h2
          exact this
        · cases h
      · cases h
  · cases h
theorem memW_blk {p : Pos} {b : Blk} (h : (memW K w).blk p = some b) : ∃ n c, p = .big n ∧ rowAt w (n / K) = some c ∧ b = ⟨1, .ro, sayOf (cvt K w) (c.toList.drop (n % K))⟩ := by
  cases p with
  | mk i j k l =>
    have h0 : Tr.get (.mk i j k l) (Tr.empty : Tr Blk) = some b := h
    rw [Tr.get_empty] at h0; cases h0
  | big n =>
    have h0 : (match rowAt w (n / K) with | some c => some (⟨1, .ro, sayOf (cvt K w) (c.toList.drop (n % K))⟩ : Blk) | none => none) = some b := h
    split at h0
    · rename_i c hc; cases h0; exact ⟨n, c, rfl, hc, rfl⟩
    · cases h0
theorem big_lt {n : Nat} {c : Array Value} (hK : 0 < K) (h : rowAt w (n / K) = some c) : n < w.heap.size * K := by
  have := rowAt_lt h
  exact (Nat.div_lt_iff_lt_mul hK).1 this
theorem fam_memW (r : Pos) : (memW K w).fam r = [] := by
  show famOf r Tr.empty = []
  unfold famOf; rw [Tr.get_empty]
theorem maps_memW (p : Pos) : Tr.get p (memW K w).maps = none := Tr.get_empty p
theorem memW_ok (hK : 0 < K) : Ok (memW K w) := by
  refine ⟨fun p hp => ⟨?_, maps_memW p, fun r => by rw [fam_memW]; exact List.not_mem_nil⟩, fun r q b h => ?_, fun q b r vb h hk => ?_, fun _ _ => Tr.get_empty _⟩
  · cases hb : (memW K w).blk p with
    | none => rfl
    | some b =>
      obtain ⟨n, c, rfl, hc, _⟩ := memW_blk hb
      have := big_lt hK hc
      have hp : 65536 + w.heap.size * K ≤ 65536 + n := hp
      omega
  · rw [fam_memW] at h; cases h
  · obtain ⟨n, c, _, _, rfl⟩ := memW_blk h
    cases hk
theorem memW_rel (hK : 0 < K) : WR w (mapW K w) (memW K w) w := by
  refine ⟨Below.refl _ _, fun b mi h => ?_, fun b blk h => ?_, fun b b' blk blk' mi mi' h h' _ _ _ _ => ?_, fun b blk root vb h hk => ?_, fun p hp => ⟨Tr.get_empty p, fun root => ?_, fun b blk root vb h hk => ?_⟩, fun b mb h => ?_, fun b b' mb mb' mi mi' h => ?_⟩
  · cases b with
    | mk i j k l =>
      have h : (if 0 < w.heap.size then some (⟨0, 0, 0⟩ : MI) else none) = some mi := h
      split at h
      · rename_i h0
        cases h
        refine ⟨?_, h0⟩
        have h1 : Pos.nat (.mk i j k l) < 65536 := by
          show 4096 * i.nat + 256 * j.nat + 16 * k.nat + l.nat < 65536
          have := i.nat_lt; have := j.nat_lt; have := k.nat_lt; have := l.nat_lt
          omega
        show Pos.nat (.mk i j k l) < 65536 + w.heap.size * K
        omega
      · cases h
    | big n =>
      have h : (match rowAt w (n / K) with | some c => some (⟨n / K, n % K, c.size⟩ : MI) | none => none) = some mi := h
      split at h
      · rename_i c hc
        cases h
        have := big_lt hK hc
        exact ⟨by show 65536 + n < 65536 + w.heap.size * K; omega, rowAt_lt hc⟩
      · cases h
  · obtain ⟨n, c, rfl, hc, rfl⟩ := memW_blk h
    obtain ⟨t, f, hh⟩ := rowAt_eq hc
    refine ⟨⟨n / K, n % K, c.size⟩, ?_, ⟨c, t, f, hh, rfl, fun i v hv => ?_, .inl rfl⟩⟩
    · show (match rowAt w (n / K) with | some c => some (⟨n / K, n % K, c.size⟩ : MI) | none => none) = _
      rw [hc]
    · obtain ⟨x, h1, h2⟩ := sayOf_get hv
      rw [List.getElem?_drop, Array.getElem?_toList] at h1
      exact ⟨x, h1, cvt_rel h2⟩
  · obtain ⟨n, c, rfl, hc, rfl⟩ := memW_blk h
    obtain ⟨n', c', rfl, hc', rfl⟩ := memW_blk h'
    exact .inl ⟨rfl, rfl⟩
  · obtain ⟨n, c, rfl, hc, rfl⟩ := memW_blk h; cases hk
  · show p ∉ famOf root Tr.empty
    unfold famOf; rw [Tr.get_empty]; exact List.not_mem_nil
  · obtain ⟨n, c, rfl, hc, rfl⟩ := memW_blk h; cases hk
  · rw [maps_memW] at h; cases h
  · rw [maps_memW] at h; cases h
end
end Go.Am
