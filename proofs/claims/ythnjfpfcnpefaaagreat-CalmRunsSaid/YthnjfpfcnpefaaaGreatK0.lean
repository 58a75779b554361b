/-
  The data of the evaluator: names of blocks and of temporaries, tables by such names, values, the state; and how they are laid ready. Conditions: none.
-/
import Derived.Orders
import Derived.Below
namespace Go.Am

/-- A digit. -/
inductive D where
  | a1 | a2 | a3 | a4 | a5 | a6 | a7 | a8 | a9 | a10 | a11 | a12 | a13 | a14 | a15 | a16
def D.nat (i : D) : Nat := match i with
  | .a1 => 0
  | .a2 => 1
  | .a3 => 2
  | .a4 => 3
  | .a5 => 4
  | .a6 => 5
  | .a7 => 6
  | .a8 => 7
  | .a9 => 8
  | .a10 => 9
  | .a11 => 10
  | .a12 => 11
  | .a13 => 12
  | .a14 => 13
  | .a15 => 14
  | .a16 => 15
def D.eq (i j : D) : Bool := Nat.beq i.nat j.nat
def D.of (n : Nat) : D := match n with
  | 0 => .a1
  | 1 => .a2
  | 2 => .a3
  | 3 => .a4
  | 4 => .a5
  | 5 => .a6
  | 6 => .a7
  | 7 => .a8
  | 8 => .a9
  | 9 => .a10
  | 10 => .a11
  | 11 => .a12
  | 12 => .a13
  | 13 => .a14
  | 14 => .a15
  | _ => .a16
/-- Names of blocks: five digits, the highest first; behind these whole numbers. -/
inductive Pos where
  | mk (h i j k l : D)
  | big (n : Nat)
/-- Names of temporaries. -/
inductive Slot where
  | mk (i j : D)
def Pos.nat (p : Pos) : Nat := match p with
  | .mk h i j k l => 65536 * h.nat + 4096 * i.nat + 256 * j.nat + 16 * k.nat + l.nat
  | .big n => 1048576 + n
def Slot.nat (p : Slot) : Nat := match p with
  | .mk i j => 16 * i.nat + j.nat
/-- The next digit. -/
noncomputable def D.nextK {R : Type} (i : D) (k : D → R) (o : R) : R := @D.rec (fun _ => R) (k .a2) (k .a3) (k .a4) (k .a5) (k .a6) (k .a7) (k .a8) (k .a9) (k .a10) (k .a11) (k .a12) (k .a13) (k .a14) (k .a15) (k .a16) o i
noncomputable def Pos.nextK {R : Type} (p : Pos) (f : Pos → Option R) : Option R :=
  @Pos.rec (fun _ => Option R) (fun h i j k l => D.nextK l (fun l => f (.mk h i j k l)) (D.nextK k (fun k => f (.mk h i j k .a1)) (D.nextK j (fun j => f (.mk h i j .a1 .a1)) (D.nextK i (fun i => f (.mk h i .a1 .a1 .a1)) (D.nextK h (fun h => f (.mk h .a1 .a1 .a1 .a1)) (f (.big 0))))))) (fun n => f (.big (Nat.succ n))) p
def Pos.first : Pos := .mk .a1 .a1 .a1 .a1 .a1
def D.next (i : D) : Option D := match i with
  | .a1 => some .a2
  | .a2 => some .a3
  | .a3 => some .a4
  | .a4 => some .a5
  | .a5 => some .a6
  | .a6 => some .a7
  | .a7 => some .a8
  | .a8 => some .a9
  | .a9 => some .a10
  | .a10 => some .a11
  | .a11 => some .a12
  | .a12 => some .a13
  | .a13 => some .a14
  | .a14 => some .a15
  | .a15 => some .a16
  | .a16 => none
def Pos.succ (p : Pos) : Pos := match p with
  | .mk h i j k l => match l.next with
    | some l => .mk h i j k l
    | none => match k.next with
      | some k => .mk h i j k .a1
      | none => match j.next with
        | some j => .mk h i j .a1 .a1
        | none => match i.next with
          | some i => .mk h i .a1 .a1 .a1
          | none => match h.next with
            | some h => .mk h .a1 .a1 .a1 .a1
            | none => .big 0
  | .big n => .big (Nat.succ n)
def Pos.next (p : Pos) : Option Pos := some p.succ
def Pos.ofNat (n : Nat) : Option Pos := if n < 1048576 then some (.mk (D.of (n / 65536)) (D.of (n / 4096 % 16)) (D.of (n / 256 % 16)) (D.of (n / 16 % 16)) (D.of (n % 16))) else some (.big (n - 1048576))
def Slot.of (n : Nat) : Option Slot := if n < 256 then some (.mk (D.of (n / 16)) (D.of (n % 16))) else none
noncomputable def D.eqK (i j : D) : Bool := Nat.beq (@D.rec (fun _ => Nat) 0 1 2 3 4 5 6 7 8 9 10 11 12 13 14 15 i) (@D.rec (fun _ => Nat) 0 1 2 3 4 5 6 7 8 9 10 11 12 13 14 15 j)
noncomputable def Pos.beq (p q : Pos) : Bool :=
  @Pos.rec (fun _ => Bool) (fun h i j k l => @Pos.rec (fun _ => Bool) (fun h' i' j' k' l' => @Bool.rec (fun _ => Bool) false (@Bool.rec (fun _ => Bool) false (@Bool.rec (fun _ => Bool) false (@Bool.rec (fun _ => Bool) false (D.eqK h h') (D.eqK i i')) (D.eqK j j')) (D.eqK k k')) (D.eqK l l')) (fun _ => false) q) (fun n => @Pos.rec (fun _ => Bool) (fun _ _ _ _ _ => false) (fun m => Nat.beq n m) q) p
theorem D.nat_a1 : D.nat .a1 = 0 := rfl
theorem D.nat_lt (i : D) : i.nat < 16 := by cases i <;> simp [D.nat]
theorem D.nat_inj {i j : D} (h : i.nat = j.nat) : i = j := by
  cases i <;> cases j <;> first | rfl | (simp [D.nat] at h)
theorem D.of_nat {n : Nat} (h : n < 16) : (D.of n).nat = n := by
  have : n = 0 ∨ n = 1 ∨ n = 2 ∨ n = 3 ∨ n = 4 ∨ n = 5 ∨ n = 6 ∨ n = 7 ∨ n = 8 ∨ n = 9 ∨ n = 10 ∨ n = 11 ∨ n = 12 ∨ n = 13 ∨ n = 14 ∨ n = 15 := by omega
  rcases this with rfl | rfl | rfl | rfl | rfl | rfl | rfl | rfl | rfl | rfl | rfl | rfl | rfl | rfl | rfl | rfl <;> rfl
theorem D.eqK_eq (i j : D) : D.eqK i j = Nat.beq i.nat j.nat := by cases i <;> cases j <;> rfl
theorem D.eqK_iff {i j : D} : D.eqK i j = true ↔ i = j := by
  rw [D.eqK_eq]; exact ⟨fun h => D.nat_inj (Nat.eq_of_beq_eq_true h), fun h => by subst h; exact Nat.beq_refl _⟩
theorem D.nextK_eq {R : Type} (i : D) (k : D → R) (o : R) : D.nextK i k o = match i.next with | some j => k j | none => o := by cases i <;> rfl
theorem D.next_nat {i j : D} (h : i.next = some j) : j.nat = i.nat + 1 := by cases i <;> simp [D.next] at h <;> subst h <;> rfl
theorem Pos.nextK_eq {R : Type} (p : Pos) (f : Pos → Option R) : p.nextK f = match p.next with | some q => f q | none => none := by
  cases p with
  | big n => rfl
  | mk h i j k l =>
    show D.nextK l (fun l => f (.mk h i j k l)) (D.nextK k (fun k => f (.mk h i j k .a1)) (D.nextK j (fun j => f (.mk h i j .a1 .a1)) (D.nextK i (fun i => f (.mk h i .a1 .a1 .a1)) (D.nextK h (fun h => f (.mk h .a1 .a1 .a1 .a1)) (f (.big 0)))))) = f (Pos.succ (.mk h i j k l))
    rw [D.nextK_eq, D.nextK_eq, D.nextK_eq, D.nextK_eq, D.nextK_eq]
    simp only [Pos.succ]
    cases l.next <;> cases k.next <;> cases j.next <;> cases i.next <;> cases h.next <;> rfl
theorem Pos.nextK_succ {R : Type} (p : Pos) (f : Pos → Option R) : p.nextK f = f p.succ := Pos.nextK_eq p f
theorem D.next_none {i : D} (h : i.next = none) : i.nat = 15 := by cases i <;> simp [D.next] at h <;> rfl
theorem Pos.succ_nat (p : Pos) : p.succ.nat = p.nat + 1 := by
  cases p with
  | big n => show 1048576 + (n + 1) = 1048576 + n + 1; omega
  | mk h i j k l =>
    simp only [Pos.succ]
    cases hl : l.next with
    | some l' => have := D.next_nat hl; simp only [Pos.nat]; omega
    | none =>
      have hl' := D.next_none hl
      simp only
      cases hk : k.next with
      | some k' => have := D.next_nat hk; simp only [Pos.nat, D.nat_a1]; omega
      | none =>
        have hk' := D.next_none hk
        simp only
        cases hj : j.next with
        | some j' => have := D.next_nat hj; simp only [Pos.nat, D.nat_a1]; omega
        | none =>
          have hj' := D.next_none hj
          simp only
          cases hi : i.next with
          | some i' => have := D.next_nat hi; simp only [Pos.nat, D.nat_a1]; omega
          | none =>
            have hi' := D.next_none hi
            simp only
            cases hh : h.next with
            | some h' => have := D.next_nat hh; simp only [Pos.nat, D.nat_a1]; omega
            | none => have hh' := D.next_none hh; simp only [Pos.nat]; omega
theorem Pos.next_nat {p q : Pos} (h : p.next = some q) : q.nat = p.nat + 1 := by
  cases h; exact p.succ_nat
theorem Pos.nat_inj {p q : Pos} (h : p.nat = q.nat) : p = q := by
  cases p with
  | big n => cases q with
    | big m => simp only [Pos.nat] at h; rw [show n = m by omega]
    | mk h' i' j' k' l' =>
      have := D.nat_lt h'; have := D.nat_lt i'; have := D.nat_lt j'; have := D.nat_lt k'; have := D.nat_lt l'
      simp only [Pos.nat] at h; omega
  | mk h0 i j k l =>
    have := D.nat_lt h0; have := D.nat_lt i; have := D.nat_lt j; have := D.nat_lt k; have := D.nat_lt l
    cases q with
    | big m => simp only [Pos.nat] at h; omega
    | mk h' i' j' k' l' =>
      have := D.nat_lt h'; have := D.nat_lt i'; have := D.nat_lt j'; have := D.nat_lt k'; have := D.nat_lt l'
      simp only [Pos.nat] at h
      have e0 : h0.nat = h'.nat := by omega
      have e1 : i.nat = i'.nat := by omega
      have e2 : j.nat = j'.nat := by omega
      have e3 : k.nat = k'.nat := by omega
      have e4 : l.nat = l'.nat := by omega
      rw [D.nat_inj e0, D.nat_inj e1, D.nat_inj e2, D.nat_inj e3, D.nat_inj e4]
theorem Slot.nat_inj {p q : Slot} (h : p.nat = q.nat) : p = q := by
  obtain ⟨i, j⟩ := p; obtain ⟨i', j'⟩ := q
  have := D.nat_lt i; have := D.nat_lt j
  have := D.nat_lt i'; have := D.nat_lt j'
  simp only [Slot.nat] at h
  have e1 : i.nat = i'.nat := by omega
  have e2 : j.nat = j'.nat := by omega
  rw [D.nat_inj e1, D.nat_inj e2]
theorem Slot.of_nat {n : Nat} {s : Slot} (h : Slot.of n = some s) : s.nat = n := by
  unfold Slot.of at h
  split at h
  · cases h; simp only [Slot.nat]; rw [D.of_nat (by omega), D.of_nat (by omega)]; omega
  · cases h
theorem Slot.of_inj {a b : Nat} {s : Slot} (ha : Slot.of a = some s) (hb : Slot.of b = some s) : a = b := by
  rw [← Slot.of_nat ha, ← Slot.of_nat hb]
theorem Pos.ofNat_nat {n : Nat} {s : Pos} (h : Pos.ofNat n = some s) : s.nat = n := by
  unfold Pos.ofNat at h
  split at h
  · cases h; simp only [Pos.nat]; rw [D.of_nat (by omega), D.of_nat (by omega), D.of_nat (by omega), D.of_nat (by omega), D.of_nat (by omega)]; omega
  · cases h; simp only [Pos.nat]; omega
theorem Pos.beq_iff {p q : Pos} : p.beq q = true ↔ p = q := by
  cases p with
  | big n => cases q with
    | big m =>
      show Nat.beq n m = true ↔ _
      exact ⟨fun h => by rw [Nat.eq_of_beq_eq_true h], fun h => by cases h; exact Nat.beq_refl _⟩
    | mk h' i' j' k' l' => exact ⟨fun h => (by cases h), fun h => (by cases h)⟩
  | mk h i j k l => cases q with
    | big m => exact ⟨fun e => (by cases e), fun e => (by cases e)⟩
    | mk h' i' j' k' l' =>
      show @Bool.rec (fun _ => Bool) false (@Bool.rec (fun _ => Bool) false (@Bool.rec (fun _ => Bool) false (@Bool.rec (fun _ => Bool) false (D.eqK h h') (D.eqK i i')) (D.eqK j j')) (D.eqK k k')) (D.eqK l l') = true ↔ _
      constructor
      · intro e
        cases hl : D.eqK l l' <;> simp only [hl] at e
        · cases e
        cases hk : D.eqK k k' <;> simp only [hk] at e
        · cases e
        cases hj : D.eqK j j' <;> simp only [hj] at e
        · cases e
        cases hi : D.eqK i i' <;> simp only [hi] at e
        · cases e
        rw [D.eqK_iff.1 hl, D.eqK_iff.1 hk, D.eqK_iff.1 hj, D.eqK_iff.1 hi, D.eqK_iff.1 e]
      · intro e; cases e
        simp only [D.eqK_iff.2 rfl]
theorem Pos.beq_refl (p : Pos) : p.beq p = true := Pos.beq_iff.2 rfl
theorem Pos.beq_false {p q : Pos} : p.beq q = false ↔ p ≠ q := by
  rw [← Bool.not_eq_true, Pos.beq_iff]
noncomputable instance : DecidableEq Pos := fun p q => if h : p.beq q = true then .isTrue (Pos.beq_iff.1 h) else .isFalse fun e => h (Pos.beq_iff.2 e)
instance : DecidableEq Slot := fun p q => if h : p.nat = q.nat then .isTrue (Slot.nat_inj h) else .isFalse fun e => h (by rw [e])

inductive N16 (α : Type) where
  | mk (c1 c2 c3 c4 c5 c6 c7 c8 c9 c10 c11 c12 c13 c14 c15 c16 : α)
section
variable {α R : Type}
noncomputable def N16.g1 (t : N16 α) : α := @N16.rec α (fun _ => α) (fun c1 _ _ _ _ _ _ _ _ _ _ _ _ _ _ _ => c1) t
noncomputable def N16.g2 (t : N16 α) : α := @N16.rec α (fun _ => α) (fun _ c2 _ _ _ _ _ _ _ _ _ _ _ _ _ _ => c2) t
noncomputable def N16.g3 (t : N16 α) : α := @N16.rec α (fun _ => α) (fun _ _ c3 _ _ _ _ _ _ _ _ _ _ _ _ _ => c3) t
noncomputable def N16.g4 (t : N16 α) : α := @N16.rec α (fun _ => α) (fun _ _ _ c4 _ _ _ _ _ _ _ _ _ _ _ _ => c4) t
noncomputable def N16.g5 (t : N16 α) : α := @N16.rec α (fun _ => α) (fun _ _ _ _ c5 _ _ _ _ _ _ _ _ _ _ _ => c5) t
noncomputable def N16.g6 (t : N16 α) : α := @N16.rec α (fun _ => α) (fun _ _ _ _ _ c6 _ _ _ _ _ _ _ _ _ _ => c6) t
noncomputable def N16.g7 (t : N16 α) : α := @N16.rec α (fun _ => α) (fun _ _ _ _ _ _ c7 _ _ _ _ _ _ _ _ _ => c7) t
noncomputable def N16.g8 (t : N16 α) : α := @N16.rec α (fun _ => α) (fun _ _ _ _ _ _ _ c8 _ _ _ _ _ _ _ _ => c8) t
noncomputable def N16.g9 (t : N16 α) : α := @N16.rec α (fun _ => α) (fun _ _ _ _ _ _ _ _ c9 _ _ _ _ _ _ _ => c9) t
noncomputable def N16.g10 (t : N16 α) : α := @N16.rec α (fun _ => α) (fun _ _ _ _ _ _ _ _ _ c10 _ _ _ _ _ _ => c10) t
noncomputable def N16.g11 (t : N16 α) : α := @N16.rec α (fun _ => α) (fun _ _ _ _ _ _ _ _ _ _ c11 _ _ _ _ _ => c11) t
noncomputable def N16.g12 (t : N16 α) : α := @N16.rec α (fun _ => α) (fun _ _ _ _ _ _ _ _ _ _ _ c12 _ _ _ _ => c12) t
noncomputable def N16.g13 (t : N16 α) : α := @N16.rec α (fun _ => α) (fun _ _ _ _ _ _ _ _ _ _ _ _ c13 _ _ _ => c13) t
noncomputable def N16.g14 (t : N16 α) : α := @N16.rec α (fun _ => α) (fun _ _ _ _ _ _ _ _ _ _ _ _ _ c14 _ _ => c14) t
noncomputable def N16.g15 (t : N16 α) : α := @N16.rec α (fun _ => α) (fun _ _ _ _ _ _ _ _ _ _ _ _ _ _ c15 _ => c15) t
noncomputable def N16.g16 (t : N16 α) : α := @N16.rec α (fun _ => α) (fun _ _ _ _ _ _ _ _ _ _ _ _ _ _ _ c16 => c16) t
noncomputable def N16.s1 (x : α) (t : N16 α) (k : N16 α → R) : R := @N16.rec α (fun _ => R) (fun _ c2 c3 c4 c5 c6 c7 c8 c9 c10 c11 c12 c13 c14 c15 c16 => k (.mk x c2 c3 c4 c5 c6 c7 c8 c9 c10 c11 c12 c13 c14 c15 c16)) t
noncomputable def N16.s2 (x : α) (t : N16 α) (k : N16 α → R) : R := @N16.rec α (fun _ => R) (fun c1 _ c3 c4 c5 c6 c7 c8 c9 c10 c11 c12 c13 c14 c15 c16 => k (.mk c1 x c3 c4 c5 c6 c7 c8 c9 c10 c11 c12 c13 c14 c15 c16)) t
noncomputable def N16.s3 (x : α) (t : N16 α) (k : N16 α → R) : R := @N16.rec α (fun _ => R) (fun c1 c2 _ c4 c5 c6 c7 c8 c9 c10 c11 c12 c13 c14 c15 c16 => k (.mk c1 c2 x c4 c5 c6 c7 c8 c9 c10 c11 c12 c13 c14 c15 c16)) t
noncomputable def N16.s4 (x : α) (t : N16 α) (k : N16 α → R) : R := @N16.rec α (fun _ => R) (fun c1 c2 c3 _ c5 c6 c7 c8 c9 c10 c11 c12 c13 c14 c15 c16 => k (.mk c1 c2 c3 x c5 c6 c7 c8 c9 c10 c11 c12 c13 c14 c15 c16)) t
noncomputable def N16.s5 (x : α) (t : N16 α) (k : N16 α → R) : R := @N16.rec α (fun _ => R) (fun c1 c2 c3 c4 _ c6 c7 c8 c9 c10 c11 c12 c13 c14 c15 c16 => k (.mk c1 c2 c3 c4 x c6 c7 c8 c9 c10 c11 c12 c13 c14 c15 c16)) t
noncomputable def N16.s6 (x : α) (t : N16 α) (k : N16 α → R) : R := @N16.rec α (fun _ => R) (fun c1 c2 c3 c4 c5 _ c7 c8 c9 c10 c11 c12 c13 c14 c15 c16 => k (.mk c1 c2 c3 c4 c5 x c7 c8 c9 c10 c11 c12 c13 c14 c15 c16)) t
noncomputable def N16.s7 (x : α) (t : N16 α) (k : N16 α → R) : R := @N16.rec α (fun _ => R) (fun c1 c2 c3 c4 c5 c6 _ c8 c9 c10 c11 c12 c13 c14 c15 c16 => k (.mk c1 c2 c3 c4 c5 c6 x c8 c9 c10 c11 c12 c13 c14 c15 c16)) t
noncomputable def N16.s8 (x : α) (t : N16 α) (k : N16 α → R) : R := @N16.rec α (fun _ => R) (fun c1 c2 c3 c4 c5 c6 c7 _ c9 c10 c11 c12 c13 c14 c15 c16 => k (.mk c1 c2 c3 c4 c5 c6 c7 x c9 c10 c11 c12 c13 c14 c15 c16)) t
noncomputable def N16.s9 (x : α) (t : N16 α) (k : N16 α → R) : R := @N16.rec α (fun _ => R) (fun c1 c2 c3 c4 c5 c6 c7 c8 _ c10 c11 c12 c13 c14 c15 c16 => k (.mk c1 c2 c3 c4 c5 c6 c7 c8 x c10 c11 c12 c13 c14 c15 c16)) t
noncomputable def N16.s10 (x : α) (t : N16 α) (k : N16 α → R) : R := @N16.rec α (fun _ => R) (fun c1 c2 c3 c4 c5 c6 c7 c8 c9 _ c11 c12 c13 c14 c15 c16 => k (.mk c1 c2 c3 c4 c5 c6 c7 c8 c9 x c11 c12 c13 c14 c15 c16)) t
noncomputable def N16.s11 (x : α) (t : N16 α) (k : N16 α → R) : R := @N16.rec α (fun _ => R) (fun c1 c2 c3 c4 c5 c6 c7 c8 c9 c10 _ c12 c13 c14 c15 c16 => k (.mk c1 c2 c3 c4 c5 c6 c7 c8 c9 c10 x c12 c13 c14 c15 c16)) t
noncomputable def N16.s12 (x : α) (t : N16 α) (k : N16 α → R) : R := @N16.rec α (fun _ => R) (fun c1 c2 c3 c4 c5 c6 c7 c8 c9 c10 c11 _ c13 c14 c15 c16 => k (.mk c1 c2 c3 c4 c5 c6 c7 c8 c9 c10 c11 x c13 c14 c15 c16)) t
noncomputable def N16.s13 (x : α) (t : N16 α) (k : N16 α → R) : R := @N16.rec α (fun _ => R) (fun c1 c2 c3 c4 c5 c6 c7 c8 c9 c10 c11 c12 _ c14 c15 c16 => k (.mk c1 c2 c3 c4 c5 c6 c7 c8 c9 c10 c11 c12 x c14 c15 c16)) t
noncomputable def N16.s14 (x : α) (t : N16 α) (k : N16 α → R) : R := @N16.rec α (fun _ => R) (fun c1 c2 c3 c4 c5 c6 c7 c8 c9 c10 c11 c12 c13 _ c15 c16 => k (.mk c1 c2 c3 c4 c5 c6 c7 c8 c9 c10 c11 c12 c13 x c15 c16)) t
noncomputable def N16.s15 (x : α) (t : N16 α) (k : N16 α → R) : R := @N16.rec α (fun _ => R) (fun c1 c2 c3 c4 c5 c6 c7 c8 c9 c10 c11 c12 c13 c14 _ c16 => k (.mk c1 c2 c3 c4 c5 c6 c7 c8 c9 c10 c11 c12 c13 c14 x c16)) t
noncomputable def N16.s16 (x : α) (t : N16 α) (k : N16 α → R) : R := @N16.rec α (fun _ => R) (fun c1 c2 c3 c4 c5 c6 c7 c8 c9 c10 c11 c12 c13 c14 c15 _ => k (.mk c1 c2 c3 c4 c5 c6 c7 c8 c9 c10 c11 c12 c13 c14 c15 x)) t
noncomputable def N16.g (i : D) : N16 α → α := @D.rec (fun _ => N16 α → α) N16.g1 N16.g2 N16.g3 N16.g4 N16.g5 N16.g6 N16.g7 N16.g8 N16.g9 N16.g10 N16.g11 N16.g12 N16.g13 N16.g14 N16.g15 N16.g16 i
noncomputable def N16.s (i : D) : α → N16 α → (N16 α → R) → R := @D.rec (fun _ => α → N16 α → (N16 α → R) → R) N16.s1 N16.s2 N16.s3 N16.s4 N16.s5 N16.s6 N16.s7 N16.s8 N16.s9 N16.s10 N16.s11 N16.s12 N16.s13 N16.s14 N16.s15 N16.s16 i
def N16.all (x : α) : N16 α := .mk x x x x x x x x x x x x x x x x
def N16.put (i : D) (x : α) (t : N16 α) : N16 α := match t with
  | .mk c1 c2 c3 c4 c5 c6 c7 c8 c9 c10 c11 c12 c13 c14 c15 c16 => match i with
    | .a1 => .mk x c2 c3 c4 c5 c6 c7 c8 c9 c10 c11 c12 c13 c14 c15 c16
    | .a2 => .mk c1 x c3 c4 c5 c6 c7 c8 c9 c10 c11 c12 c13 c14 c15 c16
    | .a3 => .mk c1 c2 x c4 c5 c6 c7 c8 c9 c10 c11 c12 c13 c14 c15 c16
    | .a4 => .mk c1 c2 c3 x c5 c6 c7 c8 c9 c10 c11 c12 c13 c14 c15 c16
    | .a5 => .mk c1 c2 c3 c4 x c6 c7 c8 c9 c10 c11 c12 c13 c14 c15 c16
    | .a6 => .mk c1 c2 c3 c4 c5 x c7 c8 c9 c10 c11 c12 c13 c14 c15 c16
    | .a7 => .mk c1 c2 c3 c4 c5 c6 x c8 c9 c10 c11 c12 c13 c14 c15 c16
    | .a8 => .mk c1 c2 c3 c4 c5 c6 c7 x c9 c10 c11 c12 c13 c14 c15 c16
    | .a9 => .mk c1 c2 c3 c4 c5 c6 c7 c8 x c10 c11 c12 c13 c14 c15 c16
    | .a10 => .mk c1 c2 c3 c4 c5 c6 c7 c8 c9 x c11 c12 c13 c14 c15 c16
    | .a11 => .mk c1 c2 c3 c4 c5 c6 c7 c8 c9 c10 x c12 c13 c14 c15 c16
    | .a12 => .mk c1 c2 c3 c4 c5 c6 c7 c8 c9 c10 c11 x c13 c14 c15 c16
    | .a13 => .mk c1 c2 c3 c4 c5 c6 c7 c8 c9 c10 c11 c12 x c14 c15 c16
    | .a14 => .mk c1 c2 c3 c4 c5 c6 c7 c8 c9 c10 c11 c12 c13 x c15 c16
    | .a15 => .mk c1 c2 c3 c4 c5 c6 c7 c8 c9 c10 c11 c12 c13 c14 x c16
    | .a16 => .mk c1 c2 c3 c4 c5 c6 c7 c8 c9 c10 c11 c12 c13 c14 c15 x
theorem N16.s_eq (i : D) (x : α) (t : N16 α) (k : N16 α → R) : N16.s i x t k = k (N16.put i x t) := by cases i <;> cases t <;> rfl
theorem N16.g_all (i : D) (x : α) : N16.g i (N16.all x) = x := by cases i <;> rfl
theorem N16.g_put (i : D) (x : α) (t : N16 α) : N16.g i (N16.put i x t) = x := by cases i <;> cases t <;> rfl
theorem N16.g_put_ne {i j : D} (h : j ≠ i) (x : α) (t : N16 α) : N16.g j (N16.put i x t) = N16.g j t := by
  cases t <;> cases i <;> cases j <;> first | rfl | exact absurd rfl h
theorem N16.put_put (i : D) (x y : α) (t : N16 α) : N16.put i x (N16.put i y t) = N16.put i x t := by cases i <;> cases t <;> rfl
theorem N16.put_comm {i j : D} (h : i ≠ j) (x y : α) (t : N16 α) : N16.put i x (N16.put j y t) = N16.put j y (N16.put i x t) := by
  cases t <;> cases i <;> cases j <;> first | rfl | exact absurd rfl h
/-- Tables by names of blocks, and by names of temporaries. -/
inductive Tr (α : Type) where
  | mk (lo : N16 (N16 (N16 (N16 (N16 (Option α)))))) (hi : Nat → Option α)
abbrev Ts (α : Type) := N16 (N16 (Option α))
def Tr.empty : Tr α := .mk (N16.all (N16.all (N16.all (N16.all (N16.all none))))) (fun _ => none)
def Ts.empty : Ts α := N16.all (N16.all none)
noncomputable def Tr.get (p : Pos) (t : Tr α) : Option α := @Tr.rec α (fun _ => Option α) (fun lo hi => @Pos.rec (fun _ => Option α) (fun h i j k l => N16.g l (N16.g k (N16.g j (N16.g i (N16.g h lo))))) hi p) t
noncomputable def Ts.get (p : Slot) (t : Ts α) : Option α := @Slot.rec (fun _ => Option α) (fun i j => N16.g j (N16.g i t)) p
noncomputable def Tr.setK (p : Pos) (v : Option α) (t : Tr α) (f : Tr α → R) : R :=
  @Tr.rec α (fun _ => R) (fun lo hi => @Pos.rec (fun _ => R) (fun h i j k l => N16.s l v (N16.g k (N16.g j (N16.g i (N16.g h lo)))) fun x => N16.s k x (N16.g j (N16.g i (N16.g h lo))) fun x => N16.s j x (N16.g i (N16.g h lo)) fun x => N16.s i x (N16.g h lo) fun x => N16.s h x lo fun lo => f (.mk lo hi))
    (fun n => f (.mk lo fun m => @Bool.rec (fun _ => Option α) (hi m) v (Nat.beq m n))) p) t
noncomputable def Ts.setK (p : Slot) (v : Option α) (t : Ts α) (f : Ts α → R) : R :=
  @Slot.rec (fun _ => R) (fun i j => N16.s j v (N16.g i t) fun x => N16.s i x t f) p
noncomputable def lo5 (h i j k l : D) (v : Option α) (t : N16 (N16 (N16 (N16 (N16 (Option α)))))) : N16 (N16 (N16 (N16 (N16 (Option α))))) :=
  N16.put h (N16.put i (N16.put j (N16.put k (N16.put l v (N16.g k (N16.g j (N16.g i (N16.g h t))))) (N16.g j (N16.g i (N16.g h t)))) (N16.g i (N16.g h t))) (N16.g h t)) t
noncomputable def Tr.set (p : Pos) (v : Option α) (t : Tr α) : Tr α := match t with
  | .mk lo hi => match p with
    | .mk h i j k l => .mk (lo5 h i j k l v lo) hi
    | .big n => .mk lo fun m => @Bool.rec (fun _ => Option α) (hi m) v (Nat.beq m n)
noncomputable def Ts.set (p : Slot) (v : Option α) (t : Ts α) : Ts α := match p with
  | .mk i j => N16.put i (N16.put j v (N16.g i t)) t
theorem Tr.setK_eq (p : Pos) (v : Option α) (t : Tr α) (f : Tr α → R) : Tr.setK p v t f = f (Tr.set p v t) := by
  cases t with | mk lo hi => cases p with
    | big n => rfl
    | mk h i j k l =>
      show N16.s l v _ _ = _
      rw [N16.s_eq, N16.s_eq, N16.s_eq, N16.s_eq, N16.s_eq]; rfl
theorem Ts.setK_eq (p : Slot) (v : Option α) (t : Ts α) (f : Ts α → R) : Ts.setK p v t f = f (Ts.set p v t) := by
  obtain ⟨i, j⟩ := p
  show N16.s j v _ _ = _
  rw [N16.s_eq, N16.s_eq]; rfl
theorem Tr.get_mk (h i j k l : D) (lo : N16 (N16 (N16 (N16 (N16 (Option α)))))) (hi : Nat → Option α) : Tr.get (.mk h i j k l) (.mk lo hi) = N16.g l (N16.g k (N16.g j (N16.g i (N16.g h lo)))) := rfl
theorem Tr.get_set_same (p : Pos) (v : Option α) (t : Tr α) : Tr.get p (Tr.set p v t) = v := by
  cases t with | mk lo hi => cases p with
    | big n => show @Bool.rec (fun _ => Option α) (hi n) v (Nat.beq n n) = v; rw [Nat.beq_refl]
    | mk h i j k l => simp only [Tr.set, Tr.get_mk, lo5, N16.g_put]
theorem Ts.get_set_same (p : Slot) (v : Option α) (t : Ts α) : Ts.get p (Ts.set p v t) = v := by
  obtain ⟨i, j⟩ := p
  show N16.g j (N16.g i (N16.put i _ t)) = v
  rw [N16.g_put, N16.g_put]
theorem Tr.get_set_ne {p q : Pos} (h : q ≠ p) (v : Option α) (t : Tr α) : Tr.get q (Tr.set p v t) = Tr.get q t := by
  cases t with | mk lo hi => cases p with
    | big n => cases q with
      | mk h' i' j' k' l' => rfl
      | big m =>
        show @Bool.rec (fun _ => Option α) (hi m) v (Nat.beq m n) = hi m
        cases hb : Nat.beq m n with
        | false => rfl
        | true => exact absurd (by rw [Nat.eq_of_beq_eq_true hb]) h
    | mk h0 i j k l => cases q with
      | big m => rfl
      | mk h' i' j' k' l' =>
        simp only [Tr.set, Tr.get_mk, lo5]
        by_cases hh : h' = h0
        · subst hh; rw [N16.g_put]
          by_cases hi : i' = i
          · subst hi; rw [N16.g_put]
            by_cases hj : j' = j
            · subst hj; rw [N16.g_put]
              by_cases hk : k' = k
              · subst hk; rw [N16.g_put]
                by_cases hl : l' = l
                · subst hl; exact absurd rfl h
                · rw [N16.g_put_ne hl]
              · rw [N16.g_put_ne hk]
            · rw [N16.g_put_ne hj]
          · rw [N16.g_put_ne hi]
        · rw [N16.g_put_ne hh]
theorem Ts.get_set_ne {p q : Slot} (h : q ≠ p) (v : Option α) (t : Ts α) : Ts.get q (Ts.set p v t) = Ts.get q t := by
  obtain ⟨i, j⟩ := p; obtain ⟨i', j'⟩ := q
  show N16.g j' (N16.g i' (N16.put i _ t)) = N16.g j' (N16.g i' t)
  by_cases hi : i' = i
  · subst hi; rw [N16.g_put]
    by_cases hj : j' = j
    · subst hj; exact absurd rfl h
    · rw [N16.g_put_ne hj]
  · rw [N16.g_put_ne hi]
theorem Tr.get_set (p q : Pos) (v : Option α) (t : Tr α) : Tr.get q (Tr.set p v t) = if q = p then v else Tr.get q t := by
  split
  · subst_vars; exact Tr.get_set_same _ _ _
  · exact Tr.get_set_ne ‹_› _ _
theorem Ts.get_set (p q : Slot) (v : Option α) (t : Ts α) : Ts.get q (Ts.set p v t) = if q = p then v else Ts.get q t := by
  split
  · subst_vars; exact Ts.get_set_same _ _ _
  · exact Ts.get_set_ne ‹_› _ _
theorem Tr.get_empty (p : Pos) : Tr.get p (Tr.empty : Tr α) = none := by
  cases p with
  | big n => rfl
  | mk h i j k l => simp only [Tr.empty, Tr.get_mk, N16.g_all]
theorem Ts.get_empty (p : Slot) : Ts.get p (Ts.empty : Ts α) = none := by
  obtain ⟨i, j⟩ := p
  show N16.g j (N16.g i (N16.all (N16.all none))) = none
  rw [N16.g_all, N16.g_all]
theorem Tr.set_comm {p q : Pos} (h : p ≠ q) (u v : Option α) (t : Tr α) : Tr.set p u (Tr.set q v t) = Tr.set q v (Tr.set p u t) := by
  cases t with | mk lo hi => cases p with
    | big n => cases q with
      | mk h' i' j' k' l' => rfl
      | big m =>
        simp only [Tr.set]
        congr 1
        funext x
        cases h1 : Nat.beq x n with
        | false => rfl
        | true => cases h2 : Nat.beq x m with
          | false => rfl
          | true => exact absurd (by rw [← Nat.eq_of_beq_eq_true h1, ← Nat.eq_of_beq_eq_true h2]) h
    | mk h0 i j k l => cases q with
      | big m => rfl
      | mk h' i' j' k' l' =>
        simp only [Tr.set, lo5]
        congr 1
        by_cases hh : h0 = h'
        · subst hh; simp only [N16.g_put, N16.put_put]
          congr 1
          by_cases hi : i = i'
          · subst hi; simp only [N16.g_put, N16.put_put]
            congr 1
            by_cases hj : j = j'
            · subst hj; simp only [N16.g_put, N16.put_put]
              congr 1
              by_cases hk : k = k'
              · subst hk; simp only [N16.g_put, N16.put_put]
                congr 1
                by_cases hl : l = l'
                · subst hl; exact absurd rfl h
                · exact N16.put_comm hl _ _ _
              · rw [N16.g_put_ne hk, N16.g_put_ne (Ne.symm hk), N16.put_comm hk]
            · rw [N16.g_put_ne hj, N16.g_put_ne (Ne.symm hj), N16.put_comm hj]
          · rw [N16.g_put_ne hi, N16.g_put_ne (Ne.symm hi), N16.put_comm hi]
        · rw [N16.g_put_ne hh, N16.g_put_ne (Ne.symm hh), N16.put_comm hh]
theorem Ts.set_comm {p q : Slot} (h : p ≠ q) (u v : Option α) (t : Ts α) : Ts.set p u (Ts.set q v t) = Ts.set q v (Ts.set p u t) := by
  obtain ⟨i, j⟩ := p; obtain ⟨i', j'⟩ := q
  simp only [Ts.set]
  by_cases hi : i = i'
  · subst hi; simp only [N16.g_put, N16.put_put]
    congr 1
    by_cases hj : j = j'
    · subst hj; exact absurd rfl h
    · exact N16.put_comm hj _ _ _
  · rw [N16.g_put_ne hi, N16.g_put_ne (Ne.symm hi), N16.put_comm hi]
end
/-- Values. 'sl': a slice whose capacity is known; 'slu': one whose capacity is not (behind an append). -/
inductive AVal where
  | bool (b : Bool)
  | int (k : IntKind) (n : Int)
  | str (s : List Nat)
  | nptr
  | ptr (b : Pos) (o : Nat)
  | nsl
  | sl (b : Pos) (o len cap : Nat)
  | slu (b : Pos) (o len esz : Nat)
  | nmap
  | map (b : Pos)
  | func (f : Nat) (caps : List AVal)
  | nfunc
  | niface
  | agg (xs : List AVal)
  | tup (xs : List AVal)
def AVal.undef : AVal := .tup []
/-- What a block is: 'ex': the call's own, all of it known; 'ro': handed in; 'fam': what an append made: it may share its row with its elders. -/
inductive Kind where
  | ex
  | ro
  | fam (root : Pos) (vb : Nat)
structure Blk where
  esz : Nat
  kind : Kind
  cells : List AVal
/-- A map: its clock, and its entries with the time at which they came. -/
structure MBlk where
  clock : Nat
  es : List (Nat × AVal × AVal)
structure S where
  heap : Tr Blk
  next : Pos
  fams : Tr (List Pos)
  maps : Tr MBlk

section
variable {R : Type}
noncomputable def forceNat (n : Nat) (k : Nat → R) : R := @Nat.rec (fun _ => R) (k 0) (fun m _ => k (.succ m)) n
theorem forceNat_eq (n : Nat) (k : Nat → R) : forceNat n k = k n := by cases n <;> rfl
noncomputable def forceInt (n : Int) (k : Int → R) : R := @Int.rec (fun _ => R) (fun m => forceNat m fun m => k (.ofNat m)) (fun m => forceNat m fun m => k (.negSucc m)) n
theorem forceInt_eq (n : Int) (k : Int → R) : forceInt n k = k n := by
  cases n with
  | ofNat m => first | rfl | exact forceNat_eq m fun m => k (.ofNat m)
  | negSucc m => first | rfl | exact forceNat_eq m fun m => k (.negSucc m)
noncomputable def forceNats (s : List Nat) (k : List Nat → R) : R :=
  match s with
  | [] => k []
  | n :: s => forceNat n fun n => forceNats s fun s => k (n :: s)
theorem forceNats_eq (s : List Nat) (k : List Nat → R) : forceNats s k = k s := by
  induction s generalizing k <;> simp [forceNats, forceNat_eq, *]
def forceBool (b : Bool) (k : Bool → R) : R :=
  match b with
  | true => k true
  | false => k false
theorem forceBool_eq (b : Bool) (k : Bool → R) : forceBool b k = k b := by cases b <;> rfl
def forceKind (q : IntKind) (k : IntKind → R) : R :=
  match q with
  | .i8 => k .i8 | .i16 => k .i16 | .i32 => k .i32 | .i64 => k .i64 | .u8 => k .u8 | .u16 => k .u16 | .u32 => k .u32 | .u64 => k .u64
theorem forceKind_eq (q : IntKind) (k : IntKind → R) : forceKind q k = k q := by cases q <;> rfl
noncomputable def forceD (i : D) (k : D → R) : R := @D.rec (fun _ => R) (k .a1) (k .a2) (k .a3) (k .a4) (k .a5) (k .a6) (k .a7) (k .a8) (k .a9) (k .a10) (k .a11) (k .a12) (k .a13) (k .a14) (k .a15) (k .a16) i
noncomputable def forcePos (p : Pos) (f : Pos → R) : R := @Pos.rec (fun _ => R) (fun h i j k l => forceD h fun h => forceD i fun i => forceD j fun j => forceD k fun k => forceD l fun l => f (.mk h i j k l)) (fun n => forceNat n fun n => f (.big n)) p
noncomputable def forceSlot (p : Slot) (f : Slot → R) : R := @Slot.rec (fun _ => R) (fun i j => forceD i fun i => forceD j fun j => f (.mk i j)) p
theorem forceD_eq (i : D) (k : D → R) : forceD i k = k i := by cases i <;> rfl
theorem forcePos_eq (p : Pos) (f : Pos → R) : forcePos p f = f p := by
  cases p <;> unfold forcePos <;> simp only [forceD_eq, forceNat_eq]
theorem forceSlot_eq (p : Slot) (f : Slot → R) : forceSlot p f = f p := by
  obtain ⟨i, j⟩ := p; unfold forceSlot; simp only [forceD_eq]
/-- A value's outermost part laid ready. -/
noncomputable def headK (v : AVal) (k : AVal → R) : R :=
  @AVal.rec (fun _ => R) (fun _ => PUnit) (fun b => k (.bool b)) (fun q n => k (.int q n)) (fun s => k (.str s)) (k .nptr) (fun b o => k (.ptr b o)) (k .nsl)
    (fun b o l c => k (.sl b o l c)) (fun b o l e => k (.slu b o l e)) (k .nmap) (fun b => k (.map b)) (fun f caps _ => k (.func f caps)) (k .nfunc) (k .niface)
    (fun xs _ => k (.agg xs)) (fun xs _ => k (.tup xs)) .unit (fun _ _ _ _ => .unit) v
theorem headK_eq (v : AVal) (k : AVal → R) : headK v k = k v := by cases v <;> rfl
/-- One cell. -/
noncomputable def force1 (v : AVal) (k : AVal → R) : R :=
  match v with
  | .bool b => forceBool b fun b => k (.bool b)
  | .int q n => forceKind q fun q => forceInt n fun n => k (.int q n)
  | .str s => forceNats s fun s => k (.str s)
  | .ptr b o => forceNat o fun o => k (.ptr b o)
  | .sl b o l c => forceNat o fun o => forceNat l fun l => forceNat c fun c => k (.sl b o l c)
  | .slu b o l e => forceNat o fun o => forceNat l fun l => forceNat e fun e => k (.slu b o l e)
  | .func f caps => forceNat f fun f => k (.func f caps)
  | v => k v
theorem force1_eq (v : AVal) (k : AVal → R) : force1 v k = k v := by
  cases v <;> simp [force1, forceNat_eq, forceInt_eq, forceNats_eq, forceBool_eq, forceKind_eq]
noncomputable def forces (s : List AVal) (k : List AVal → R) : R :=
  match s with
  | [] => k []
  | v :: s => force1 v fun v => forces s fun s => k (v :: s)
theorem forces_eq (s : List AVal) (k : List AVal → R) : forces s k = k s := by
  induction s generalizing k <;> simp [forces, force1_eq, *]
noncomputable def force (v : AVal) (k : AVal → R) : R :=
  match v with
  | .agg xs => forces xs fun xs => k (.agg xs)
  | .tup xs => forces xs fun xs => k (.tup xs)
  | v => force1 v k
theorem force_eq (v : AVal) (k : AVal → R) : force v k = k v := by
  cases v <;> simp [force, force1_eq, forces_eq]
end
end Go.Am
