/-
  Whole numbers, strings, comparisons: what the evaluator reckons is what the model reckons. Conditions: none.
-/
import Derived.Test.YtdolmkdbpnlegaaGreatDoorK4
import Derived.IntWalk
namespace Go.Am

theorem ieq_iff {a b : Int} : ieq a b = true ↔ a = b := by
  cases a <;> cases b <;> simp [ieq] <;> omega
theorem ieq_eq (a b : Int) : ieq a b = (a == b) := by
  rw [Bool.eq_iff_iff, ieq_iff]; simp
theorem ilt_iff {a b : Int} : ilt a b = true ↔ a < b := by
  cases a <;> cases b <;> simp [ilt] <;> omega
theorem ilt_eq (a b : Int) : ilt a b = decide (a < b) := by
  rw [Bool.eq_iff_iff, ilt_iff]; simp
theorem keq_iff {a b : IntKind} : keq a b = true ↔ a = b := by cases a <;> cases b <;> simp [keq]
theorem beqB_eq (a b : Bool) : beqB a b = (a == b) := by cases a <;> cases b <;> rfl
theorem notB_eq (a : Bool) : notB a = !a := by cases a <;> rfl
theorem seq_iff {a b : List Nat} : seq a b = true ↔ a = b := by
  induction a generalizing b with
  | nil => cases b <;> simp [seq]
  | cons x a ih => cases b with
    | nil => simp [seq]
    | cons y b =>
      cases h : Nat.beq x y with
      | true => have := Nat.eq_of_beq_eq_true h; subst this; simp [seq, ih]
      | false => have := Nat.ne_of_beq_eq_false h; simp [seq, this, h]
theorem nmod (a b : Nat) : Nat.mod a b = a % b := rfl
theorem wI64_eq (n : Int) : wI64 n = IntKind.wrap .i64 n := by
  cases n with
  | ofNat m =>
    unfold wI64
    cases h : Nat.ble m i64max with
    | true =>
      have := Nat.le_of_ble_eq_true h
      unfold i64max at this
      simp only [h]; rw [IntWalk.i64_in _ ⟨by show (-9223372036854775808 : Int) ≤ (m : Int); omega, by show (m : Int) ≤ _; omega⟩]
    | false => simp [h]
  | negSucc m =>
    unfold wI64
    cases h : Nat.ble m i64max with
    | true =>
      have := Nat.le_of_ble_eq_true h
      unfold i64max at this
      simp only [h]; rw [IntWalk.i64_in _ (by omega)]
    | false => simp [h]
theorem wU_eq (md : Nat) (k : IntKind) (n : Int) (h : k.signed = false) (hm : (2 : Nat) ^ k.bits = md) : wU md k n = k.wrap n := by
  cases n with
  | ofNat m =>
    unfold wU
    simp only [IntKind.wrap, h, nmod, ← hm]
    simp
  | negSucc m => rfl
theorem wrapK_eq (k : IntKind) (n : Int) : wrapK k n = k.wrap n := by
  cases k <;> simp only [wrapK] <;> first
    | rfl
    | exact wI64_eq n
    | exact wU_eq _ _ _ rfl rfl
theorem outI_eq (k : IntKind) (n : Int) : outI k n = some (.int k n) := by unfold outI; rw [forceInt_eq]
theorem outB_eq (b : Bool) : outB b = some (.bool b) := by cases b <;> rfl
theorem outIB_eq (k : IntKind) (n : Int) : outIB k n = some (.int k (k.wrap n)) := by unfold outIB; rw [outI_eq, wrapK_eq]
theorem iadd_eq (a b : Int) : iadd a b = a + b := by cases a <;> cases b <;> simp [iadd] <;> rfl
theorem isub_eq (a b : Int) : isub a b = a - b := by
  cases a <;> cases b <;> simp only [isub] <;> (try rfl)
  rename_i m n
  split
  · rename_i h; have := Nat.le_of_ble_eq_true h; simp; omega
  · rename_i h
    have h' : ¬ n ≤ m := fun hle => by rw [Nat.ble_eq_true_of_le hle] at h; cases h
    simp [Int.negSucc_eq]; omega
theorem natOf_eq (k : IntKind) (a : Int) : natOf k a = (BitVec.ofInt k.bits a).toNat := by
  rw [BitVec.toNat_ofInt]
  cases a with
  | ofNat m => cases k <;> simp [natOf, IntKind.bits, nmod] <;> omega
  | negSucc m => simp [natOf]
theorem wrap_nat_i (k : IntKind) (n : Nat) : wrapK k (.ofNat n) = k.wrap (n : Int) := wrapK_eq k _
section
variable {P : Program} {w : World}
theorem sim_intBits {op : BinOp} {k : IntKind} {a b : Int} {v : AVal} (hop : op = .and ∨ op = .or ∨ op = .xor) (h : intOp op k a b = some v) :
    ∃ n, v = .int k n ∧ (Op.intBits op k a b).run P w = .ok (.int k n) w := by
  rcases hop with rfl | rfl | rfl
  · simp only [intOp, andI, outIB_eq] at h; cases h
    refine ⟨_, rfl, ?_⟩
    simp only [Op.intBits, natOf_eq]; rfl
  · simp only [intOp, orI, outIB_eq] at h; cases h
    refine ⟨_, rfl, ?_⟩
    simp only [Op.intBits, natOf_eq]; rfl
  · simp only [intOp, xorI, outIB_eq] at h; cases h
    refine ⟨_, rfl, ?_⟩
    simp only [Op.intBits, natOf_eq]; rfl
theorem sim_int {m : Mp} {op : BinOp} {k : IntKind} {a b : Int} {t : TypeId} {v : AVal} (h : intOp op k a b = some v) :
    ∃ x, (binOp op t (.int k a) (.int k b)).run P w = .ok x w ∧ VR m v x := by
  have hI : ∀ n, VR m (.int k n) (.int k n) := fun n => (SR.int k n).vr
  have hB : ∀ b, VR m (.bool b) (.bool b) := fun b => (SR.bool b).vr
  cases op
  case add => simp only [intOp, addI, outIB_eq, iadd_eq] at h; cases h; exact ⟨_, by simp [binOp, Op.intArith], hI _⟩
  case sub => simp only [intOp, subI, outIB_eq, isub_eq] at h; cases h; exact ⟨_, by simp [binOp, Op.intArith], hI _⟩
  case mul => simp only [intOp, mulI, outIB_eq] at h; cases h; exact ⟨_, by simp [binOp, Op.intArith], hI _⟩
  case quo =>
    simp only [intOp, quoI, outIB_eq] at h
    split at h
    · cases h
    · rename_i hz; cases h
      have hz' : ¬ b = 0 := fun e => by rw [ieq_iff.2 e] at hz; cases hz
      exact ⟨_, by simp [binOp, Op.intDiv, hz'], hI _⟩
  case rem =>
    simp only [intOp, remI, outI_eq] at h
    split at h
    · cases h
    · rename_i hz; cases h
      have hz' : ¬ b = 0 := fun e => by rw [ieq_iff.2 e] at hz; cases hz
      exact ⟨_, by simp [binOp, Op.intDiv, hz'], hI _⟩
  case and => obtain ⟨n, rfl, h2⟩ := sim_intBits (P := P) (w := w) (.inl rfl) h; exact ⟨_, by simpa [binOp] using h2, hI _⟩
  case or => obtain ⟨n, rfl, h2⟩ := sim_intBits (P := P) (w := w) (.inr (.inl rfl)) h; exact ⟨_, by simpa [binOp] using h2, hI _⟩
  case xor => obtain ⟨n, rfl, h2⟩ := sim_intBits (P := P) (w := w) (.inr (.inr rfl)) h; exact ⟨_, by simpa [binOp] using h2, hI _⟩
  case andNot => simp [intOp, noI] at h
  case shl => simp [intOp, noI] at h
  case shr => simp [intOp, noI] at h
  case eql => simp only [intOp, eqlI, outB_eq, ieq_eq] at h; cases h; exact ⟨_, by simp [binOp, Op.intCmp], hB _⟩
  case neq => simp only [intOp, neqI, outB_eq, ieq_eq, notB_eq] at h; cases h; exact ⟨_, by simp [binOp, Op.intCmp, bne], hB _⟩
  case lss => simp only [intOp, lssI, outB_eq, ilt_eq] at h; cases h; exact ⟨_, by simp [binOp, Op.intCmp], hB _⟩
  case leq =>
    simp only [intOp, leqI, outB_eq, ilt_eq, notB_eq] at h; cases h
    refine ⟨_, by simp [binOp, Op.intCmp]; rfl, ?_⟩
    have : (!decide (b < a)) = decide (a ≤ b) := by rw [Bool.eq_iff_iff]; simp
    rw [this]; exact hB _
  case gtr => simp only [intOp, gtrI, outB_eq, ilt_eq] at h; cases h; exact ⟨_, by simp [binOp, Op.intCmp], hB _⟩
  case geq =>
    simp only [intOp, geqI, outB_eq, ilt_eq, notB_eq] at h; cases h
    refine ⟨_, by simp [binOp, Op.intCmp]; rfl, ?_⟩
    have : (!decide (a < b)) = decide (a ≥ b) := by rw [Bool.eq_iff_iff]; simp
    rw [this]; exact hB _
theorem pow_int (n : Nat) : ((Nat.pow 2 n : Nat) : Int) = 2 ^ n := by simp
theorem sim_sh {m : Mp} {op : BinOp} {k l : IntKind} {a b : Int} {t : TypeId} {v : AVal} (hop : isSh op = true) (h : shOp op k a b = some v) :
    ∃ x, (binOp op t (.int k a) (.int l b)).run P w = .ok x w ∧ VR m v x := by
  have hI : ∀ n, VR m (.int k n) (.int k n) := fun n => (SR.int k n).vr
  cases op <;> simp only [isSh] at hop <;> (try (cases hop; done))
  case shl =>
    simp only [shOp, shlI] at h
    cases b with
    | negSucc n => cases h
    | ofNat n =>
      simp only [outIB_eq] at h; cases h
      refine ⟨_, ?_, hI _⟩
      simp only [binOp, Op.shift]
      have : ¬ (Int.ofNat n < 0) := by simp
      simp only [this, if_false]
      simp
  case shr =>
    simp only [shOp, shrI] at h
    cases b with
    | negSucc n => cases h
    | ofNat n =>
      cases a with
      | ofNat q =>
        simp only [outI_eq] at h; cases h
        refine ⟨_, ?_, hI _⟩
        simp only [binOp, Op.shift]
        have : ¬ (Int.ofNat n < 0) := by simp
        simp only [this, if_false]
        have e : (Int.ofNat q).fdiv (2 ^ min n k.bits) = Int.ofNat (q.div (2 ^ min n k.bits)) := by
          have : (2 : Int) ^ min n k.bits = ((2 ^ min n k.bits : Nat) : Int) := by simp
          rw [this]; exact Int.ofNat_fdiv q _ |>.symm
        simp; exact e
      | negSucc q =>
        simp only [outI_eq] at h; cases h
        refine ⟨_, ?_, hI _⟩
        simp only [binOp, Op.shift]
        have : ¬ (Int.ofNat n < 0) := by simp
        simp only [this, if_false]
        simp
end
theorem str_inj {s t : ByteArray} (h : s.data.toList.map (·.toNat) = t.data.toList.map (·.toNat)) : s = t := by
  have h1 : s.data.toList = t.data.toList := by
    have inj : ∀ a b : List UInt8, a.map (·.toNat) = b.map (·.toNat) → a = b := by
      intro a
      induction a with
      | nil => intro b h; cases b <;> simp_all
      | cons x a ih => intro b h; cases b with
        | nil => simp at h
        | cons y b =>
          simp only [List.map_cons, List.cons.injEq] at h
          rw [ih b h.2, UInt8.toNat_inj.1 h.1]
    exact inj _ _ h
  cases s; cases t; simp at h1; rw [h1]
end Go.Am
