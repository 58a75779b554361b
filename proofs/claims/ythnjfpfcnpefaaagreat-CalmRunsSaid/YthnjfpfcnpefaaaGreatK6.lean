/-
  The operations that change nothing, the rest of them. Conditions: none.
-/
import Derived.Test.YthnjfpfcnpefaaaGreatK5
import Derived.Laws.BytesString
import Derived.Laws.Shifts
namespace Go.Am
section
variable {P : Program} {w0 w : World} {m : Mp} {σ : S} {T : Tm} {a : Act} {v : AVal} {dst : Option Tmp} {type : TypeId} {pos : String} {after : Array Edge} {guard : Option (Nat × Bool)}
theorem list_eq_iff {s t : ByteArray} : s.toList = t.toList ↔ s.data.toList.map (·.toNat) = t.data.toList.map (·.toNat) := by
  rw [ByteArray.toList_eq, ByteArray.toList_eq]
  constructor
  · intro h; rw [h]
  · intro h; rw [str_inj h]
theorem natsLess_eq (x y : List UInt8) : natsLess (x.map (·.toNat)) (y.map (·.toNat)) = Op.bytesLess x y := by
  induction x generalizing y with
  | nil => cases y <;> simp [natsLess, Op.bytesLess]
  | cons a x ih => cases y with
    | nil => simp [natsLess, Op.bytesLess]
    | cons b y =>
      simp only [List.map_cons, natsLess, Op.bytesLess]
      cases h : Nat.ble (Nat.succ a.toNat) b.toNat with
      | true =>
        have : a < b := UInt8.lt_iff_toNat_lt.2 (Nat.le_of_ble_eq_true h)
        simp [this]
      | false =>
        have h1 : ¬ a < b := fun h' => by
          have := UInt8.lt_iff_toNat_lt.1 h'
          rw [Nat.ble_eq_true_of_le (show Nat.succ a.toNat ≤ b.toNat from this)] at h; cases h
        simp only [h1, decide_false, Bool.false_or]
        cases he : Nat.beq a.toNat b.toNat with
        | true =>
          have := UInt8.toNat_inj.1 (Nat.eq_of_beq_eq_true he)
          subst this; simp [ih]
        | false =>
          have h2 : ¬ a = b := fun h' => by subst h'; rw [Nat.beq_refl] at he; cases he
          simp [h2]
theorem seq_eq (s t : ByteArray) : seq (s.data.toList.map (·.toNat)) (t.data.toList.map (·.toNat)) = (s.toList == t.toList) := by
  rw [Bool.eq_iff_iff, seq_iff, beq_iff_eq, list_eq_iff]
theorem size_map (s : ByteArray) : (s.data.toList.map (·.toNat)).length = s.size := by rw [List.length_map]; rfl
theorem str_append (s t : ByteArray) : (s ++ t).data.toList.map (·.toNat) = s.data.toList.map (·.toNat) ++ t.data.toList.map (·.toNat) := by
  rw [ByteArray.data_append, Array.toList_append, List.map_append]
theorem sim_str {op : BinOp} {s t : ByteArray} {ty : TypeId} {v : AVal} (h : strOp op (s.data.toList.map (·.toNat)) (t.data.toList.map (·.toNat)) = some v) :
    ∃ x, (binOp op ty (.string s) (.string t)).run P w = .ok x w ∧ VR m v x := by
  have hB : ∀ b, VR m (.bool b) (.bool b) := fun b => (SR.bool b).vr
  have hl : natsLess (s.data.toList.map (·.toNat)) (t.data.toList.map (·.toNat)) = Op.bytesLess s.toList t.toList := by rw [natsLess_eq, ByteArray.toList_eq, ByteArray.toList_eq]
  cases op <;> simp only [strOp, noS] at h <;> (try (cases h; done))
  case add =>
    unfold addS at h
    split at h
    · rename_i hle
      have hle := Nat.le_of_ble_eq_true hle
      rw [forceNats_eq] at h; cases h
      rw [lenS_eq, lenS_eq, size_map, size_map] at hle
      have hle' : s.size + t.size ≤ 1099511627776 := hle
      refine ⟨.string (s ++ t), ?_, (SR.str _ _ (str_append s t)).vr⟩
      have : ¬ (((s.size + t.size : Nat) : Int) > IntKind.i64.max) := by
        simp [IntKind.max, IntKind.bits, IntKind.signed]; omega
      simp only [binOp, Op.stringOp, this, if_false]; rfl
    · cases h
  case eql => simp only [eqlS, outB_eq, seq_eq] at h; cases h; exact ⟨_, by simp only [binOp, Op.stringOp]; rfl, hB _⟩
  case neq => simp only [neqS, outB_eq, seq_eq, notB_eq] at h; cases h; exact ⟨_, by simp only [binOp, Op.stringOp]; rfl, hB _⟩
  case lss => simp only [lssS, outB_eq, hl] at h; cases h; exact ⟨_, by simp only [binOp, Op.stringOp]; rfl, hB _⟩
  case leq => simp only [leqS, outB_eq, hl, seq_eq] at h; cases h; exact ⟨_, by simp only [binOp, Op.stringOp]; rfl, hB _⟩
  case gtr => simp only [gtrS, outB_eq, hl, seq_eq, notB_eq] at h; cases h; exact ⟨_, by simp only [binOp, Op.stringOp]; rfl, hB _⟩
  case geq => simp only [geqS, outB_eq, hl, notB_eq] at h; cases h; exact ⟨_, by simp only [binOp, Op.stringOp]; rfl, hB _⟩

/-- The type's kind, as it was laid out. -/
def TkOk (P : Program) (t : TypeId) (tk : TK) : Prop := match tk with
  | .num => True
  | .bool => P.underlying t = some .bool
  | .ptr => ∃ e, P.underlying t = some (.pointer e)
  | .sl => ∃ e, P.underlying t = some (.slice e)
theorem VR.bool' {b : Bool} {x : Value} (h : VR m (.bool b) x) : x = .bool b := h.bool
theorem eq_run {t : TypeId} {tk : TK} (hk : TkOk P t tk) {u v : AVal} {x y : Value} (hu : VR m u x) (hv : VR m v y) {r : Bool} (h : nilEq tk u v = some r) :
    (Op.equal t x y).run P w = .ok r w := by
  show (Op.equalIn (9999 + 1) t x y).run P w = .ok r w
  unfold Op.equalIn
  cases tk with
  | num => simp [nilEq] at h
  | bool =>
    simp only [nilEq] at h
    split at h
    · split at h
      · cases h; rw [hu.bool, hv.bool]; simp only [Sem.run_bind, run_underlying (show P.underlying t = some .bool from hk), Result.andThen_ok, beqB_eq]; rfl
      · cases h
    · cases h
  | ptr =>
    obtain ⟨e, he⟩ := hk
    simp only [nilEq] at h
    split at h
    · split at h
      · cases h; rw [hu.nptr, hv.nptr]; simp only [Sem.run_bind, run_underlying he, Result.andThen_ok]; rfl
      · cases h; obtain ⟨mi, _, rfl⟩ := hv.ptr; rw [hu.nptr]; simp only [Sem.run_bind, run_underlying he, Result.andThen_ok]; rfl
      · cases h
    · split at h
      · cases h; obtain ⟨mi, _, rfl⟩ := hu.ptr; rw [hv.nptr]; simp only [Sem.run_bind, run_underlying he, Result.andThen_ok]; rfl
      · cases h
    · cases h
  | sl =>
    obtain ⟨e, he⟩ := hk
    simp only [nilEq] at h
    split at h
    · split at h
      · cases h; rw [hu.nsl, hv.nsl]; simp only [Sem.run_bind, run_underlying he, Result.andThen_ok]; rfl
      · cases h; obtain ⟨mi, _, _, rfl⟩ := hv.sl; rw [hu.nsl]; simp only [Sem.run_bind, run_underlying he, Result.andThen_ok]; rfl
      · cases h; obtain ⟨mi, _, _, _, _, _, _, rfl⟩ := hv.slu; rw [hu.nsl]; simp only [Sem.run_bind, run_underlying he, Result.andThen_ok]; rfl
      · cases h
    · split at h
      · cases h; obtain ⟨mi, _, _, rfl⟩ := hu.sl; rw [hv.nsl]; simp only [Sem.run_bind, run_underlying he, Result.andThen_ok]; rfl
      · cases h
    · split at h
      · cases h; obtain ⟨mi, _, _, _, _, _, _, rfl⟩ := hu.slu; rw [hv.nsl]; simp only [Sem.run_bind, run_underlying he, Result.andThen_ok]; rfl
      · cases h
    · cases h
/-- No guard where no part of the operands is an interface value. -/
theorem eqGuard_off {op : BinOp} {t : TypeId} {X Y : Operand} {u v : AVal} {tk : TK} {x y : Value} (hu : VR m u x) {r : Bool} (h : nilEq tk u v = some r) :
    eqGuard op t X Y x y = pure () := by
  have : ∀ z, x ≠ .agg z ∧ x ≠ .nilIface := by
    intro z
    cases tk <;> simp only [nilEq] at h
    · cases h
    · split at h
      · rw [hu.bool]; simp
      · cases h
    · split at h
      · rw [hu.nptr]; simp
      · obtain ⟨mi, _, rfl⟩ := hu.ptr; simp
      · cases h
    · split at h
      · rw [hu.nsl]; simp
      · obtain ⟨mi, _, _, rfl⟩ := hu.sl; simp
      · obtain ⟨mi, _, _, _, _, _, _, rfl⟩ := hu.slu; simp
      · cases h
  cases x <;> first | (cases op <;> rfl) | (exact absurd rfl (this _).1) | (exact absurd rfl (this #[]).2)
theorem binOp_eql' {t : TypeId} {u v : AVal} {tk : TK} {x y : Value} (hu : VR m u x) (hv : VR m v y) {r : Bool} (h : nilEq tk u v = some r) :
    binOp .eql t x y = (do pure (.bool (← Op.equal t x y))) ∧ binOp .neq t x y = (do pure (.bool (!(← Op.equal t x y)))) := by
  cases tk <;> simp only [nilEq] at h
  · cases h
  · split at h
    · split at h
      · rw [hu.bool, hv.bool]; exact ⟨rfl, rfl⟩
      · cases h
    · cases h
  · split at h
    · split at h
      · rw [hu.nptr, hv.nptr]; exact ⟨rfl, rfl⟩
      · obtain ⟨mi, _, rfl⟩ := hv.ptr; rw [hu.nptr]; exact ⟨rfl, rfl⟩
      · cases h
    · split at h
      · obtain ⟨mi, _, rfl⟩ := hu.ptr; rw [hv.nptr]; exact ⟨rfl, rfl⟩
      · cases h
    · cases h
  · split at h
    · split at h
      · rw [hu.nsl, hv.nsl]; exact ⟨rfl, rfl⟩
      · obtain ⟨mi, _, _, rfl⟩ := hv.sl; rw [hu.nsl]; exact ⟨rfl, rfl⟩
      · obtain ⟨mi, _, _, _, _, _, _, rfl⟩ := hv.slu; rw [hu.nsl]; exact ⟨rfl, rfl⟩
      · cases h
    · split at h
      · obtain ⟨mi, _, _, rfl⟩ := hu.sl; rw [hv.nsl]; exact ⟨rfl, rfl⟩
      · cases h
    · split at h
      · obtain ⟨mi, _, _, _, _, _, _, rfl⟩ := hu.slu; rw [hv.nsl]; exact ⟨rfl, rfl⟩
      · cases h
    · cases h
theorem eqGuard_int {op : BinOp} {t : TypeId} {X Y : Operand} {k : IntKind} {n : Int} {y : Value} : eqGuard op t X Y (.int k n) y = pure () := by cases op <;> rfl
theorem eqGuard_str {op : BinOp} {t : TypeId} {X Y : Operand} {s : ByteArray} {y : Value} : eqGuard op t X Y (.string s) y = pure () := by cases op <;> rfl
theorem sim_bin {op : BinOp} {t yt : TypeId} {tk : TK} {x y : Operand} {x' y' : Opd} (hk : TkOk P t tk) (hT : TR m T a.tmps) (hx : copd x = some x') (hy : copd y = some y')
    (hv : qBin op tk x' y' T σ = some v) : QRuns P a.eval ⟨dst, .binOp op t x y yt, type, pos, after, guard⟩ w m v := by
  have hx' := copd_ok hT hx
  have hy' := copd_ok hT hy
  unfold qBin at hv
  revert hv hx' hy'
  generalize x'.ev T = u
  generalize y'.ev T = z
  intro hv hx' hy'
  have fin : ∀ r, eqGuard op t x y (a.eval x) (a.eval y) = pure () → (binOp op t (a.eval x) (a.eval y)).run P w = .ok r w → VR m v r → QRuns P a.eval ⟨dst, .binOp op t x y yt, type, pos, after, guard⟩ w m v := by
    intro r h1 h2 h3
    refine ⟨r, ?_, h3⟩
    simp only [execOp, h1]
    simp [h2]
  unfold binA at hv
  split at hv
  · rename_i k n
    split at hv
    · rename_i l b
      have e1 := hx'.int; have e2 := hy'.int
      unfold binII at hv
      split at hv
      · rename_i hs
        obtain ⟨r, h1, h2⟩ := sim_sh (P := P) (w := w) (m := m) (l := l) (t := t) hs hv
        exact fin r (by rw [e1]; exact eqGuard_int) (by rw [e1, e2]; exact h1) h2
      · split at hv
        · rename_i hkl
          have hkl := keq_iff.1 hkl; subst hkl
          obtain ⟨r, h1, h2⟩ := sim_int (P := P) (w := w) (m := m) (t := t) hv
          exact fin r (by rw [e1]; exact eqGuard_int) (by rw [e1, e2]; exact h1) h2
        · cases hv
    · cases hv
  · rename_i s
    split at hv
    · rename_i s'
      obtain ⟨b, e1, rfl⟩ := hx'.str; obtain ⟨b', e2, rfl⟩ := hy'.str
      obtain ⟨r, h1, h2⟩ := sim_str (P := P) (w := w) (m := m) (ty := t) hv
      exact fin r (by rw [e1]; exact eqGuard_str) (by rw [e1, e2]; exact h1) h2
    · cases hv
  · unfold nilOp at hv
    split at hv
    · obtain ⟨r, hr, h2⟩ := andThen_eq.1 hv
      rw [outB_eq] at h2; cases h2
      refine fin (.bool r) (eqGuard_off hx' hr) ?_ (SR.bool r).vr
      rw [(binOp_eql' hx' hy' hr).1]
      simp [eq_run hk hx' hy' hr]
    · obtain ⟨r, hr, h2⟩ := andThen_eq.1 hv
      rw [outB_eq, notB_eq] at h2; cases h2
      refine fin (.bool (!r)) (eqGuard_off hx' hr) ?_ (SR.bool _).vr
      rw [(binOp_eql' hx' hy' hr).2]
      simp [eq_run hk hx' hy' hr]
    · cases hv
theorem sim_un {op : UnOp} {t : TypeId} {x : Operand} {y : Opd} (hT : TR m T a.tmps) (hx : copd x = some y) (hv : qUn op y T σ = some v) :
    QRuns P a.eval ⟨dst, .unOp op t x, type, pos, after, guard⟩ w m v := by
  have hx' := copd_ok hT hx
  unfold qUn at hv
  revert hv hx'
  generalize y.ev T = u
  intro hv hx'
  unfold unA at hv
  split at hv
  · split at hv
    · rename_i k n
      rw [outIB_eq] at hv; cases hv
      refine ⟨_, ?_, (SR.int _ _).vr⟩
      simp only [execOp, hx'.int, Op.unary, Op.intArith]; rfl
    · cases hv
  · split at hv
    · rename_i k n
      obtain ⟨q, rfl, h2⟩ := sim_intBits (P := P) (w := w) (op := .xor) (.inr (.inr rfl)) (show intOp .xor k _ n = some v from hv)
      refine ⟨_, ?_, (SR.int _ _).vr⟩
      simp [execOp, hx'.int, Op.unary, h2]
    · cases hv
  · split at hv
    · rename_i b
      rw [outB_eq, notB_eq] at hv; cases hv
      refine ⟨_, ?_, (SR.bool _).vr⟩
      simp [execOp, hx'.bool, Op.unary]
    · cases hv
  · cases hv
end
end Go.Am
