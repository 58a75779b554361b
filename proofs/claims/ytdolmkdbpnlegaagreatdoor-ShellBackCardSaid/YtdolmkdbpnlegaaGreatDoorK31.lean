/-
  Steps of conditions. Conditions: none.
-/
import Derived.Test.YtdolmkdbpnlegaaGreatDoorK30
namespace Go.Am
open IntKind

section
variable {σ : S} {K : AVal → S → Prop} {T E : En} {Q : AVal → S → Prop}
@[simp] theorem Som_some {α : Type} (a : α) (K : α → Prop) : Som (some a) K = K a := rfl
@[simp] theorem Som_none {α : Type} (K : α → Prop) : Som none K = False := rfl
@[simp] theorem Eff_some (v : AVal) (σ : S) (K : AVal → S → Prop) : Eff (some (v, σ)) K = K v σ := rfl
@[simp] theorem Eff_none (K : AVal → S → Prop) : Eff none K = False := rfl
@[simp] theorem Ala_some (blk : Blk) (mk : Pos → AVal) (σ : S) (K : AVal → S → Prop) : Ala (some (blk, mk)) σ K = K (mk σ.next) (σ.new blk) := rfl
@[simp] theorem Alb_some (blk : Blk) (mk : Pos → AVal) (p : Pos) (σ : S) (K : AVal → S → Prop) : Alb (some (blk, mk)) p σ K = K (mk p) (σ.lay p (blk.named p)) := rfl
@[simp] theorem WIf_true (A B : Prop) : WIf (.bool true) A B = A := rfl
@[simp] theorem WIf_false (A B : Prop) : WIf (.bool false) A B = B := rfl
theorem WIf_dec {p : Prop} [Decidable p] {A B : Prop} (ha : p → A) (hb : ¬ p → B) : WIf (.bool (decide p)) A B := by
  by_cases h : p
  · rw [decide_eq_true h]; exact ha h
  · rw [decide_eq_false h]; exact hb h
theorem WIf_bool {b : Bool} {A B : Prop} (ha : b = true → A) (hb : b = false → B) : WIf (.bool b) A B := by
  cases b
  · exact hb rfl
  · exact ha rfl
@[simp] theorem gq1_true (o : Option AVal) : gq1 true o = o := rfl
@[simp] theorem gq1_false (o : Option AVal) : gq1 false o = some .undef := rfl
@[simp] theorem gE1_true (F : (AVal → S → Prop) → Prop) (σ : S) (K : AVal → S → Prop) : gE1 true F σ K = F K := rfl
@[simp] theorem gE1_false (F : (AVal → S → Prop) → Prop) (σ : S) (K : AVal → S → Prop) : gE1 false F σ K = K .undef σ := rfl
@[simp] theorem isB_bool (b w : Bool) : isB (.bool b) w = (b == w) := beqB_eq b w
@[simp] theorem notB_not (b : Bool) : notB b = !b := notB_eq b
@[simp] theorem Sure_eq (b : Bool) (A : Prop) : Sure b A = (b = true ∧ A) := rfl
@[simp] theorem vNilck_ptr (b : Pos) (o : Nat) : vNilck (.ptr b o) = some (.ptr b o) := rfl
@[simp] theorem vFieldAddr_ptr (off : Nat) (b : Pos) (o : Nat) : vFieldAddr off (.ptr b o) = some (.ptr b (o + off)) := by
  unfold vFieldAddr outPtr; simp only [forceNat_eq]
@[simp] theorem vExtract_tup (i : Nat) (l : List AVal) : vExtract i (.tup l) = l[i]? := nthV_eq i l
@[simp] theorem vPick_true (a b : AVal) : vPick (.bool true) a b = some a := rfl
@[simp] theorem vPick_false (a b : AVal) : vPick (.bool false) a b = some b := rfl
@[simp] theorem En.set_get (E : En) (d : Nat) (v : AVal) (n : Nat) : (E.set d v) n = if n = d then v else E n := by
  show @Bool.rec (fun _ => AVal) (E n) v (Nat.beq n d) = _
  cases h : Nat.beq n d with
  | true => rw [if_pos (Nat.eq_of_beq_eq_true h)]
  | false => rw [if_neg fun e => by subst e; rw [Nat.beq_refl] at h; cases h]
@[simp] theorem test_tt {β : Type} (k : Option β) : test true k = k := rfl
@[simp] theorem test_ff {β : Type} (k : Option β) : test false k = none := rfl
@[simp] theorem andThen_s {α β : Type} (a : α) (k : α → Option β) : andThen (some a) k = k a := rfl
@[simp] theorem andThen_n {α β : Type} (k : α → Option β) : andThen none k = none := rfl
@[simp] theorem isV1_bool (b : Bool) : isV1 (.bool b) = true := rfl
@[simp] theorem isV1_int (k : IntKind) (n : Int) : isV1 (.int k n) = true := rfl
@[simp] theorem isV1_str (s : List Nat) : isV1 (.str s) = true := rfl
@[simp] theorem isV1_ptr (b : Pos) (o : Nat) : isV1 (.ptr b o) = true := rfl
@[simp] theorem isV1_nptr : isV1 .nptr = true := rfl
@[simp] theorem isV1_nsl : isV1 .nsl = true := rfl
@[simp] theorem isV1_sl (b : Pos) (o l c : Nat) : isV1 (.sl b o l c) = true := rfl
@[simp] theorem isV1_slu (b : Pos) (o l c : Nat) : isV1 (.slu b o l c) = true := rfl
@[simp] theorem isV1_agg (xs : List AVal) : isV1 (.agg xs) = true := rfl
theorem Ret_1 {v : AVal} (h : isV1 v = true) (σ : S) (Q : AVal → S → Prop) : Ret [some v] σ Q = Q v σ := by
  simp [Ret, allV, h]
@[simp] theorem Ret_none (σ : S) (Q : AVal → S → Prop) : Ret [] σ Q = Q (.tup []) σ := by
  simp [Ret, allV]
theorem Ret_2 {v w : AVal} (h : isV1 v = true) (k : isV1 w = true) (σ : S) (Q : AVal → S → Prop) : Ret [some v, some w] σ Q = Q (.tup [v, w]) σ := by
  simp [Ret, allV, h, k]
theorem Ret_3 {v w x : AVal} (h : isV1 v = true) (k : isV1 w = true) (l : isV1 x = true) (σ : S) (Q : AVal → S → Prop) : Ret [some v, some w, some x] σ Q = Q (.tup [v, w, x]) σ := by
  simp [Ret, allV, h, k, l]
theorem binA_int {op : BinOp} {tk : TK} {k : IntKind} {a b : Int} (h : isSh op = false) : binA op tk (.int k a) (.int k b) = intOp op k a b := by
  show binII op k a k b = _
  unfold binII
  rw [h, keq_iff.2 rfl]
@[simp] theorem bin_add (tk : TK) (k : IntKind) (a b : Int) : binA .add tk (.int k a) (.int k b) = some (.int k (k.wrap (a + b))) := by
  rw [binA_int rfl]; show outIB k (iadd a b) = _; rw [outIB_eq, iadd_eq]
@[simp] theorem bin_sub (tk : TK) (k : IntKind) (a b : Int) : binA .sub tk (.int k a) (.int k b) = some (.int k (k.wrap (a - b))) := by
  rw [binA_int rfl]; show outIB k (isub a b) = _; rw [outIB_eq, isub_eq]
@[simp] theorem bin_mul (tk : TK) (k : IntKind) (a b : Int) : binA .mul tk (.int k a) (.int k b) = some (.int k (k.wrap (a * b))) := by
  rw [binA_int rfl]; show outIB k _ = _; rw [outIB_eq]; rfl
@[simp] theorem bin_eql (tk : TK) (k : IntKind) (a b : Int) : binA .eql tk (.int k a) (.int k b) = some (.bool (decide (a = b))) := by
  rw [binA_int rfl]; show outB _ = _; rw [outB_eq, ieq_eq]; rfl
@[simp] theorem bin_neq (tk : TK) (k : IntKind) (a b : Int) : binA .neq tk (.int k a) (.int k b) = some (.bool (decide (a ≠ b))) := by
  rw [binA_int rfl]; show outB _ = _; rw [outB_eq, notB_eq, ieq_eq]
  congr 2
  by_cases h : a = b <;> simp [h]
@[simp] theorem bin_lss (tk : TK) (k : IntKind) (a b : Int) : binA .lss tk (.int k a) (.int k b) = some (.bool (decide (a < b))) := by
  rw [binA_int rfl]; show outB _ = _; rw [outB_eq, ilt_eq]
@[simp] theorem bin_gtr (tk : TK) (k : IntKind) (a b : Int) : binA .gtr tk (.int k a) (.int k b) = some (.bool (decide (b < a))) := by
  rw [binA_int rfl]; show outB _ = _; rw [outB_eq, ilt_eq]
@[simp] theorem bin_leq (tk : TK) (k : IntKind) (a b : Int) : binA .leq tk (.int k a) (.int k b) = some (.bool (decide (a ≤ b))) := by
  rw [binA_int rfl]; show outB _ = _; rw [outB_eq, notB_eq, ilt_eq]
  congr 2
  by_cases h : b < a
  · rw [decide_eq_true h, decide_eq_false (by omega)]; rfl
  · rw [decide_eq_false h, decide_eq_true (by omega)]; rfl
@[simp] theorem bin_geq (tk : TK) (k : IntKind) (a b : Int) : binA .geq tk (.int k a) (.int k b) = some (.bool (decide (b ≤ a))) := by
  rw [binA_int rfl]; show outB _ = _; rw [outB_eq, notB_eq, ilt_eq]
  congr 2
  by_cases h : a < b
  · rw [decide_eq_true h, decide_eq_false (by omega)]; rfl
  · rw [decide_eq_false h, decide_eq_true (by omega)]; rfl
theorem nat_mod (a b : Nat) : Nat.mod a b = a % b := rfl
theorem natOf_u {k : IntKind} {n : Nat} : natOf k (n : Int) = n % 2 ^ k.bits := by
  show natOf k (.ofNat n) = _
  cases k <;> rfl
@[simp] theorem bin_and_nat (tk : TK) (k : IntKind) (a b : Nat) : binA .and tk (.int k (a : Int)) (.int k (b : Int)) = some (.int k (k.wrap (((a % 2 ^ k.bits) &&& (b % 2 ^ k.bits) : Nat) : Int))) := by
  rw [binA_int rfl]; show outIB k _ = _; rw [outIB_eq, natOf_u, natOf_u]; rfl
@[simp] theorem bin_or_nat (tk : TK) (k : IntKind) (a b : Nat) : binA .or tk (.int k (a : Int)) (.int k (b : Int)) = some (.int k (k.wrap (((a % 2 ^ k.bits) ||| (b % 2 ^ k.bits) : Nat) : Int))) := by
  rw [binA_int rfl]; show outIB k _ = _; rw [outIB_eq, natOf_u, natOf_u]; rfl
@[simp] theorem bin_xor_nat (tk : TK) (k : IntKind) (a b : Nat) : binA .xor tk (.int k (a : Int)) (.int k (b : Int)) = some (.int k (k.wrap (((a % 2 ^ k.bits) ^^^ (b % 2 ^ k.bits) : Nat) : Int))) := by
  rw [binA_int rfl]; show outIB k _ = _; rw [outIB_eq, natOf_u, natOf_u]; rfl
@[simp] theorem bin_shr_nat (tk : TK) (k l : IntKind) (a b : Nat) : binA .shr tk (.int k (a : Int)) (.int l (b : Int)) = some (.int k ((a / 2 ^ (min b k.bits) : Nat) : Int)) := by
  show outI k (.ofNat (Nat.div a (Nat.pow 2 (min b k.bits)))) = _
  rw [outI_eq]; rfl
@[simp] theorem bin_shl_nat (tk : TK) (k l : IntKind) (a : Int) (b : Nat) : binA .shl tk (.int k a) (.int l (b : Int)) = some (.int k (k.wrap (a * ((2 ^ (min b k.bits) : Nat) : Int)))) := by
  show outIB k (Int.mul a (.ofNat (Nat.pow 2 (min b k.bits)))) = _
  rw [outIB_eq]; rfl
@[simp] theorem vToInt_int (k l : IntKind) (n : Int) : vToInt k (.int l n) = some (.int k (k.wrap n)) := by
  show outIB k n = _; rw [outIB_eq]
@[simp] theorem un_xor_nat (k : IntKind) (n : Nat) (h : k.signed = false) : unA .xor (.int k (n : Int)) = some (.int k (k.wrap ((((k.max).toNat % 2 ^ k.bits) ^^^ (n % 2 ^ k.bits) : Nat) : Int))) := by
  show xorI k (if k.signed then -1 else k.max) n = _
  rw [h]
  show outIB k _ = _
  rw [outIB_eq]
  have : natOf k k.max = k.max.toNat % 2 ^ k.bits := by cases k <;> first | rfl | cases h
  simp only [Bool.false_eq_true, if_false]
  rw [this, natOf_u]; rfl
@[simp] theorem un_not (b : Bool) : unA .not (.bool b) = some (.bool (!b)) := by
  show outB _ = _; rw [outB_eq, notB_eq]
@[simp] theorem un_neg (k : IntKind) (n : Int) : unA .neg (.int k n) = some (.int k (k.wrap (-n))) := by
  show outIB k (Int.sub 0 n) = _; rw [outIB_eq]; congr 3; show 0 - n = -n; omega
@[simp] theorem eql_nn : binA .eql .ptr .nptr .nptr = some (.bool true) := rfl
@[simp] theorem eql_pn (b : Pos) (o : Nat) : binA .eql .ptr (.ptr b o) .nptr = some (.bool false) := rfl
@[simp] theorem neq_nn : binA .neq .ptr .nptr .nptr = some (.bool false) := rfl
@[simp] theorem neq_pn (b : Pos) (o : Nat) : binA .neq .ptr (.ptr b o) .nptr = some (.bool true) := rfl
theorem seqD_eq (a b : List Nat) : seq a b = decide (a = b) := by
  by_cases h : a = b
  · rw [decide_eq_true h]; exact seq_iff.2 h
  · rw [decide_eq_false h, ← Bool.not_eq_true]; exact fun e => h (seq_iff.1 e)
@[simp] theorem bin_eql_str (tk : TK) (a b : List Nat) : binA .eql tk (.str a) (.str b) = some (.bool (decide (a = b))) := by
  show outB (seq a b) = _; rw [outB_eq, seqD_eq]
@[simp] theorem bin_neq_str (tk : TK) (a b : List Nat) : binA .neq tk (.str a) (.str b) = some (.bool (decide (a ≠ b))) := by
  show outB (notB (seq a b)) = _; rw [outB_eq, notB_eq, seqD_eq]
  congr 2
  by_cases h : a = b <;> simp [h]
@[simp] theorem vLenStr_str (s : List Nat) : vLenStr (.str s) = some (.int .i64 (s.length : Int)) := by
  show outI .i64 (.ofNat (lenS s)) = _; rw [outI_eq, lenS_eq]; rfl
@[simp] theorem bin_eql_bool (a b : Bool) : binA .eql .bool (.bool a) (.bool b) = some (.bool (a == b)) := by
  show andThen (some (beqB a b)) outB = _
  rw [andThen_s, outB_eq, beqB_eq]
end
theorem wrap_i64_in {n : Int} (h : -9223372036854775808 ≤ n) (k : n ≤ 9223372036854775807) : IntKind.i64.wrap n = n := IntWalk.i64_in n ⟨h, k⟩
theorem wrap_u64_in {n : Int} (h : 0 ≤ n) (k : n ≤ 18446744073709551615) : IntKind.u64.wrap n = n := IntWalk.u64_in n ⟨h, k⟩
theorem wrap_u32_in {n : Int} (h : 0 ≤ n) (k : n ≤ 4294967295) : IntKind.u32.wrap n = n := IntWalk.u32_in n ⟨h, k⟩
theorem wrap_u8_in {n : Int} (h : 0 ≤ n) (k : n ≤ 255) : IntKind.u8.wrap n = n := IntWalk.u8_in n ⟨h, k⟩
end Go.Am
