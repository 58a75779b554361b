/-
  What the functions do, as conditions over the evaluator. Conditions: none.
-/
import Derived.Test.YtkgjghlklniaeaaFT
namespace Go.Am
section
variable {tab : Nat → Option PFn} {σ : S} {Q : AVal → S → Prop}

theorem bytesV_len (s : List Nat) : (bytesV s).length = s.length := by induction s <;> simp [bytesV, *]
theorem bytesV_app (s t : List Nat) : bytesV (s ++ t) = bytesV s ++ bytesV t := by induction s <;> simp [bytesV, *]
theorem bytesV_take (n : Nat) (s : List Nat) : (bytesV s).take n = bytesV (s.take n) := by
  induction s generalizing n with
  | nil => simp [bytesV]
  | cons c s ih => cases n <;> simp [bytesV, ih]
theorem bytesV_drop (n : Nat) (s : List Nat) : (bytesV s).drop n = bytesV (s.drop n) := by
  induction s generalizing n with
  | nil => simp [bytesV]
  | cons c s ih => cases n <;> simp [bytesV, ih]
theorem bytesV_at (n : Nat) (s : List Nat) : (bytesV s)[n]? = (s[n]?).map fun (c : Nat) => AVal.int .u8 (c : Int) := by
  induction s generalizing n with
  | nil => simp [bytesV]
  | cons c s ih => cases n <;> simp [bytesV, ih]
abbrev BySl (σ : S) (v : AVal) (bs : List Nat) (m : Nat) : Prop := SlAt σ v 1 bs.length (bytesV bs) m
abbrev ByGr (σ : S) (v : AVal) (bs : List Nat) (m : Nat) : Prop := GrAt σ v 1 bs.length (bytesV bs) m
def Bytes (bs : List Nat) : Prop := ∀ c ∈ bs, c < 256
theorem Bytes.nil : Bytes [] := fun c h => by cases h
theorem Bytes.app {a b : List Nat} (h : Bytes a) (k : Bytes b) : Bytes (a ++ b) := fun c hc => (List.mem_append.1 hc).elim (h c) (k c)
theorem Bytes.take {a : List Nat} (h : Bytes a) (n : Nat) : Bytes (a.take n) := fun c hc => h c (List.mem_of_mem_take hc)
theorem Bytes.drop {a : List Nat} (h : Bytes a) (n : Nat) : Bytes (a.drop n) := fun c hc => h c (List.mem_of_mem_drop hc)
theorem BySl.read {v : AVal} {bs : List Nat} {m : Nat} (h : BySl σ v bs m) : slRead 1 bs.length v σ = some (bytesV bs) := by
  rw [SlAt.slRead h (Nat.le_refl _), Nat.mul_one, ← bytesV_len, List.take_length]
theorem append_by (ho : Ok σ) {s x : AVal} {a b : List Nat} {m : Nat} (hg : ByGr σ s a m) (hk : slLen x = some b.length) (hr : slRead 1 b.length x σ = some (bytesV b)) (hf : a.length + b.length ≤ 1099511627776) :
    ∃ v σ' m', appendA 1 1 s x σ = some (v, σ') ∧ ByGr σ' v (a ++ b) m' ∧ Keep (fun y => y = m) σ σ' ∧ (m' = m ∨ (σ.next.nat ≤ m' ∧ m' < σ'.next.nat)) := by
  obtain ⟨v, σ', m', h1, h2, h3, h4⟩ := append_gr ho hg hk hr (by rw [bytesV_len]; omega) (bytes := 1) (by omega)
  exact ⟨v, σ', m', h1, by unfold ByGr; rw [bytesV_app, List.length_append]; exact h2, h3, h4⟩
theorem append_sl (ho : Ok σ) {s x : AVal} {a b : List Nat} {m k : Nat} (hg : ByGr σ s a m) (hx : BySl σ x b k) (hf : a.length + b.length ≤ 1099511627776) :
    ∃ v σ' m', appendA 1 1 s x σ = some (v, σ') ∧ ByGr σ' v (a ++ b) m' ∧ Keep (fun y => y = m) σ σ' ∧ (m' = m ∨ (σ.next.nat ≤ m' ∧ m' < σ'.next.nat)) :=
  append_by ho hg hx.slLen hx.read hf
theorem append_str (ho : Ok σ) {s : AVal} {a b : List Nat} {m : Nat} (hg : ByGr σ s a m) (hf : a.length + b.length ≤ 1099511627776) :
    ∃ v σ' m', appendA 1 1 s (.str b) σ = some (v, σ') ∧ ByGr σ' v (a ++ b) m' ∧ Keep (fun y => y = m) σ σ' ∧ (m' = m ∨ (σ.next.nat ≤ m' ∧ m' < σ'.next.nat)) := by
  refine append_by ho hg (by show some (lenS b) = _; rw [lenS_eq]) ?_ hf
  show test (Nat.beq 1 1) (takeN b.length (bytesV b)) = _
  rw [show Nat.beq 1 1 = true from rfl, test_tt, takeN_eq]
  exact ⟨by rw [bytesV_len]; omega, by rw [← bytesV_len, List.take_length]⟩
theorem Keep.empty {σ' : S} (ho : Ok σ) {m : Nat} (hm : σ.next.nat ≤ m) (h : Keep (fun y => y = m) σ σ') : Keep (fun _ => False) σ σ' := h.weak ho fun x hx e => by omega

theorem zig_c (ht : Tab tab) {n : Int} (h0 : 0 ≤ n) (h1 : n < 4611686018427387904) (hQ : Q (.int .u64 (2 * n)) σ) : WF tab 110 [.int .i64 n] σ Q := by
  refine f110_wf ht.t110 ?_
  obtain ⟨k, rfl⟩ := Int.eq_ofNat_of_zero_le h0
  unfold f110
  have e1 : IntKind.u64.wrap (k : Int) = (k : Int) := wrap_u64_in (by omega) (by omega)
  have e2 : ((k / 2 ^ 63 : Nat) : Int) = ((0 : Nat) : Int) := by
    rw [Nat.div_eq_of_lt (by omega)]
  have s1 : ∀ c : Int, binA .shl .num (.int .u64 c) (.int .u64 1) = some (.int .u64 (IntKind.u64.wrap (c * ((2 ^ (min 1 64) : Nat) : Int)))) := fun c => bin_shl_nat _ _ _ c 1
  have s2 : binA .shr .num (.int .i64 (k : Int)) (.int .u64 63) = some (.int .i64 ((k / 2 ^ (min 63 64) : Nat) : Int)) := bin_shr_nat .num .i64 .u64 k 63
  simp only [vToInt_int, Som_some, e1, s1, s2]
  have e3 : IntKind.u64.wrap ((k : Int) * ((2 ^ (min 1 64) : Nat) : Int)) = ((2 * k : Nat) : Int) := by
    rw [wrap_u64_in] <;> simp <;> omega
  rw [e3, show min 63 64 = 63 from rfl, e2, show IntKind.u64.wrap ((0 : Nat) : Int) = ((0 : Nat) : Int) from rfl, bin_xor_nat]
  simp only [Som_some]
  rw [Ret_1 rfl]
  have : ((2 * k % 2 ^ IntKind.u64.bits ^^^ 0 % 2 ^ IntKind.u64.bits : Nat) : Int) = 2 * (k : Int) := by
    rw [show (2 : Nat) ^ IntKind.u64.bits = 18446744073709551616 from rfl, Nat.zero_mod, Nat.xor_zero, Nat.mod_eq_of_lt (by omega)]; omega
  rw [this, wrap_u64_in (by omega) (by omega)]
  exact hQ
def enc (u : Nat) : List Nat := if h : u < 128 then [u] else (u % 128 + 128) :: enc (u / 128)
termination_by u
theorem enc_small {u : Nat} (h : u < 128) : enc u = [u] := by rw [enc, dif_pos h]
theorem enc_big {u : Nat} (h : ¬ u < 128) : enc u = (u % 128 + 128) :: enc (u / 128) := by rw [enc, dif_neg h]
theorem enc_bytes (u : Nat) : Bytes (enc u) := by
  induction u using Nat.strongRecOn with
  | ind u ih =>
    by_cases h : u < 128
    · rw [enc_small h]; intro c hc; cases hc with
      | head => omega
      | tail _ h => cases h
    · rw [enc_big h]; intro c hc; cases hc with
      | head => omega
      | tail _ hc => exact ih (u / 128) (by omega) c hc
theorem or128 : ∀ x, x < 256 → x ||| 128 = x % 128 + 128 := by decide +kernel
theorem enc_len {u : Nat} (k : Nat) (h : u < 128 ^ (k + 1)) : (enc u).length ≤ k + 1 := by
  induction k generalizing u with
  | zero => rw [enc_small (by simpa using h)]; simp
  | succ k ih =>
    by_cases hu : u < 128
    · rw [enc_small hu]; simp
    · rw [enc_big hu, List.length_cons]
      have := ih (u := u / 128) (by rw [Nat.pow_succ] at h; omega)
      omega
theorem put_loop (u : Nat) : ∀ (E : En) (σ : S) (v : AVal) (a : List Nat) (m : Nat), Ok σ → E 0 = v → E 5 = .int .u64 (u : Int) → u < 18446744073709551616 → ByGr σ v a m → a.length + (enc u).length ≤ 1099511627776 →
    (∀ v' σ' m', ByGr σ' v' (a ++ enc u) m' → Keep (fun y => y = m) σ σ' → (m' = m ∨ (σ.next.nat ≤ m' ∧ m' < σ'.next.nat)) → Q v' σ') → f99.L0 (WF tab) Q E σ := by
  induction u using Nat.strongRecOn with
  | ind u ih =>
    intro E σ v a m ho h0 h5 hu hg hl hQ
    refine f99.p0_of ?_
    unfold f99.p0
    rw [h5]
    simp only [bin_geq, Som_some]
    refine WIf_dec (fun hge => ?_) (fun hlt => ?_)
    · have hge : 128 ≤ u := by omega
      rw [enc_big (by omega)] at hQ hl
      rw [List.length_cons] at hl
      have s2 : binA .shr .num (.int .u64 (u : Int)) (.int .u64 7) = some (.int .u64 ((u / 2 ^ (min 7 64) : Nat) : Int)) := bin_shr_nat .num .u64 .u64 u 7
      have s1 : IntKind.u8.wrap (u : Int) = ((u % 256 : Nat) : Int) := by rw [IntKind.wrap_u8]; omega
      have s3 : binA .or .num (.int .u8 ((u % 256 : Nat) : Int)) (.int .u8 128) = some (.int .u8 (IntKind.u8.wrap (((u % 256) % 256 ||| 128 % 256 : Nat) : Int))) := bin_or_nat .num .u8 (u % 256) 128
      have s4 : IntKind.u8.wrap (((u % 256) % 256 ||| 128 % 256 : Nat) : Int) = ((u % 128 + 128 : Nat) : Int) := by
        have e : (u % 256) % 256 ||| 128 % 256 = u % 128 + 128 := by
          rw [show 128 % 256 = 128 from rfl, Nat.mod_mod, or128 _ (by omega)]; omega
        exact (congrArg (fun k : Nat => IntKind.u8.wrap (k : Int)) e).trans (wrap_u8_in (n := ((u % 128 + 128 : Nat) : Int)) (by omega) (by omega))
      simp only [vToInt_int, s1, Som_some, s3, s4]
      rw [made1 _ rfl]
      simp only [Ala_some]
      have k1 : Keep (fun y => y = m) σ (σ.new ⟨1, .ex, [.int .u8 ((u % 128 + 128 : Nat) : Int)]⟩) := Keep.new ho _
      have hs := made1_sl (σ := σ) (.int .u8 ((u % 128 + 128 : Nat) : Int))
      obtain ⟨v', σ', m', a1, a2, a3, a4⟩ := append_sl (b := [u % 128 + 128]) k1.ok (hg.keep (M := fun _ => False) (fun h => h) (Keep.new ho _)) hs (by rw [List.length_singleton]; omega)
      rw [h0, a1]
      simp only [Eff_some, s2, Som_some]
      refine ih (u / 128) (by omega) _ σ' v' (a ++ [u % 128 + 128]) m' a3.ok (by simp) (by simp) (by omega) a2 ?_ ?_
      · rw [List.length_append, List.length_singleton]; omega
      · intro v2 σ2 m2 b1 b2 b3
        have hn := k1.next
        have hn' := a3.next
        have hz : (σ.new ⟨1, .ex, [.int .u8 ((u % 128 + 128 : Nat) : Int)]⟩).next.nat = σ.next.nat + 1 := by rw [next_new, succ_nat]
        refine hQ v2 σ2 m2 (by rw [List.append_assoc] at b1; exact b1) ?_ ?_
        · have k2 : Keep (fun y => y = m) σ σ' := k1.trans a3
          exact k2.then ho b2 (fun x hx e => by omega)
        · have := b2.next; omega
    · have hlt : u < 128 := by omega
      rw [enc_small hlt] at hQ hl
      rw [List.length_singleton] at hl
      show wC (WF tab) f99.c1 _ _ _
      refine f99.p1_of ?_
      unfold f99.p1
      have s1 : IntKind.u8.wrap (u : Int) = ((u : Nat) : Int) := by rw [IntKind.wrap_u8]; omega
      simp only [En.set_get]
      simp only [show (5 : Nat) ≠ 9 by omega, show (5 : Nat) ≠ 8 by omega, if_false, h5, vToInt_int, s1, Som_some]
      rw [made1 _ rfl]
      simp only [Ala_some]
      have k1 : Keep (fun y => y = m) σ (σ.new ⟨1, .ex, [.int .u8 ((u : Nat) : Int)]⟩) := Keep.new ho _
      have hs := made1_sl (σ := σ) (.int .u8 ((u : Nat) : Int))
      obtain ⟨v', σ', m', a1, a2, a3, a4⟩ := append_sl (b := [u]) k1.ok (hg.keep (M := fun _ => False) (fun h => h) (Keep.new ho _)) hs (by rw [List.length_singleton]; omega)
      simp only [show (0 : Nat) ≠ 9 by omega, show (0 : Nat) ≠ 8 by omega, if_false, h0]
      rw [a1]
      simp only [Eff_some]
      rw [Ret_1 a2.sl.v1]
      have hz : (σ.new ⟨1, .ex, [.int .u8 ((u : Nat) : Int)]⟩).next.nat = σ.next.nat + 1 := by rw [next_new, succ_nat]
      exact hQ v' σ' m' a2 (k1.trans a3) (by omega)
end
end Go.Am
namespace Go.Am
section
variable {tab : Nat → Option PFn} {σ : S} {Q : AVal → S → Prop}
abbrev Keep0 (σ σ' : S) : Prop := Keep (fun _ => False) σ σ'
theorem Keep0.to {M : Nat → Prop} {σ σ' : S} (h : Keep0 σ σ') : Keep M σ σ' := h.mono fun _ h => h.elim
theorem new_next (b : Blk) : (σ.new b).next.nat = σ.next.nat + 1 := by rw [next_new, succ_nat]
theorem put_c (ht : Tab tab) {n : Int} {v : AVal} {a : List Nat} {m : Nat} (h0 : 0 ≤ n) (h1 : n < 4611686018427387904) (ho : Ok σ) (hg : ByGr σ v a m) (hl : a.length + 10 ≤ 1099511627776)
    (hQ : ∀ v' σ' m', ByGr σ' v' (a ++ enc (2 * n.toNat)) m' → Keep (fun y => y = m) σ σ' → (m' = m ∨ (σ.next.nat ≤ m' ∧ m' < σ'.next.nat)) → Q v' σ') : WF tab 99 [v, .int .i64 n] σ Q := by
  refine f99_wf ht.t99 ?_
  unfold f99
  refine zig_c ht h0 h1 ?_
  have hn : 2 * n.toNat < 18446744073709551616 := by omega
  have hl10 : (enc (2 * n.toNat)).length ≤ 10 := enc_len 9 (Nat.lt_of_lt_of_le hn (by decide))
  refine put_loop (2 * n.toNat) _ σ v a m ho (by simp) ?_ hn hg (by omega) hQ
  simp only [En.set_get, if_true]
  congr 1; omega
theorem again_c (ht : Tab tab) {v : AVal} {a : List Nat} {m : Nat} {k : Int} (ho : Ok σ) (hs : BySl σ v a m) (h0 : 0 ≤ k) (hl : (a.length : Int) + k ≤ 1099511627776)
    (hQ : ∀ v' σ' m', ByGr σ' v' a m' → Keep0 σ σ' → σ.next.nat ≤ m' → m' < σ'.next.nat → Q v' σ') : WF tab 100 [v, .int .i64 k] σ Q := by
  refine f100_wf ht.t100 ?_
  unfold f100
  obtain ⟨k, rfl⟩ := Int.eq_ofNat_of_zero_le h0
  rw [hs.len]
  simp only [Som_some, bin_add]
  have e : IntKind.i64.wrap ((a.length : Int) + (k : Int)) = ((a.length + k : Nat) : Int) := by
    rw [wrap_i64_in] <;> omega
  rw [e]
  have hm : aMakeV 1 1 [AVal.int .u8 0] (.int .i64 0) (.int .i64 ((a.length + k : Nat) : Int)) = _ := make_of (l := 0) (esz := 1) (z := [AVal.int .u8 0]) (Nat.zero_le _) (by omega) (by omega)
  rw [hm, Ala_some]
  have k1 : Keep0 σ (σ.new ⟨1, .ex, repN (a.length + k) [.int .u8 0]⟩) := Keep.new ho _
  have hg : ByGr (σ.new ⟨1, .ex, repN (a.length + k) [.int .u8 0]⟩) (.sl σ.next 0 0 (a.length + k)) [] σ.next.nat := by
    have := made_gr (σ := σ) 1 0 (a.length + k) (z := [AVal.int .u8 0]) rfl (Nat.zero_le _)
    simp only [Nat.zero_mul, List.take_zero] at this
    exact this
  obtain ⟨v', σ', m', a1, a2, a3, a4⟩ := append_sl k1.ok hg (hs.keep (fun _ h => h) k1) (by rw [List.length_nil]; omega)
  rw [a1, Eff_some, Ret_1 a2.sl.v1]
  have hz := new_next (σ := σ) ⟨1, .ex, repN (a.length + k) [.int .u8 0]⟩
  have hn := a3.next
  refine hQ v' σ' m' a2 (k1.then ho a3 fun x hx e => by omega) (by omega) (by omega)
theorem Num_c (ht : Tab tab) {n : Int} {v : AVal} {a : List Nat} {m : Nat} (h0 : 0 ≤ n) (h1 : n < 4611686018427387904) (ho : Ok σ) (hs : BySl σ v a m) (hl : a.length + 10 ≤ 1099511627776)
    (hQ : ∀ v' σ' m', ByGr σ' v' (a ++ enc (2 * n.toNat)) m' → Keep0 σ σ' → σ.next.nat ≤ m' → m' < σ'.next.nat → Q v' σ') : WF tab 77 [v, .int .i64 n] σ Q := by
  refine f77_wf ht.t77 ?_
  unfold f77
  refine again_c ht ho hs (by omega) (by omega) fun v1 σ1 m1 g1 k1 l1 l2 => ?_
  refine put_c ht h0 h1 k1.ok g1 hl fun v2 σ2 m2 g2 k2 l3 => ?_
  rw [Ret_1 g2.sl.v1]
  have := k1.next; have := k2.next
  exact hQ v2 σ2 m2 g2 (k1.then ho k2 fun x hx e => by omega) (by omega) (by omega)

def crc1 (s : Nat) : Nat := (s / 2) ^^^ (3988292384 * (s % 2))
def crcN : Nat → Nat → Nat
  | 0, s => s
  | n + 1, s => crcN n (crc1 s)
def crcB (s c : Nat) : Nat := crcN 8 (s ^^^ c)
def crcS (s : Nat) (p : List Nat) : Nat := p.foldl crcB s
def crcAdd (c : Nat) (p : List Nat) : Nat := 4294967295 ^^^ crcS (4294967295 ^^^ c) p
def crcOf (l : List (List Nat)) : Nat := l.foldl crcAdd 0
theorem xor_lt32 {a b : Nat} (ha : a < 4294967296) (hb : b < 4294967296) : a ^^^ b < 4294967296 := Nat.xor_lt_two_pow (n := 32) ha hb
theorem crc1_lt {s : Nat} (h : s < 4294967296) : crc1 s < 4294967296 := by
  unfold crc1
  refine xor_lt32 (by omega) ?_
  have : s % 2 < 2 := Nat.mod_lt _ (by omega)
  omega
theorem crcN_lt (n : Nat) {s : Nat} (h : s < 4294967296) : crcN n s < 4294967296 := by
  induction n generalizing s with
  | zero => exact h
  | succ n ih => exact ih (crc1_lt h)
theorem crcS_lt {p : List Nat} (hp : Bytes p) {s : Nat} (h : s < 4294967296) : crcS s p < 4294967296 := by
  induction p generalizing s with
  | nil => exact h
  | cons c p ih =>
    refine ih (fun d hd => hp d (List.mem_cons_of_mem _ hd)) (crcN_lt 8 (xor_lt32 h ?_))
    have := hp c List.mem_cons_self; omega
theorem crcAdd_lt {c : Nat} {p : List Nat} (hp : Bytes p) (h : c < 4294967296) : crcAdd c p < 4294967296 :=
  xor_lt32 (by omega) (crcS_lt hp (xor_lt32 (by omega) h))
theorem u32_bits : (2 : Nat) ^ IntKind.u32.bits = 4294967296 := rfl
theorem bin_xor32 {tk : TK} {a b : Nat} (ha : a < 4294967296) (hb : b < 4294967296) : binA .xor tk (.int .u32 (a : Int)) (.int .u32 (b : Int)) = some (.int .u32 ((a ^^^ b : Nat) : Int)) := by
  rw [bin_xor_nat, u32_bits, Nat.mod_eq_of_lt ha, Nat.mod_eq_of_lt hb]
  have := xor_lt32 ha hb
  rw [wrap_u32_in (n := ((a ^^^ b : Nat) : Int)) (by omega) (by omega)]
theorem un_xor32 {a : Nat} (ha : a < 4294967296) : unA .xor (.int .u32 (a : Int)) = some (.int .u32 ((4294967295 ^^^ a : Nat) : Int)) := by
  rw [un_xor_nat _ _ rfl, u32_bits, Nat.mod_eq_of_lt ha]
  have := xor_lt32 (a := 4294967295) (by omega) ha
  exact congrArg (fun z => some (AVal.int .u32 z)) (wrap_u32_in (n := ((4294967295 ^^^ a : Nat) : Int)) (by omega) (by omega))
theorem crc_bits (s : Nat) (h : s < 4294967296) :
    (∃ t24 t26 t28, binA .and .num (.int .u32 (s : Int)) (.int .u32 1) = some t24 ∧ binA .shr .num (.int .u32 (s : Int)) (.int .u64 1) = some t26 ∧ binA .mul .num (.int .u32 3988292384) t24 = some t28 ∧
      binA .xor .num t26 t28 = some (.int .u32 (crc1 s : Int))) := by
  have hm : s % 2 < 2 := Nat.mod_lt _ (by omega)
  have e1 : binA .and .num (.int .u32 (s : Int)) (.int .u32 1) = some (.int .u32 ((s % 2 : Nat) : Int)) := by
    have := bin_and_nat .num .u32 s 1
    rw [u32_bits, Nat.mod_eq_of_lt h, show 1 % 4294967296 = 1 from rfl, Nat.and_one_is_mod] at this
    rw [wrap_u32_in (n := ((s % 2 : Nat) : Int)) (by omega) (by omega)] at this
    exact this
  have e2 : binA .shr .num (.int .u32 (s : Int)) (.int .u64 1) = some (.int .u32 ((s / 2 : Nat) : Int)) := bin_shr_nat .num .u32 .u64 s 1
  have e3 : binA .mul .num (.int .u32 3988292384) (.int .u32 ((s % 2 : Nat) : Int)) = some (.int .u32 ((3988292384 * (s % 2) : Nat) : Int)) := by
    rw [bin_mul, wrap_u32_in (n := 3988292384 * ((s % 2 : Nat) : Int)) (by omega) (by omega)]
    congr 2
  exact ⟨_, _, _, e1, e2, e3, bin_xor32 (by omega) (by omega)⟩
theorem add_in (k : Nat) : ∀ (E : En) (σ : S) (s : Nat) (i : Nat), s < 4294967296 → i + k = 8 → E 21 = .int .i64 (i : Int) → E 5 = .int .u32 (s : Int) →
    (∀ E', E' 5 = .int .u32 (crcN k s : Int) → E' 13 = (match binA .add .num (E 13) (.int .i64 1) with | some v => v | none => .undef) → E' 11 = E 11 → E' 12 = E 12 → f111.L0 (WF tab) Q E' σ) →
    (∃ v, binA .add .num (E 13) (.int .i64 1) = some v) → f111.L1 (WF tab) Q E σ := by
  induction k with
  | zero =>
    intro E σ s i hs hi h21 h5 hQ ⟨v, hv⟩
    refine f111.p1_of ?_
    unfold f111.p1
    rw [h21, h5]
    simp only [bin_lss, Som_some]
    rw [decide_eq_false (by omega)]
    simp only [WIf_false, hv, Som_some]
    refine hQ _ ?_ ?_ ?_ ?_
    · simp [h5, crcN]
    · simp only [En.set_get, if_true]; rw [hv]
    · simp
    · simp
  | succ k ih =>
    intro E σ s i hs hi h21 h5 hQ hv
    refine f111.p1_of ?_
    unfold f111.p1
    rw [h21, h5]
    simp only [bin_lss, Som_some]
    rw [decide_eq_true (by omega)]
    obtain ⟨t24, t26, t28, e1, e2, e3, e4⟩ := crc_bits s hs
    simp only [WIf_true, e1, e2, e3, e4, Som_some, bin_add]
    rw [wrap_i64_in (n := (i : Int) + 1) (by omega) (by omega)]
    refine ih _ σ (crc1 s) (i + 1) (crc1_lt hs) (by omega) (by simp) (by simp) ?_ ?_
    · intro E' g5 g13 g11 g12
      refine hQ E' g5 ?_ ?_ ?_
      · simpa using g13
      · simpa using g11
      · simpa using g12
    · simpa using hv
theorem add_loop (k : Nat) : ∀ (E : En) (σ : S) (v : AVal) (p : List Nat) (m s i : Nat), BySl σ v p m → Bytes p → p.length < 4611686018427387904 → s < 4294967296 → i + k = p.length → E 11 = v → E 12 = .int .i64 (p.length : Int) → E 13 = .int .i64 (i : Int) → E 5 = .int .u32 (s : Int) →
    Q (.int .u32 ((4294967295 ^^^ crcS s (p.drop i) : Nat) : Int)) σ → f111.L0 (WF tab) Q E σ := by
  induction k with
  | zero =>
    intro E σ v p m s i hp hb hl hs hi h11 h12 h13 h5 hQ
    refine f111.p0_of ?_
    unfold f111.p0
    rw [h13, h12, h5]
    simp only [bin_lss, Som_some]
    rw [decide_eq_false (by omega)]
    simp only [WIf_false, un_xor32 hs, Som_some]
    rw [Ret_1 rfl]
    rw [List.drop_of_length_le (by omega)] at hQ
    exact hQ
  | succ k ih =>
    intro E σ v p m s i hp hb hl hs hi h11 h12 h13 h5 hQ
    refine f111.p0_of ?_
    unfold f111.p0
    rw [h13, h12, h5, h11]
    simp only [bin_lss, Som_some]
    rw [decide_eq_true (by omega)]
    obtain ⟨q, q1, q2⟩ := hp.get1 (k := i) (by omega)
    have hc : p[i]? = some p[i] := List.getElem?_eq_getElem (by omega)
    have hb' : p[i] < 256 := hb _ (List.getElem_mem _)
    simp only [WIf_true, q1, q2, bytesV_at, hc, Option.map_some, Som_some, vToInt_int]
    rw [wrap_u32_in (n := ((p[i] : Nat) : Int)) (by omega) (by omega), bin_xor32 hs (by omega)]
    simp only [Som_some]
    refine add_in 8 _ σ (s ^^^ p[i]) 0 (xor_lt32 hs (by omega)) (by omega) (by simp) (by simp) ?_ ?_
    · intro E' g5 g13 g11 g12
      refine ih E' σ v p m (crcB s p[i]) (i + 1) hp hb hl (crcN_lt 8 (xor_lt32 hs (by omega))) (by omega) ?_ ?_ ?_ g5 ?_
      · simpa [h11] using g11
      · simpa [h12] using g12
      · rw [g13]
        simp only [En.set_get]
        simp only [show (13 : Nat) ≠ 21 by omega, show (13 : Nat) ≠ 5 by omega, show (13 : Nat) ≠ 20 by omega, show (13 : Nat) ≠ 19 by omega, show (13 : Nat) ≠ 18 by omega, show (13 : Nat) ≠ 17 by omega, show (13 : Nat) ≠ 7 by omega, show (13 : Nat) ≠ 16 by omega, show (13 : Nat) ≠ 15 by omega, show (13 : Nat) ≠ 14 by omega, if_false, h13, bin_add]
        rw [wrap_i64_in (n := (i : Int) + 1) (by omega) (by omega)]; rfl
      · rw [List.drop_eq_getElem_cons (by omega)] at hQ
        exact hQ
    · simp [h13]
theorem add_c (ht : Tab tab) {c : Nat} {v : AVal} {p : List Nat} {m : Nat} (hc : c < 4294967296) (hp : BySl σ v p m) (hb : Bytes p) (hl : p.length < 4611686018427387904)
    (hQ : Q (.int .u32 ((crcAdd c p : Nat) : Int)) σ) : WF tab 111 [.int .u32 (c : Int), v] σ Q := by
  refine f111_wf ht.t111 ?_
  unfold f111
  rw [un_xor32 hc, hp.len]
  simp only [Som_some]
  exact add_loop p.length _ σ v p m (4294967295 ^^^ c) 0 hp hb hl (xor_lt32 (by omega) hc) (by omega) (by simp) (by simp) (by simp) (by simp) hQ
theorem of_loop (ht : Tab tab) (k : Nat) : ∀ (E : En) (σ : S) (v : AVal) (vs : List AVal) (ps : List (List Nat)) (m c i : Nat), SlAt σ v 1 vs.length vs m → vs.length = ps.length → ps.length < 1000000 →
    (∀ (j : Nat) (p : List Nat) (x : AVal), ps[j]? = some p → vs[j]? = some x → ∃ m', BySl σ x p m' ∧ Bytes p ∧ p.length < 4611686018427387904) → c < 4294967296 → i + k = ps.length →
    E 6 = v → E 7 = .int .i64 (vs.length : Int) → E 8 = .int .i64 (i : Int) → E 3 = .int .u32 (c : Int) → Q (.int .u32 (((ps.drop i).foldl crcAdd c : Nat) : Int)) σ → f102.L0 (WF tab) Q E σ := by
  induction k with
  | zero =>
    intro E σ v vs ps m c i hv hlen hl1 hall hc hi h6 h7 h8 h3 hQ
    refine f102.p0_of ?_
    unfold f102.p0
    rw [h7, h8, h3]
    simp only [bin_lss, Som_some]
    rw [decide_eq_false (by omega)]
    simp only [WIf_false]
    rw [Ret_1 rfl]
    rw [List.drop_of_length_le (by omega)] at hQ
    exact hQ
  | succ k ih =>
    intro E σ v vs ps m c i hv hlen hl1 hall hc hi h6 h7 h8 h3 hQ
    refine f102.p0_of ?_
    unfold f102.p0
    rw [h7, h8, h3, h6]
    simp only [bin_lss, Som_some]
    rw [decide_eq_true (by omega)]
    obtain ⟨q, q1, q2⟩ := hv.get1 (k := i) (by omega)
    have hx : vs[i]? = some vs[i] := List.getElem?_eq_getElem (by omega)
    have hp : ps[i]? = some ps[i] := List.getElem?_eq_getElem (by omega)
    obtain ⟨m', g1, g2, g3⟩ := hall i _ _ hp hx
    simp only [WIf_true, q1, q2, hx, Som_some]
    refine add_c ht hc g1 g2 g3 ?_
    simp only [bin_add, Som_some]
    rw [wrap_i64_in (n := (i : Int) + 1) (by omega) (by omega)]
    refine ih _ σ v vs ps m (crcAdd c ps[i]) (i + 1) hv hlen hl1 hall (crcAdd_lt g2 hc) (by omega) (by simp [h6]) (by simp [h7]) (by simp) (by simp) ?_
    rw [List.drop_eq_getElem_cons (by omega)] at hQ
    exact hQ
theorem of_c (ht : Tab tab) {v : AVal} {vs : List AVal} {ps : List (List Nat)} {m : Nat} (hv : SlAt σ v 1 vs.length vs m) (hlen : vs.length = ps.length) (hl : ps.length < 1000000)
    (hall : ∀ (j : Nat) (p : List Nat) (x : AVal), ps[j]? = some p → vs[j]? = some x → ∃ m', BySl σ x p m' ∧ Bytes p ∧ p.length < 4611686018427387904) (hQ : Q (.int .u32 ((crcOf ps : Nat) : Int)) σ) : WF tab 102 [v] σ Q := by
  refine f102_wf ht.t102 ?_
  unfold f102
  rw [hv.len]
  simp only [Som_some]
  exact of_loop ht ps.length _ σ v vs ps m 0 0 hv hlen hl hall (by omega) (by omega) (by simp) (by simp) (by simp) (by simp) hQ
end
end Go.Am
namespace Go.Am
section
variable {tab : Nat → Option PFn} {σ : S} {Q : AVal → S → Prop}
def le4 (n : Nat) : List Nat := [n % 256, n / 256 % 256, n / 65536 % 256, n / 16777216 % 256]
def num4 : List Nat → Nat
  | a :: b :: c :: d :: _ => a + 256 * b + 65536 * c + 16777216 * d
  | _ => 0
theorem le4_len (n : Nat) : (le4 n).length = 4 := rfl
theorem le4_bytes (n : Nat) : Bytes (le4 n) := by
  intro c hc
  simp only [le4, List.mem_cons, List.not_mem_nil, or_false] at hc
  omega
theorem num4_lt {l : List Nat} (h : Bytes l) : num4 l < 4294967296 := by
  unfold num4
  split
  · rename_i a b c d r
    have h1 := h a (by simp); have h2 := h b (by simp); have h3 := h c (by simp); have h4 := h d (by simp)
    omega
  · omega
theorem made4 (a b c d z : AVal) (ha : cellsOf a = some [a]) (hb : cellsOf b = some [b]) (hc : cellsOf c = some [c]) (hd : cellsOf d = some [d]) :
    aSliceV 1 [z] 4 [(0, 1, a), (1, 1, b), (2, 1, c), (3, 1, d)] = some (⟨1, .ex, [a, b, c, d]⟩, fun p => .sl p 0 4 4) := by
  unfold aSliceV
  have e : fillA (repN 4 [z]) [(0, 1, a), (1, 1, b), (2, 1, c), (3, 1, d)] = some [a, b, c, d] := by
    simp only [fillA, ha, hb, hc, hd, andThen_s]
    rfl
  rw [e]; rfl
theorem made2 (a b z : AVal) (ha : cellsOf a = some [a]) (hb : cellsOf b = some [b]) :
    aSliceV 1 [z] 2 [(0, 1, a), (1, 1, b)] = some (⟨1, .ex, [a, b]⟩, fun p => .sl p 0 2 2) := by
  unfold aSliceV
  have e : fillA (repN 2 [z]) [(0, 1, a), (1, 1, b)] = some [a, b] := by
    simp only [fillA, ha, hb, andThen_s]
    rfl
  rw [e]; rfl
theorem exSl {σ' : S} {p : Pos} {n : Nat} {cs : List AVal} (hb : σ'.blk p = some ⟨1, .ex, cs⟩) (hn : cs.length = n) : SlAt σ' (.sl p 0 n n) 1 n cs p.nat := by
  refine ⟨by omega, rfl, Nat.le_refl _, fun _ => ⟨_, hb, rfl, ?_, ?_⟩⟩
  · show 0 + n * 1 ≤ cs.length; omega
  · show (cs.drop 0).take (n * 1) = cs
    rw [List.drop_zero, Nat.mul_one, ← hn, List.take_length]
theorem SlAt.cells {v : AVal} {esz n m : Nat} {cs : List AVal} (h : SlAt σ v esz n cs m) : cellsOf v = some [v] := by
  cases v <;> first | rfl | exact h.2.elim
theorem u8_wrap (n : Nat) : IntKind.u8.wrap (n : Int) = ((n % 256 : Nat) : Int) := by rw [IntKind.wrap_u8]; omega
theorem four_c (ht : Tab tab) {n : Nat} (ho : Ok σ) (hQ : ∀ v σ', BySl σ' v (le4 n) σ.next.nat → Keep0 σ σ' → σ'.next.nat = σ.next.nat + 1 → Q v σ') : WF tab 101 [.int .u32 (n : Int)] σ Q := by
  refine f101_wf ht.t101 ?_
  unfold f101
  have s1 : ∀ k : Nat, k < 32 → binA .shr .num (.int .u32 (n : Int)) (.int .u64 (k : Int)) = some (.int .u32 ((n / 2 ^ k : Nat) : Int)) := fun k hk => by
    rw [bin_shr_nat, Nat.min_eq_left (by show k ≤ 32; omega)]
  have a1 := s1 8 (by omega); have a2 := s1 16 (by omega); have a3 := s1 24 (by omega)
  rw [show ((8 : Nat) : Int) = 8 from rfl] at a1
  rw [show ((16 : Nat) : Int) = 16 from rfl] at a2
  rw [show ((24 : Nat) : Int) = 24 from rfl] at a3
  simp only [vToInt_int, u8_wrap, Som_some, a1, a2, a3]
  rw [made4 _ _ _ _ _ rfl rfl rfl rfl, Ala_some]
  rw [Ret_1 rfl]
  refine hQ _ _ (exSl (by rw [blk_new, if_pos rfl]; rfl) rfl) (Keep.new ho _) (new_next _)
theorem or_add {a b i p : Nat} (hp : 2 ^ i = p) (h : a < p) : a ||| p * b = a + p * b := by
  subst hp
  have := Nat.two_pow_add_eq_or_of_lt h b
  rw [Nat.or_comm, ← this, Nat.add_comm]
theorem w32 {x : Nat} (h : x < 4294967296) : IntKind.u32.wrap (x : Int) = (x : Int) := wrap_u32_in (by omega) (by omega)
theorem sh32 {x k p : Nat} (hk : k ≤ 32) (hp : 2 ^ k = p) (hl : p * x < 4294967296) : binA .shl .num (.int .u32 (x : Int)) (.int .u64 (k : Int)) = some (.int .u32 ((p * x : Nat) : Int)) := by
  rw [bin_shl_nat, Nat.min_eq_left (show k ≤ IntKind.u32.bits from hk), hp]
  have e : (x : Int) * ((p : Nat) : Int) = ((p * x : Nat) : Int) := by rw [Int.natCast_mul, Int.mul_comm]
  rw [e, w32 hl]
theorem or32 {x y z : Nat} (hx : x < 4294967296) (hy : y < 4294967296) (hz : x ||| y = z) (hl : z < 4294967296) : binA .or .num (.int .u32 (x : Int)) (.int .u32 (y : Int)) = some (.int .u32 (z : Int)) := by
  rw [bin_or_nat, u32_bits, Nat.mod_eq_of_lt hx, Nat.mod_eq_of_lt hy, hz, w32 hl]
theorem number_c (ht : Tab tab) {v : AVal} {bs : List Nat} {m : Nat} (ho : Ok σ) (hv : BySl σ v bs m) (hb : Bytes bs) (hl : 4 ≤ bs.length) (hQ : ∀ σ', Keep0 σ σ' → Q (.int .u32 ((num4 bs : Nat) : Int)) σ') : WF tab 103 [v] σ Q := by
  refine f103_wf ht.t103 ?_
  unfold f103
  have k0 : Keep0 σ (σ.bumpT 23) := Keep.bump ho 23
  have hv' := hv.keep (fun _ h => h) k0
  obtain ⟨a, b, c, d, r, rfl⟩ : ∃ a b c d r, bs = a :: b :: c :: d :: r := by
    match bs, hl with
    | a :: b :: c :: d :: r, _ => exact ⟨a, b, c, d, r, rfl⟩
  have g : ∀ (i : Nat) (x : Nat), i < 4 → (a :: b :: c :: d :: r)[i]? = some x → ∃ q, vIxSl 1 v (.int .i64 (i : Int)) = some q ∧ vLoad1 q (σ.bumpT 23) = some (.int .u8 (x : Int)) := fun i x hi hx => by
    obtain ⟨q, q1, q2⟩ := hv'.get1 (k := i) (by simp only [List.length_cons]; omega)
    exact ⟨q, q1, by rw [q2, bytesV_at, hx]; rfl⟩
  obtain ⟨q0, a0, b0⟩ := g 0 a (by omega) rfl
  obtain ⟨q1, a1, b1⟩ := g 1 b (by omega) rfl
  obtain ⟨q2, a2, b2⟩ := g 2 c (by omega) rfl
  obtain ⟨q3, a3, b3⟩ := g 3 d (by omega) rfl
  have ha := hb a (by simp); have hb' := hb b (by simp); have hc := hb c (by simp); have hd := hb d (by simp)
  have e1 := sh32 (x := b) (k := 8) (p := 256) (by omega) rfl (by omega)
  have e2 := sh32 (x := c) (k := 16) (p := 65536) (by omega) rfl (by omega)
  have e3 := sh32 (x := d) (k := 24) (p := 16777216) (by omega) rfl (by omega)
  have o1 : a ||| 256 * b = a + 256 * b := or_add (i := 8) rfl ha
  have o2 : (a + 256 * b) ||| 65536 * c = a + 256 * b + 65536 * c := or_add (i := 16) rfl (by omega)
  have o3 : (a + 256 * b + 65536 * c) ||| 16777216 * d = a + 256 * b + 65536 * c + 16777216 * d := or_add (i := 24) rfl (by omega)
  have p1 := or32 (x := a) (y := 256 * b) (by omega) (by omega) o1 (by omega)
  have p2 := or32 (x := a + 256 * b) (y := 65536 * c) (by omega) (by omega) o2 (by omega)
  have p3 := or32 (x := a + 256 * b + 65536 * c) (y := 16777216 * d) (by omega) (by omega) o3 (by omega)
  have fin : num4 (a :: b :: c :: d :: r) = a + 256 * b + 65536 * c + 16777216 * d := by
    simp only [num4]
  have p3' : binA .or .num (.int .u32 ((a + 256 * b + 65536 * c : Nat) : Int)) (.int .u32 ((16777216 * d : Nat) : Int)) = some (.int .u32 ((num4 (a :: b :: c :: d :: r) : Nat) : Int)) := by rw [fin]; exact p3
  clear p3 fin o1 o2 o3
  generalize num4 (a :: b :: c :: d :: r) = z at *
  generalize 16777216 * d = z3 at *
  generalize 65536 * c = z2 at *
  generalize 256 * b = z1 at *
  rw [show ((0 : Nat) : Int) = 0 from rfl] at a0
  rw [show ((1 : Nat) : Int) = 1 from rfl] at a1
  rw [show ((2 : Nat) : Int) = 2 from rfl] at a2
  rw [show ((3 : Nat) : Int) = 3 from rfl] at a3
  rw [show ((8 : Nat) : Int) = 8 from rfl] at e1
  rw [show ((16 : Nat) : Int) = 16 from rfl] at e2
  rw [show ((24 : Nat) : Int) = 24 from rfl] at e3
  rw [a0, Som_some, b0, Som_some, vToInt_int, Som_some, a1, Som_some, b1, Som_some, vToInt_int, Som_some]
  rw [w32 (x := a) (by omega), w32 (x := b) (by omega), e1, Som_some, p1, Som_some]
  rw [a2, Som_some, b2, Som_some, vToInt_int, Som_some, w32 (x := c) (by omega), e2, Som_some, p2, Som_some]
  rw [a3, Som_some, b3, Som_some, vToInt_int, Som_some, w32 (x := d) (by omega), e3, Som_some, p3', Som_some, Ret_1 rfl]
  exact hQ _ k0
def frameOf (p : List Nat) : List Nat := le4 p.length ++ (le4 (crcOf [le4 p.length, p]) ++ p)
def putF (b p : List Nat) : List Nat := if p.length > 16384 then b else b ++ frameOf p
theorem two_parts {σ' : S} {x y : AVal} {p q : List Nat} {m k : Nat} (hx : BySl σ' x p m) (hy : BySl σ' y q k) (bp : Bytes p) (bq : Bytes q) (lp : p.length < 4611686018427387904) (lq : q.length < 4611686018427387904) :
    ∀ (j : Nat) (r : List Nat) (z : AVal), [p, q][j]? = some r → [x, y][j]? = some z → ∃ m', BySl σ' z r m' ∧ Bytes r ∧ r.length < 4611686018427387904 := by
  intro j r z h1 h2
  match j with
  | 0 => cases h1; cases h2; exact ⟨m, hx, bp, lp⟩
  | 1 => cases h1; cases h2; exact ⟨k, hy, bq, lq⟩
  | j + 2 => simp at h1
theorem Put_c (ht : Tab tab) {v w : AVal} {b p : List Nat} {m k : Nat} (ho : Ok σ) (hv : BySl σ v b m) (hw : BySl σ w p k) (hp : Bytes p) (hl : b.length + p.length ≤ 1000000000000)
    (hQ : ∀ v' σ' m', ByGr σ' v' (putF b p) m' → Keep0 σ σ' → σ.next.nat ≤ m' → m' < σ'.next.nat → Q v' σ') : WF tab 78 [v, w] σ Q := by
  refine f78_wf ht.t78 ?_
  unfold f78
  simp only [hv.len, hw.len, Som_some, bin_add]
  have e1 : IntKind.i64.wrap (IntKind.i64.wrap ((b.length : Int) + 8) + (p.length : Int)) = ((b.length + 8 + p.length : Nat) : Int) := by
    rw [wrap_i64_in (n := (b.length : Int) + 8) (by omega) (by omega), wrap_i64_in (n := (b.length : Int) + 8 + p.length) (by omega) (by omega)]; omega
  rw [e1]
  have hm : aMakeV 1 1 [AVal.int .u8 0] (.int .i64 0) (.int .i64 ((b.length + 8 + p.length : Nat) : Int)) = _ := make_of (l := 0) (esz := 1) (z := [AVal.int .u8 0]) (Nat.zero_le _) (by omega) (by omega)
  rw [hm, Ala_some]
  have k1 : Keep0 σ (σ.new ⟨1, .ex, repN (b.length + 8 + p.length) [.int .u8 0]⟩) := Keep.new ho _
  have n1 := new_next (σ := σ) ⟨1, .ex, repN (b.length + 8 + p.length) [.int .u8 0]⟩
  have g1 : ByGr (σ.new ⟨1, .ex, repN (b.length + 8 + p.length) [.int .u8 0]⟩) (.sl σ.next 0 0 (b.length + 8 + p.length)) [] σ.next.nat := by
    have := made_gr (σ := σ) 1 0 (b.length + 8 + p.length) (z := [AVal.int .u8 0]) rfl (Nat.zero_le _)
    simp only [Nat.zero_mul, List.take_zero] at this
    exact this
  generalize hσ1 : σ.new ⟨1, .ex, repN (b.length + 8 + p.length) [.int .u8 0]⟩ = σ1 at *
  obtain ⟨v2, σ2, m2, a1, g2, k2, l2⟩ := append_sl k1.ok g1 (hv.keep (fun _ h => h) k1) (by rw [List.length_nil]; omega)
  rw [List.nil_append] at g2
  rw [a1, Eff_some]
  have k02 : Keep0 σ σ2 := k1.then ho k2 fun x hx e => by omega
  have n2 := k2.next
  simp only [bin_gtr, Som_some]
  refine WIf_dec (fun hgt => ?_) (fun hle => ?_)
  · rw [Ret_1 g2.sl.v1]
    refine hQ v2 σ2 m2 ?_ k02 (by omega) (by omega)
    unfold putF; rw [if_pos (by omega)]; exact g2
  · simp only [vToInt_int]
    rw [wrap_u32_in (n := (p.length : Int)) (by omega) (by omega)]
    refine four_c ht k02.ok fun v3 σ3 s3 k3 n3 => ?_
    have g3 : ByGr σ3 v2 b m2 := g2.keep (fun h => h) k3
    obtain ⟨v4, σ4, m4, a4, g4, k4, l4⟩ := append_sl k3.ok g3 s3 (by rw [le4_len]; omega)
    rw [a4, Eff_some]
    have s4 := s3.keep (M := fun y => y = m2) (fun _ e => by omega) k4
    have k04 : Keep0 σ σ4 := (k02.trans k3).then ho k4 fun x hx e => by omega
    have w4 := hw.keep (fun _ h => h) k04
    rw [made2 _ _ _ s3.cells hw.cells, Ala_some]
    have k5 : Keep0 σ4 (σ4.new ⟨1, .ex, [v3, w]⟩) := Keep.new k4.ok _
    have n5 := new_next (σ := σ4) ⟨1, .ex, [v3, w]⟩
    have s5 : SlAt (σ4.new ⟨1, .ex, [v3, w]⟩) (.sl σ4.next 0 2 2) 1 2 [v3, w] σ4.next.nat := exSl (by rw [blk_new, if_pos rfl]; rfl) rfl
    have s45 := s4.keep (fun _ h => h) k5
    have w45 := w4.keep (fun _ h => h) k5
    have g5 := g4.keep (M := fun _ => False) (fun h => h) k5
    generalize σ4.new ⟨1, .ex, [v3, w]⟩ = σ5 at *
    have n3' := k3.next; have n4 := k4.next
    refine of_c ht (vs := [v3, w]) (ps := [le4 p.length, p]) s5 rfl (by simp) (two_parts s45 w45 (le4_bytes _) hp (by rw [le4_len]; omega) (by omega)) ?_
    refine four_c ht k5.ok fun v6 σ6 s6 k6 n6 => ?_
    have g6 := g5.keep (M := fun _ => False) (fun h => h) k6
    obtain ⟨v7, σ7, m7, a7, g7, k7, l7⟩ := append_sl k6.ok g6 s6 (by rw [List.length_append, le4_len, le4_len]; omega)
    rw [a7, Eff_some]
    have k06 : Keep0 σ σ6 := (k04.trans k5).trans k6
    have k07 : Keep0 σ σ7 := k06.then ho k7 fun x hx e => by omega
    have w7 := hw.keep (fun _ h => h) k07
    obtain ⟨v8, σ8, m8, a8, g8, k8, l8⟩ := append_sl k7.ok g7 w7 (by rw [List.length_append, List.length_append, le4_len, le4_len]; omega)
    rw [a8, Eff_some, Ret_1 g8.sl.v1]
    have n7 := k7.next; have n8 := k8.next
    refine hQ v8 σ8 m8 ?_ (k07.then ho k8 fun x hx e => by omega) (by omega) (by omega)
    unfold putF frameOf; rw [if_neg (by omega)]
    rw [List.append_assoc, List.append_assoc] at g8
    exact g8
end
end Go.Am
namespace Go.Am
section
variable {tab : Nat → Option PFn} {σ : S} {Q : AVal → S → Prop}
theorem Som_of {α : Type} {o : Option α} {K : α → Prop} {v : α} (h : o = some v) (k : K v) : Som o K := by rw [h]; exact k
theorem Sq_of {o : Option AVal} {K : AVal → Prop} {v : AVal} {b : Bool} (hb : b = true) (h : o = some v) (k : K v) : Som (gq1 b o) K := by rw [hb]; exact Som_of h k
theorem Sn_of {o : Option AVal} {K : AVal → Prop} {b : Bool} (hb : b = false) (k : K .undef) : Som (gq1 b o) K := by rw [hb]; exact k
theorem GE_n {b : Bool} {F : (AVal → S → Prop) → Prop} {K : AVal → S → Prop} (hb : b = false) (k : K .undef σ) : gE1 b F σ K := by rw [hb]; exact k
theorem GE_t {b : Bool} {F : (AVal → S → Prop) → Prop} {K : AVal → S → Prop} (hb : b = true) (k : F K) : gE1 b F σ K := by rw [hb]; exact k
theorem Eff_of {o : Option (AVal × S)} {K : AVal → S → Prop} {v : AVal} {σ : S} (h : o = some (v, σ)) (k : K v σ) : Eff o K := by rw [h]; exact k
theorem Ala_of {o : Option (Blk × (Pos → AVal))} {K : AVal → S → Prop} {b : Blk} {mk : Pos → AVal} (h : o = some (b, mk)) (k : K (mk σ.next) (σ.new b)) : Ala o σ K := by rw [h]; exact k
theorem Alb_of {o : Option (Blk × (Pos → AVal))} {K : AVal → S → Prop} {b : Blk} {mk : Pos → AVal} {p : Pos} (h : o = some (b, mk)) (k : K (mk p) (σ.lay p (b.named p))) : Alb o p σ K := by rw [h]; exact k
theorem WIf_t {A B : Prop} {p : Prop} [Decidable p] (h : p) (k : A) : WIf (.bool (decide p)) A B := by rw [decide_eq_true h]; exact k
theorem WIf_f {A B : Prop} {p : Prop} [Decidable p] (h : ¬ p) (k : B) : WIf (.bool (decide p)) A B := by rw [decide_eq_false h]; exact k
theorem bnd_some {k : IntKind} {i d y : Nat} (h : i ≤ y) : bnd (some (.int k (i : Int))) d y = some i := by
  show (match Nat.ble i y with | true => some i | false => none) = _
  rw [Nat.ble_eq_true_of_le h]
theorem bnd_none (d y : Nat) : bnd none d y = some d := rfl
theorem SlAt.cut {v : AVal} {esz n m lo hi : Nat} {cs : List AVal} (h : SlAt σ v esz n cs m) (h1 : lo ≤ hi) (h2 : hi ≤ n) {L H : Option AVal}
    (hL : ∀ y, hi ≤ y → bnd L 0 hi = some lo) (hH : ∀ y, n ≤ y → bnd H n y = some hi) :
    ∃ v', vSlSl esz v L H none = some v' ∧ SlAt σ v' esz (hi - lo) ((cs.drop (lo * esz)).take ((hi - lo) * esz)) m := by
  obtain ⟨h0, h⟩ := h
  have hmul : (hi - lo) * esz = hi * esz - lo * esz := Nat.sub_mul _ _ _
  have m1 := Nat.mul_le_mul_right esz h1
  have m2 := Nat.mul_le_mul_right esz h2
  have hlen : ((cs.drop (lo * esz)).take ((hi - lo) * esz)).length = (hi - lo) * esz := by
    rw [List.length_take, List.length_drop]; omega
  have hcut : ∀ {b : Pos} {o : Nat} {P : Prop}, (n * esz ≠ 0 → ∃ blk, σ.blk b = some blk ∧ ow b blk = m ∧ o + n * esz ≤ blk.cells.length ∧ (blk.cells.drop o).take (n * esz) = cs) →
      ((hi - lo) * esz ≠ 0 → ∃ blk, σ.blk b = some blk ∧ ow b blk = m ∧ o + lo * esz + (hi - lo) * esz ≤ blk.cells.length ∧ (blk.cells.drop (o + lo * esz)).take ((hi - lo) * esz) = (cs.drop (lo * esz)).take ((hi - lo) * esz)) := by
    intro b o _ hx hz
    obtain ⟨blk, g1, g2, g3, g4⟩ := hx (by omega)
    refine ⟨blk, g1, g2, by omega, ?_⟩
    rw [← g4, List.drop_take, List.drop_drop, List.take_take, Nat.min_eq_left (by omega)]
  cases v with
  | nsl =>
    have h : n = 0 := h
    subst h
    have e1 : hi = 0 := by omega
    subst e1
    have e2 : lo = 0 := by omega
    subst e2
    refine ⟨.nsl, ?_, hlen, rfl⟩
    show andThen (bounds L H none 0 0) (fun _ => some AVal.nsl) = _
    unfold bounds
    rw [bnd_none, andThen_s, hH 0 (Nat.le_refl _), andThen_s, hL 0 (Nat.le_refl _)]; rfl
  | sl b o len cap =>
    obtain ⟨rfl, hn, h3⟩ := h
    have hb : bounds L H none len cap = some (lo, hi, cap) := by
      unfold bounds
      rw [bnd_none, andThen_s, hH cap hn, andThen_s, hL cap (by omega)]; rfl
    show ∃ v', andThen (bounds L H none len cap) (slKnown esz b o) = some v' ∧ _
    rw [hb, andThen_s]
    unfold slKnown
    simp only
    cases hbeq : Nat.beq cap lo with
    | true =>
      have e := Nat.eq_of_beq_eq_true hbeq
      refine ⟨.sl b o (hi - lo) (cap - lo), by unfold outSl; simp only [forceNat_eq], hlen, rfl, by omega, fun hz => ?_⟩
      have : hi - lo = 0 := by omega
      rw [this, Nat.zero_mul] at hz; exact absurd rfl hz
    | false =>
      exact ⟨.sl b (o + lo * esz) (hi - lo) (cap - lo), by unfold outSl; simp only [forceNat_eq], hlen, rfl, by omega, hcut (P := True) h3⟩
  | slu b o len z =>
    obtain ⟨rfl, rfl, h3⟩ := h
    have hb : bounds L H none len len = some (lo, hi, len) := by
      unfold bounds
      rw [bnd_none, andThen_s, hH len (Nat.le_refl _), andThen_s, hL len (by omega)]; rfl
    refine ⟨.slu b (o + lo * z) (hi - lo) z, ?_, hlen, rfl, rfl, hcut (P := True) h3⟩
    show test (Nat.beq z z) (andThen (bounds L H none len len) fun (l, h, _) => outSlu b (o + l * z) (h - l) z) = _
    rw [Nat.beq_refl, test_tt, hb, andThen_s]
    unfold outSlu; simp only [forceNat_eq]
  | _ => exact h.elim
theorem SlAt.cutLH {v : AVal} {esz n m lo hi : Nat} {cs : List AVal} (h : SlAt σ v esz n cs m) (h1 : lo ≤ hi) (h2 : hi ≤ n) :
    ∃ v', vSlSl esz v (some (.int .i64 (lo : Int))) (some (.int .i64 (hi : Int))) none = some v' ∧ SlAt σ v' esz (hi - lo) ((cs.drop (lo * esz)).take ((hi - lo) * esz)) m :=
  h.cut h1 h2 (fun _ _ => bnd_some h1) (fun _ hy => bnd_some (by omega))
theorem SlAt.cutL {v : AVal} {esz n m lo : Nat} {cs : List AVal} (h : SlAt σ v esz n cs m) (h1 : lo ≤ n) :
    ∃ v', vSlSl esz v (some (.int .i64 (lo : Int))) none none = some v' ∧ SlAt σ v' esz (n - lo) ((cs.drop (lo * esz)).take ((n - lo) * esz)) m :=
  h.cut h1 (Nat.le_refl _) (fun _ _ => bnd_some h1) (fun _ _ => bnd_none _ _)
theorem SlAt.cutH {v : AVal} {esz n m hi : Nat} {cs : List AVal} (h : SlAt σ v esz n cs m) (h2 : hi ≤ n) :
    ∃ v', vSlSl esz v none (some (.int .i64 (hi : Int))) none = some v' ∧ SlAt σ v' esz hi (cs.take (hi * esz)) m := by
  obtain ⟨v', g1, g2⟩ := h.cut (lo := 0) (L := none) (H := some (.int .i64 (hi : Int))) (Nat.zero_le _) h2 (fun _ _ => bnd_none _ _) (fun _ hy => bnd_some (by omega))
  exact ⟨v', g1, by simpa using g2⟩
theorem BySl.cutLH {v : AVal} {bs : List Nat} {m lo hi : Nat} (h : BySl σ v bs m) (h1 : lo ≤ hi) (h2 : hi ≤ bs.length) :
    ∃ v', vSlSl 1 v (some (.int .i64 (lo : Int))) (some (.int .i64 (hi : Int))) none = some v' ∧ BySl σ v' ((bs.drop lo).take (hi - lo)) m := by
  obtain ⟨v', g1, g2⟩ := SlAt.cutLH h h1 h2
  refine ⟨v', g1, ?_⟩
  rw [Nat.mul_one, Nat.mul_one, bytesV_drop, bytesV_take] at g2
  have : ((bs.drop lo).take (hi - lo)).length = hi - lo := by rw [List.length_take, List.length_drop]; omega
  show SlAt _ _ _ _ _ _
  rw [this]; exact g2
theorem BySl.cutL {v : AVal} {bs : List Nat} {m lo : Nat} (h : BySl σ v bs m) (h1 : lo ≤ bs.length) :
    ∃ v', vSlSl 1 v (some (.int .i64 (lo : Int))) none none = some v' ∧ BySl σ v' (bs.drop lo) m := by
  obtain ⟨v', g1, g2⟩ := SlAt.cutL h h1
  refine ⟨v', g1, ?_⟩
  rw [Nat.mul_one, Nat.mul_one, bytesV_drop, bytesV_take, List.take_of_length_le (by rw [List.length_drop]; omega)] at g2
  show SlAt _ _ _ _ _ _
  rw [List.length_drop]; exact g2
theorem BySl.cutH {v : AVal} {bs : List Nat} {m hi : Nat} (h : BySl σ v bs m) (h2 : hi ≤ bs.length) :
    ∃ v', vSlSl 1 v none (some (.int .i64 (hi : Int))) none = some v' ∧ BySl σ v' (bs.take hi) m := by
  obtain ⟨v', g1, g2⟩ := SlAt.cutH h h2
  refine ⟨v', g1, ?_⟩
  rw [Nat.mul_one, bytesV_take] at g2
  have : (bs.take hi).length = hi := by rw [List.length_take]; omega
  show SlAt _ _ _ _ _ _
  rw [this]; exact g2
theorem SlAt.more {σ' : S} {v : AVal} {esz n m : Nat} {cs : List AVal} (h : SlAt σ v esz n cs m) (hm : ∀ q b, σ.blk q = some b → σ'.blk q = some b) : SlAt σ' v esz n cs m := by
  obtain ⟨q0, hw⟩ := h
  refine ⟨q0, ?_⟩
  cases v with
  | nsl => exact hw
  | sl b o len cap => obtain ⟨q1, q2, q3⟩ := hw; exact ⟨q1, q2, fun hz => let ⟨blk, y1, y2⟩ := q3 hz; ⟨blk, hm _ _ y1, y2⟩⟩
  | slu b o len z => obtain ⟨q1, q2, q3⟩ := hw; exact ⟨q1, q2, fun hz => let ⟨blk, y1, y2⟩ := q3 hz; ⟨blk, hm _ _ y1, y2⟩⟩
  | _ => exact hw.elim
@[simp] theorem next_lay (p : Pos) (b : Blk) : (σ.lay p b).next = σ.next := by rw [lay_layAt]; rfl
theorem maps_lay (p : Pos) (b : Blk) : (σ.lay p b).maps = σ.maps := by rw [lay_layAt]; rfl
theorem blk_lay (p q : Pos) (b : Blk) : (σ.lay p b).blk q = if q = p then some b else σ.blk q := by rw [lay_layAt, blk_layAt]
theorem Keep.layD {M : Nat → Prop} {σ0 : S} (h0 : Keep M σ0 σ) {p : Pos} (b : Blk) (hp : Unused σ p) (hlo : σ0.next.nat ≤ p.nat) (hpn : p.nat < σ.next.nat) :
    Keep M σ0 (σ.lay p (b.named p)) ∧ (∀ q c, σ.blk q = some c → (σ.lay p (b.named p)).blk q = some c) ∧ (∀ q : Pos, q ≠ p → Unused σ q → Unused (σ.lay p (b.named p)) q) := by
  obtain ⟨l1, l2, l3⟩ := Keep.lay' h0.ok b hp hpn
  refine ⟨⟨l1, by rw [next_lay]; exact h0.next, fun q c hq hm => l2 q c (h0.old q c hq hm), fun q hq hu => l3 q (fun e => by subst e; omega) (h0.unused q hq hu), fun q mb hq hm => by rw [maps_lay]; exact h0.maps q mb hq hm⟩, l2, l3⟩
def nextF (b : List Nat) (at_ : Nat) : Option (List Nat × Nat) :=
  if b.length ≤ at_ then none
  else if b.length - at_ < 8 then none
  else if num4 (b.drop at_) > 16384 then none
  else if b.length - at_ - 8 < num4 (b.drop at_) then none
  else if crcOf [(b.drop at_).take 4, ((b.drop at_).drop 8).take (num4 (b.drop at_))] ≠ num4 ((b.drop at_).drop 4) then none
  else some (((b.drop at_).drop 8).take (num4 (b.drop at_)), at_ + 8 + num4 (b.drop at_))
theorem Keep0.nil (ho : Ok σ) : Keep0 σ σ := Keep.refl ho
theorem Next_c (ht : Tab tab) {v : AVal} {b : List Nat} {m a : Nat} (ho : Ok σ) (hv : BySl σ v b m) (hb : Bytes b) (hl : b.length ≤ 1000000000) (hla : a ≤ 1000000000)
    (hN : ∀ e σ', nextF b a = none → e ≠ 0 → Keep0 σ σ' → Q (.tup [.nsl, .int .i64 0, .int .i64 e]) σ')
    (hS : ∀ p to w σ' m', nextF b a = some (p, to) → BySl σ' w p m' → Keep0 σ σ' → Q (.tup [w, .int .i64 (to : Int), .int .i64 0]) σ') : WF tab 83 [v, .int .i64 (a : Int)] σ Q := by
  refine f83_wf ht.t83 ?_
  unfold f83
  refine Som_of (bin_lss _ _ _ _) ?_
  rw [decide_eq_false (by omega)]
  refine Som_of rfl (Som_of rfl (Sq_of rfl hv.len (Sq_of rfl (bin_gtr _ _ _ _) (Som_of rfl ?_))))
  refine WIf_dec (fun hgt => ?_) (fun hle => ?_)
  · rw [Ret_3 rfl rfl rfl]
    exact hN _ _ (by unfold nextF; rw [if_pos (by omega)]) (by omega) (Keep0.nil ho)
  refine Som_of hv.len (Som_of (bin_eql _ _ _ _) ?_)
  refine WIf_dec (fun heq => ?_) (fun hne => ?_)
  · rw [Ret_3 rfl rfl rfl]
    exact hN _ _ (by unfold nextF; rw [if_pos (by omega)]) (by omega) (Keep0.nil ho)
  have hlt : ¬ b.length ≤ a := by omega
  obtain ⟨r, r1, r2⟩ := BySl.cutL hv (lo := a) (by omega)
  refine Som_of r1 (Som_of r2.len (Som_of (bin_lss _ _ _ _) ?_))
  rw [List.length_drop]
  refine WIf_dec (fun h8 => ?_) (fun h8 => ?_)
  · rw [Ret_3 rfl rfl rfl]
    exact hN _ _ (by unfold nextF; rw [if_neg hlt, if_pos (by omega)]) (by omega) (Keep0.nil ho)
  have h8' : ¬ b.length - a < 8 := by omega
  have hbr : Bytes (b.drop a) := hb.drop a
  refine number_c ht ho r2 hbr (by rw [List.length_drop]; omega) fun σ1 k1 => ?_
  have hn4 := num4_lt hbr
  refine Som_of (bin_gtr _ _ _ _) ?_
  refine WIf_dec (fun hbig => ?_) (fun hbig => ?_)
  · rw [Ret_3 rfl rfl rfl]
    exact hN _ _ (by unfold nextF; rw [if_neg hlt, if_neg h8', if_pos (by omega)]) (by omega) k1
  have hbig' : ¬ num4 (b.drop a) > 16384 := by omega
  have r2' := r2.keep (fun _ h => h) k1
  refine Som_of r2'.len (Som_of (bin_sub _ _ _ _) (Som_of (vToInt_int _ _ _) (Som_of (bin_lss _ _ _ _) ?_)))
  rw [List.length_drop, wrap_i64_in (n := ((b.length - a : Nat) : Int) - 8) (by omega) (by omega), wrap_i64_in (n := ((num4 (b.drop a) : Nat) : Int)) (by omega) (by omega)]
  refine WIf_dec (fun hsh => ?_) (fun hsh => ?_)
  · rw [Ret_3 rfl rfl rfl]
    exact hN _ _ (by unfold nextF; rw [if_neg hlt, if_neg h8', if_neg hbig', if_pos (by omega)]) (by omega) k1
  have hsh' : ¬ b.length - a - 8 < num4 (b.drop a) := by omega
  have e41 : (8 : Int) + ((num4 (b.drop a) : Nat) : Int) = ((8 + num4 (b.drop a) : Nat) : Int) := by omega
  obtain ⟨x42, a42, s42⟩ := BySl.cutLH r2' (lo := 8) (hi := 8 + num4 (b.drop a)) (by omega) (by rw [List.length_drop]; omega)
  obtain ⟨x44, a44, s44⟩ := BySl.cutH r2' (hi := 4) (by rw [List.length_drop]; omega)
  obtain ⟨x49, a49, s49⟩ := BySl.cutL r2' (lo := 4) (by rw [List.length_drop]; omega)
  rw [Nat.add_sub_cancel_left] at s42
  refine Som_of (vToInt_int _ _ _) (Som_of (bin_add _ _ _ _) ?_)
  rw [wrap_i64_in (n := ((num4 (b.drop a) : Nat) : Int)) (by omega) (by omega), wrap_i64_in (n := (8 : Int) + ((num4 (b.drop a) : Nat) : Int)) (by omega) (by omega), e41]
  refine Som_of a42 (Som_of a44 (Som_of a49 ?_))
  refine Alb_of (made2 _ _ _ s44.cells s42.cells) ?_
  have k2 : Keep0 σ1 (σ1.bumpT 9) := Keep.bump k1.ok 9
  have hp3 : (Pos.plusT 3 σ1.next).nat = σ1.next.nat + 3 := plusT_nat 3 _
  have hun : Unused (σ1.bumpT 9) (Pos.plusT 3 σ1.next) := k1.ok.free _ (by omega)
  have hk12 := k1.trans k2
  obtain ⟨k3, l2, _⟩ := Keep.layD hk12 ⟨1, .ex, [x44, x42]⟩ hun (by have := k1.next; omega) (by rw [next_bump]; omega)
  have hnew : SlAt ((σ1.bumpT 9).lay (Pos.plusT 3 σ1.next) (Blk.named ⟨1, .ex, [x44, x42]⟩ (Pos.plusT 3 σ1.next))) (.sl (Pos.plusT 3 σ1.next) 0 2 2) 1 2 [x44, x42] (Pos.plusT 3 σ1.next).nat :=
    exSl (by rw [blk_lay, if_pos rfl]; rfl) rfl
  have h44 := SlAt.more s44 l2; have h42 := SlAt.more s42 l2; have h49 := SlAt.more s49 l2
  generalize (σ1.bumpT 9).lay (Pos.plusT 3 σ1.next) (Blk.named ⟨1, .ex, [x44, x42]⟩ (Pos.plusT 3 σ1.next)) = σ2 at *
  have hb42 : Bytes (((b.drop a).drop 8).take (num4 (b.drop a))) := (hbr.drop 8).take _
  have hlen42 : (((b.drop a).drop 8).take (num4 (b.drop a))).length ≤ 16384 := by rw [List.length_take]; omega
  have hlen44 : ((b.drop a).take 4).length ≤ 4 := by rw [List.length_take]; omega
  refine of_c ht (vs := [x44, x42]) (ps := [(b.drop a).take 4, ((b.drop a).drop 8).take (num4 (b.drop a))]) hnew rfl (by simp) (two_parts h44 h42 (hbr.take 4) hb42 (by omega) (by omega)) ?_
  refine number_c ht k3.ok h49 (hbr.drop 4) (by rw [List.length_drop, List.length_drop]; omega) fun σ4 k4 => ?_
  refine Som_of (bin_neq _ _ _ _) ?_
  refine WIf_dec (fun hcr => ?_) (fun hcr => ?_)
  · rw [Ret_3 rfl rfl rfl]
    exact hN _ _ (by unfold nextF; rw [if_neg hlt, if_neg h8', if_neg hbig', if_neg hsh', if_pos (by omega)]) (by omega) (k3.trans k4)
  have h42' := h42.keep (fun _ h => h) k4
  obtain ⟨v5, σ5, m5, a5, g5, k5, l5⟩ := append_sl k4.ok (GrAt.nil σ4 1 σ4.next.nat : ByGr σ4 .nsl [] σ4.next.nat) h42' (by rw [List.length_nil]; omega)
  refine Eff_of a5 ?_
  refine Som_of (bin_add _ _ _ _) (Som_of (vToInt_int _ _ _) (Som_of (bin_add _ _ _ _) ?_))
  rw [Ret_3 g5.sl.v1 rfl rfl]
  rw [wrap_i64_in (n := ((num4 (b.drop a) : Nat) : Int)) (by omega) (by omega), wrap_i64_in (n := (a : Int) + 8) (by omega) (by omega), wrap_i64_in (n := (a : Int) + 8 + ((num4 (b.drop a) : Nat) : Int)) (by omega) (by omega)]
  have e58 : (a : Int) + 8 + ((num4 (b.drop a) : Nat) : Int) = ((a + 8 + num4 (b.drop a) : Nat) : Int) := by omega
  rw [e58]
  rw [List.nil_append] at g5
  have hk4 := k3.trans k4
  refine hS _ _ v5 σ5 m5 (by unfold nextF; rw [if_neg hlt, if_neg h8', if_neg hbig', if_neg hsh', if_neg (by omega)]) g5.sl (hk4.then ho k5 fun x hx e => ?_)
  have := hk4.next; omega
end
end Go.Am
namespace Go.Am
section
variable {tab : Nat → Option PFn} {σ : S} {Q : AVal → S → Prop}
theorem BySl.nil (σ : S) : BySl σ .nsl [] 0 := SlAt.nil σ 1 0
theorem ByGr.nil (σ : S) (m : Nat) : ByGr σ .nsl [] m := GrAt.nil σ 1 m
def pay (kind age i n : Nat) (rec_ : List Nat) : List Nat := enc (2 * kind) ++ (enc (2 * age) ++ (enc (2 * i) ++ (enc (2 * n) ++ rec_)))
theorem enc10 {n : Nat} (h : n < 4611686018427387904) : (enc (2 * n)).length ≤ 10 := enc_len 9 (Nat.lt_of_lt_of_le (show 2 * n < 18446744073709551616 by omega) (by decide))
theorem pay_bytes (kind age i n : Nat) {r : List Nat} (h : Bytes r) : Bytes (pay kind age i n r) := (enc_bytes _).app ((enc_bytes _).app ((enc_bytes _).app ((enc_bytes _).app h)))
theorem pay_len {kind age i n : Nat} (r : List Nat) (h1 : kind < 4611686018427387904) (h2 : age < 4611686018427387904) (h3 : i < 4611686018427387904) (h4 : n < 4611686018427387904) : (pay kind age i n r).length ≤ 40 + r.length := by
  unfold pay
  simp only [List.length_append]
  have := enc10 h1; have := enc10 h2; have := enc10 h3; have := enc10 h4
  omega
def Num62 (n : Int) : Prop := 0 ≤ n ∧ n < 4611686018427387904
theorem framed_c (ht : Tab tab) {v : AVal} {b r : List Nat} {m : Nat} {kind age i n : Int} (ho : Ok σ) (hv : BySl σ v b m) (h1 : Num62 kind) (h2 : Num62 age) (h3 : Num62 i) (h4 : Num62 n) (hr : Bytes r)
    (hl : b.length + r.length ≤ 900000000000)
    (hQ : ∀ v' σ' m', ByGr σ' v' (putF b (pay kind.toNat age.toNat i.toNat n.toNat r)) m' → Keep0 σ σ' → σ.next.nat ≤ m' → m' < σ'.next.nat → Q v' σ') :
    WF tab 50 [v, .int .i64 kind, .int .i64 age, .int .i64 i, .int .i64 n, .str r] σ Q := by
  refine f50_wf ht.t50 ?_
  unfold f50
  have l1 := enc10 (n := kind.toNat) (by have := h1.1; have := h1.2; omega)
  have l2 := enc10 (n := age.toNat) (by have := h2.1; have := h2.2; omega)
  have l3 := enc10 (n := i.toNat) (by have := h3.1; have := h3.2; omega)
  have l4 := enc10 (n := n.toNat) (by have := h4.1; have := h4.2; omega)
  refine Num_c ht h1.1 h1.2 ho (BySl.nil σ) (by rw [List.length_nil]; omega) fun v1 σ1 m1 g1 k1 _ _ => ?_
  rw [List.nil_append] at g1
  refine Num_c ht h2.1 h2.2 k1.ok g1.sl (by omega) fun v2 σ2 m2 g2 k2 _ _ => ?_
  refine Num_c ht h3.1 h3.2 k2.ok g2.sl (by rw [List.length_append]; omega) fun v3 σ3 m3 g3 k3 _ _ => ?_
  refine Num_c ht h4.1 h4.2 k3.ok g3.sl (by rw [List.length_append, List.length_append]; omega) fun v4 σ4 m4 g4 k4 a4 b4 => ?_
  obtain ⟨v5, σ5, m5, a5, g5, k5, l5⟩ := append_str k4.ok g4 (b := r) (by simp only [List.length_append]; omega)
  refine Eff_of a5 ?_
  have k04 : Keep0 σ σ4 := ((k1.trans k2).trans k3).trans k4
  have k03 : Keep0 σ σ3 := (k1.trans k2).trans k3
  have n3 := k03.next
  have k05 : Keep0 σ σ5 := k04.then ho k5 fun x hx e => by omega
  simp only [List.append_assoc] at g5
  have hp : Bytes (pay kind.toNat age.toNat i.toNat n.toNat r) := pay_bytes _ _ _ _ hr
  have hpl := pay_len (kind := kind.toNat) (age := age.toNat) (i := i.toNat) (n := n.toNat) r (by have := h1.1; have := h1.2; omega) (by have := h2.1; have := h2.2; omega) (by have := h3.1; have := h3.2; omega) (by have := h4.1; have := h4.2; omega)
  refine Put_c ht k05.ok (hv.keep (fun _ h => h) k05) (show BySl σ5 v5 (pay kind.toNat age.toNat i.toNat n.toNat r) m5 from g5.sl) hp (by omega) fun v6 σ6 m6 g6 k6 a6 b6 => ?_
  rw [Ret_1 g6.sl.v1]
  have n5 := k05.next
  exact hQ v6 σ6 m6 g6 (k05.trans k6) (by omega) b6
def longF (age i : Nat) (r : List Nat) : Nat := (putF [] (pay 1 age i 0 [])).length + r.length
theorem longF_le {age i : Nat} {r : List Nat} (h2 : age < 4611686018427387904) (h3 : i < 4611686018427387904) : longF age i r ≤ 48 + r.length := by
  unfold longF putF frameOf
  have := pay_len (kind := 1) (age := age) (i := i) (n := 0) [] (by omega) h2 h3 (by omega)
  rw [List.length_nil] at this
  split
  · rw [List.length_nil]; omega
  · simp only [List.length_append, List.length_nil, le4_len]; omega
theorem long_c (ht : Tab tab) {r : List Nat} {age i : Int} (ho : Ok σ) (h2 : Num62 age) (h3 : Num62 i) (hl : r.length ≤ 900000000000)
    (hQ : ∀ σ', Keep0 σ σ' → Q (.int .i64 ((longF age.toNat i.toNat r : Nat) : Int)) σ') : WF tab 80 [.int .i64 age, .int .i64 i, .str r] σ Q := by
  refine f80_wf ht.t80 ?_
  unfold f80
  refine framed_c ht (kind := 1) (n := 0) ho (BySl.nil σ) ⟨by omega, by omega⟩ h2 h3 ⟨by omega, by omega⟩ Bytes.nil (by rw [List.length_nil]; omega) fun v1 σ1 m1 g1 k1 _ _ => ?_
  refine Som_of g1.sl.len (Som_of (vLenStr_str _) (Som_of (bin_add _ _ _ _) ?_))
  have hle := longF_le (age := age.toNat) (i := i.toNat) (r := r) (by have := h2.1; have := h2.2; omega) (by have := h3.1; have := h3.2; omega)
  have e : (((putF [] (pay (1 : Int).toNat age.toNat i.toNat (0 : Int).toNat [])).length : Nat) : Int) + (r.length : Int) = ((longF age.toNat i.toNat r : Nat) : Int) := by
    unfold longF; rw [Int.natCast_add]; rfl
  rw [e, wrap_i64_in (n := ((longF age.toNat i.toNat r : Nat) : Int)) (by omega) (by omega), Ret_1 rfl]
  exact hQ _ k1

structure RdAt (σ : S) (p : Pos) (bs : List Nat) (fa fw : Int) (at_ : Nat) (bv : AVal) (mb : Nat) : Prop where
  blk : σ.blk p = some ⟨0, .ex, [.int .i64 fa, .int .i64 fw, bv, .int .i64 (at_ : Int)]⟩
  sl : BySl σ bv bs mb
  ne : mb ≠ p.nat
theorem RdAt.keep {M : Nat → Prop} {σ σ' : S} {p : Pos} {bs : List Nat} {fa fw : Int} {at_ : Nat} {bv : AVal} {mb : Nat} (h : RdAt σ p bs fa fw at_ bv mb) (k : Keep M σ σ') (hp : ¬ M p.nat) (hm : ¬ M mb) : RdAt σ' p bs fa fw at_ bv mb :=
  ⟨k.old _ _ h.blk hp, h.sl.keep (fun _ => hm) k, h.ne⟩
theorem vField0 (p : Pos) (o off : Nat) : vFieldAddr off (.ptr p o) = some (.ptr p (o + off)) := vFieldAddr_ptr off p o
theorem ld {p : Pos} {o e : Nat} {k : Kind} {cs : List AVal} {v : AVal} (hb : σ.blk p = some ⟨e, k, cs⟩) (hv : cs[o]? = some v) : vLoad1 (.ptr p o) σ = some v := by rw [load1_of hb]; exact hv
theorem ldN {p : Pos} {o e n : Nat} {k : Kind} {cs xs : List AVal} (hb : σ.blk p = some ⟨e, k, cs⟩) (hl : o + n ≤ cs.length) (hv : (cs.drop o).take n = xs) : vLoadN n (.ptr p o) σ = some (.agg xs) := by
  show andThen (σ.read p o n) _ = _
  rw [read_of hb hl, andThen_s, ← hv]
theorem read_c (ht : Tab tab) {v : AVal} {bs : List Nat} {m : Nat} (ho : Ok σ) (hv : BySl σ v bs m) (hl : bs.length ≤ 1000000000)
    (hQ : ∀ p bv mb σ', RdAt σ' p bs 0 0 0 bv mb → Keep0 σ σ' → σ.next.nat ≤ p.nat → σ.next.nat ≤ mb → p.nat < σ'.next.nat → mb < σ'.next.nat → Q (.ptr p 0) σ') : WF tab 84 [v] σ Q := by
  refine f84_wf ht.t84 ?_
  unfold f84
  refine again_c ht ho hv (by omega) (by omega) fun v1 σ1 m1 g1 k1 a1 b1 => ?_
  have hbd : vBuild [AVal.int .i64 0, .int .i64 0, .nsl, .int .i64 0] [(2, 1, v1)] = some (.agg [.int .i64 0, .int .i64 0, v1, .int .i64 0]) := by
    unfold vBuild
    simp only [fillA, g1.sl.cells, andThen_s]
    rfl
  refine Som_of hbd (Ala_of rfl ?_)
  rw [Ret_1 rfl]
  have k2 : Keep0 σ1 (σ1.new ⟨0, .ex, [.int .i64 0, .int .i64 0, v1, .int .i64 0]⟩) := Keep.new k1.ok _
  have n1 := k1.next
  refine hQ σ1.next v1 m1 _ ⟨?_, g1.sl.keep (fun _ h => h) k2, by omega⟩ (k1.trans k2) n1 a1 (by rw [new_next]; omega) (by rw [new_next]; omega)
  rw [blk_new, if_pos rfl]; rfl
theorem good_c (ht : Tab tab) {fa fw : Int} (ho : Ok σ) (hQ : ∀ σ', Keep0 σ σ' → Q (.bool (decide (fw = 0))) σ') : WF tab 97 [.agg [.int .i64 fa, .int .i64 fw]] σ Q := by
  refine f97_wf ht.t97 ?_
  unfold f97
  refine Ala_of rfl (Som_of (vField0 _ _ _) (Som_of (ld (cs := [.int .i64 fa, .int .i64 fw]) (e := 0) (k := .ex) (by rw [blk_new, if_pos rfl]; rfl) rfl) (Som_of (bin_eql _ _ _ _) ?_)))
  rw [Ret_1 rfl]
  exact hQ _ (Keep.new ho _)
theorem fail_c (ht : Tab tab) {p : Pos} {bs : List Nat} {fa fw e : Int} {at_ fr : Nat} {bv : AVal} {mb : Nat} (ho : Ok σ) (hr : RdAt σ p bs fa fw at_ bv mb)
    (hQ : ∀ v σ', RdAt σ' p bs fr e fr bv mb → Keep (fun x => x = p.nat) σ σ' → Q v σ') : WF tab 106 [.ptr p 0, .int .i64 (fr : Int), .int .i64 e] σ Q := by
  refine f106_wf ht.t106 ?_
  unfold f106
  have hbd : vBuild [AVal.int .i64 0, .int .i64 0] [(0, 1, .int .i64 (fr : Int)), (1, 1, .int .i64 e)] = some (.agg [.int .i64 (fr : Int), .int .i64 e]) := rfl
  refine Som_of hbd (Som_of rfl (Som_of (vField0 _ _ _) ?_))
  refine Eff_of (storeN_of hr.blk rfl (by omega) (by simp)) ?_
  have k1 := Keep.upd ho hr.blk (c := ⟨0, .ex, [.int .i64 fr, .int .i64 e, bv, .int .i64 at_]⟩) rfl
  have b1 : (σ.upd p ⟨0, .ex, [.int .i64 fr, .int .i64 e, bv, .int .i64 at_]⟩).blk p = _ := blk_upd_same _ _
  refine Som_of rfl (Som_of (vField0 _ _ _) ?_)
  refine Eff_of (store1_of (b := p) (o := 3) (e := 0) (cs := [.int .i64 fr, .int .i64 e, bv, .int .i64 at_]) (blk_upd_same _ _) (by simp) rfl) ?_
  rw [Ret_none]
  have k2 := Keep.upd k1.ok b1 (c := ⟨0, .ex, [.int .i64 fr, .int .i64 e, bv, .int .i64 fr]⟩) rfl
  have k12 : Keep (fun x => x = p.nat) σ _ := k1.trans k2
  refine hQ _ _ ⟨blk_upd_same _ _, hr.sl.keep (fun _ e => hr.ne e) k12, hr.ne⟩ k12
theorem rdnext_c (ht : Tab tab) {p : Pos} {bs : List Nat} {fa fw : Int} {at_ : Nat} {bv : AVal} {mb : Nat} (hr : RdAt σ p bs fa fw at_ bv mb) (hQ : Q (.int .i64 (at_ : Int)) σ) : WF tab 98 [.ptr p 0] σ Q := by
  refine f98_wf ht.t98 ?_
  unfold f98
  refine Som_of (eql_pn _ _) ?_
  rw [WIf_false]
  refine Som_of rfl (Som_of (vField0 _ _ _) (Som_of (ld hr.blk rfl) ?_))
  rw [Ret_1 rfl]
  exact hQ
noncomputable def zagF (u : Nat) : Int := IntKind.i64.wrap ((Nat.xor (natOf .i64 (((u / 2 : Nat) : Int))) (natOf .i64 (-((u % 2 : Nat) : Int))) : Nat) : Int)
theorem i64_range (n : Int) : -9223372036854775808 ≤ IntKind.i64.wrap n ∧ IntKind.i64.wrap n ≤ 9223372036854775807 := by
  rw [IntKind.wrap_i64]; omega
theorem zag_c (ht : Tab tab) {u : Nat} (hu : u < 18446744073709551616) (hQ : Q (.int .i64 (zagF u)) σ) : WF tab 112 [.int .u64 (u : Int)] σ Q := by
  refine f112_wf ht.t112 ?_
  unfold f112
  have s1 : binA .shr .num (.int .u64 (u : Int)) (.int .u64 1) = some (.int .u64 ((u / 2 : Nat) : Int)) := bin_shr_nat .num .u64 .u64 u 1
  have s2 : binA .and .num (.int .u64 (u : Int)) (.int .u64 1) = some (.int .u64 ((u % 2 : Nat) : Int)) := by
    have := bin_and_nat .num .u64 u 1
    rw [show (2 : Nat) ^ IntKind.u64.bits = 18446744073709551616 from rfl, Nat.mod_eq_of_lt hu, show 1 % 18446744073709551616 = 1 from rfl, Nat.and_one_is_mod] at this
    rw [wrap_u64_in (n := ((u % 2 : Nat) : Int)) (by omega) (by omega)] at this
    exact this
  refine Som_of s1 (Som_of (vToInt_int _ _ _) (Som_of s2 (Som_of (vToInt_int _ _ _) (Som_of (un_neg _ _) ?_))))
  rw [wrap_i64_in (n := ((u / 2 : Nat) : Int)) (by omega) (by omega), wrap_i64_in (n := ((u % 2 : Nat) : Int)) (by omega) (by omega), wrap_i64_in (n := -((u % 2 : Nat) : Int)) (by omega) (by omega)]
  have s3 : binA .xor .num (.int .i64 ((u / 2 : Nat) : Int)) (.int .i64 (-((u % 2 : Nat) : Int))) = some (.int .i64 (zagF u)) := by
    rw [binA_int rfl]
    show outIB .i64 _ = _
    rw [outIB_eq]; rfl
  refine Som_of s3 ?_
  rw [Ret_1 rfl]
  exact hQ
def decG : Nat → Nat → List Nat → Option (Nat × Nat)
  | _, _, [] => none
  | k, u, c :: r => if k = 9 ∧ 1 < c then none
    else if 128 ≤ c then (decG (k + 1) (u + 2 ^ (7 * k) * (c % 128)) r).map fun x => (x.1, x.2 + 1)
    else if c = 0 ∧ 0 < k then none
    else some (u + 2 ^ (7 * k) * (c % 128), 1)
end
end Go.Am
namespace Go.Am
section
variable {tab : Nat → Option PFn} {σ : S} {Q : AVal → S → Prop}
theorem u64_bits : (2 : Nat) ^ IntKind.u64.bits = 18446744073709551616 := rfl
theorem u8_bits : (2 : Nat) ^ IntKind.u8.bits = 256 := rfl
theorem and127 : ∀ x, x < 256 → x &&& 127 = x % 128 := by decide +kernel
theorem and_step {P R : Prop} [Decidable P] [Decidable R] {x : AVal} {o2 : AVal → Option AVal} {A B : AVal → AVal → AVal → Prop} (ho : P → o2 x = some (.bool (decide R))) (hA : P ∧ R → ∀ t1 t2 t3, A t1 t2 t3) (hB : ¬ (P ∧ R) → ∀ t1 t2 t3, B t1 t2 t3) :
    Som (gq1 (isB (.bool (decide P)) true) (some x)) fun t1 => Som (gq1 (isB (.bool (decide P)) true) (o2 t1)) fun t2 => Som (vPick (.bool (decide P)) t2 (.bool false)) fun t3 => WIf t3 (A t1 t2 t3) (B t1 t2 t3) := by
  by_cases hP : P
  · rw [decide_eq_true hP]
    refine Som_of rfl (Sq_of rfl (ho hP) (Som_of rfl ?_))
    exact WIf_dec (fun h => hA ⟨hP, h⟩ _ _ _) (fun h => hB (fun hh => h hh.2) _ _ _)
  · rw [decide_eq_false hP]
    exact Som_of rfl (Som_of rfl (Som_of rfl (hB (fun hh => hP hh.1) _ _ _)))
theorem pow_seven_le {k : Nat} (hk : k ≤ 9) : 2 ^ (7 * k) ≤ 9223372036854775808 := by
  have : 2 ^ (7 * k) ≤ 2 ^ 63 := Nat.pow_le_pow_right (by omega) (by omega)
  simpa using this
theorem group {u k c : Nat} (hu : u < 2 ^ (7 * k)) (hk : k ≤ 9) (hc : c < 256) (h9 : k = 9 → c ≤ 1) :
    u + 2 ^ (7 * k) * (c % 128) < 18446744073709551616 ∧ (k ≤ 8 → u + 2 ^ (7 * k) * (c % 128) < 2 ^ (7 * (k + 1))) ∧
    ∃ t51 t52 t54 t55 t56, binA .and .num (.int .u8 (c : Int)) (.int .u8 127) = some t51 ∧ vToInt .u64 t51 = some t52 ∧ binA .mul .num (.int .i64 7) (.int .i64 (k : Int)) = some t54 ∧ vToInt .u64 t54 = some t55 ∧
      binA .shl .num t52 t55 = some t56 ∧ binA .or .num (.int .u64 (u : Int)) t56 = some (.int .u64 ((u + 2 ^ (7 * k) * (c % 128) : Nat) : Int)) := by
  have hp := pow_seven_le hk
  have hm : c % 128 < 128 := Nat.mod_lt _ (by omega)
  have hlt8 : k ≤ 8 → u + 2 ^ (7 * k) * (c % 128) < 2 ^ (7 * (k + 1)) := fun h8 => by
    rw [show 7 * (k + 1) = 7 * k + 7 by omega, Nat.pow_add]
    have : 2 ^ (7 * k) * (c % 128 + 1) ≤ 2 ^ (7 * k) * 2 ^ 7 := Nat.mul_le_mul_left _ (by show c % 128 + 1 ≤ 128; omega)
    rw [Nat.mul_add, Nat.mul_one] at this
    omega
  have hlt : u + 2 ^ (7 * k) * (c % 128) < 18446744073709551616 := by
    by_cases h8 : k ≤ 8
    · have := hlt8 h8
      have := pow_seven_le (k := k + 1) (by omega)
      omega
    · have hk9 : k = 9 := by omega
      have := h9 hk9
      have h1 : c % 128 ≤ 1 := by omega
      have : 2 ^ (7 * k) * (c % 128) ≤ 2 ^ (7 * k) * 1 := Nat.mul_le_mul_left _ h1
      omega
  have e1 : binA .and .num (.int .u8 (c : Int)) (.int .u8 127) = some (.int .u8 ((c % 128 : Nat) : Int)) := by
    have := bin_and_nat .num .u8 c 127
    rw [u8_bits, Nat.mod_eq_of_lt hc, show 127 % 256 = 127 from rfl, and127 c hc, wrap_u8_in (n := ((c % 128 : Nat) : Int)) (by omega) (by omega)] at this
    exact this
  have e2 : vToInt .u64 (.int .u8 ((c % 128 : Nat) : Int)) = some (.int .u64 ((c % 128 : Nat) : Int)) := by
    rw [vToInt_int, wrap_u64_in (n := ((c % 128 : Nat) : Int)) (by omega) (by omega)]
  have e3 : binA .mul .num (.int .i64 7) (.int .i64 (k : Int)) = some (.int .i64 ((7 * k : Nat) : Int)) := by
    rw [bin_mul, wrap_i64_in (n := 7 * (k : Int)) (by omega) (by omega)]; congr 2
  have e4 : vToInt .u64 (.int .i64 ((7 * k : Nat) : Int)) = some (.int .u64 ((7 * k : Nat) : Int)) := by
    rw [vToInt_int, wrap_u64_in (n := ((7 * k : Nat) : Int)) (by omega) (by omega)]
  have e5 : binA .shl .num (.int .u64 ((c % 128 : Nat) : Int)) (.int .u64 ((7 * k : Nat) : Int)) = some (.int .u64 ((2 ^ (7 * k) * (c % 128) : Nat) : Int)) := by
    rw [bin_shl_nat, Nat.min_eq_left (show 7 * k ≤ IntKind.u64.bits from (show 7 * k ≤ 64 by omega))]
    have e : ((c % 128 : Nat) : Int) * ((2 ^ (7 * k) : Nat) : Int) = ((2 ^ (7 * k) * (c % 128) : Nat) : Int) := by rw [Int.natCast_mul, Int.mul_comm]
    rw [e, wrap_u64_in (n := ((2 ^ (7 * k) * (c % 128) : Nat) : Int)) (by omega) (by omega)]
  have e6 : binA .or .num (.int .u64 (u : Int)) (.int .u64 ((2 ^ (7 * k) * (c % 128) : Nat) : Int)) = some (.int .u64 ((u + 2 ^ (7 * k) * (c % 128) : Nat) : Int)) := by
    rw [bin_or_nat, u64_bits, Nat.mod_eq_of_lt (by omega), Nat.mod_eq_of_lt (by omega), or_add rfl hu, wrap_u64_in (n := ((u + 2 ^ (7 * k) * (c % 128) : Nat) : Int)) (by omega) (by omega)]
  exact ⟨hlt, hlt8, _, _, _, _, _, e1, e2, e3, e4, e5, e6⟩
theorem rd_bump {p : Pos} {bs : List Nat} {fa fw : Int} {at_ : Nat} {bv : AVal} {mb : Nat} (h : RdAt σ p bs fa fw at_ bv mb) (ho : Ok σ) (n : Nat) : RdAt (σ.bumpT n) p bs fa fw at_ bv mb :=
  h.keep (M := fun _ => False) (Keep.bump ho n) (fun h => h) (fun h => h)
theorem num_loop (ht : Tab tab) (d : Nat) : ∀ (E : En) (σ : S) (p : Pos) (bs : List Nat) (a fr k u : Nat) (bv : AVal) (mb : Nat), Ok σ → bs.length = a + d → bs.length ≤ 1000000000 → Bytes bs → RdAt σ p bs 0 0 a bv mb → u < 2 ^ (7 * k) → k ≤ 9 →
    E 0 = .ptr p 0 → E 1 = .int .i64 (fr : Int) → E 5 = .int .u64 (u : Int) → E 6 = .int .i64 (k : Int) →
    (∀ e σ', decG k u (bs.drop a) = none → e ≠ 0 → RdAt σ' p bs fr e fr bv mb → Keep (fun x => x = p.nat) σ σ' → Q (.int .i64 0) σ') →
    (∀ v n σ', decG k u (bs.drop a) = some (v, n) → a + n ≤ bs.length → RdAt σ' p bs 0 0 (a + n) bv mb → Keep (fun x => x = p.nat) σ σ' → Q (.int .i64 (zagF v)) σ') → f104.L0 (WF tab) Q E σ := by
  induction d with
  | zero =>
    intro E σ p bs a fr k u bv mb ho hlen hl hb hr hu hk h0 h1 h5 h6 hN hS
    refine f104.p0_of ?_
    unfold f104.p0
    rw [h0, h1]
    have hr' := rd_bump hr ho 10
    refine Som_of rfl (Som_of (vField0 _ _ _) (Som_of (ld hr'.blk rfl) (Som_of rfl (Som_of (vField0 _ _ _) (Som_of (ld hr'.blk rfl) (Som_of hr'.sl.len (Som_of (bin_geq _ _ _ _) ?_)))))))
    refine WIf_t (by omega) ?_
    have k1 : Keep (fun x => x = p.nat) σ (σ.bumpT 10) := Keep.bump ho 10
    refine fail_c ht k1.ok hr' fun v σ' r1 k2 => ?_
    rw [Ret_1 rfl]
    exact hN _ σ' (by rw [List.drop_of_length_le (by omega)]; rfl) (by omega) r1 (k1.trans k2)
  | succ d ih =>
    intro E σ p bs a fr k u bv mb ho hlen hl hb hr hu hk h0 h1 h5 h6 hN hS
    refine f104.p0_of ?_
    unfold f104.p0
    rw [h0, h1, h5, h6]
    have hr' := rd_bump hr ho 10
    have k1 : Keep (fun x => x = p.nat) σ (σ.bumpT 10) := Keep.bump ho 10
    have k2 : Keep (fun x => x = p.nat) (σ.bumpT 10) ((σ.bumpT 10).bumpT 11) := Keep.bump k1.ok 11
    have hr2 := rd_bump hr' k1.ok 11
    have k12 := k1.trans k2
    refine Som_of rfl (Som_of (vField0 _ _ _) (Som_of (ld hr'.blk rfl) (Som_of rfl (Som_of (vField0 _ _ _) (Som_of (ld hr'.blk rfl) (Som_of hr'.sl.len (Som_of (bin_geq _ _ _ _) ?_)))))))
    refine WIf_f (by omega) ?_
    obtain ⟨q, q1, q2⟩ := hr2.sl.get1 (k := a) (by omega)
    have hc : bs[a]? = some bs[a] := List.getElem?_eq_getElem (by omega)
    have hc256 : bs[a] < 256 := hb _ (List.getElem_mem _)
    have q2' : vLoad1 q ((σ.bumpT 10).bumpT 11) = some (.int .u8 ((bs[a] : Nat) : Int)) := by rw [q2, bytesV_at, hc]; rfl
    rw [List.drop_eq_getElem_cons (show a < bs.length by omega)] at hN hS
    generalize bs[a] = c at *
    refine Som_of rfl (Som_of (vField0 _ _ _) (Som_of (ld hr2.blk rfl) (Som_of rfl (Som_of (vField0 _ _ _) (Som_of (ld hr2.blk rfl) (Som_of q1 (Som_of q2' (Som_of (bin_eql _ _ _ _) ?_))))))))
    have bad : k = 9 ∧ 1 < c → WF tab 106 [.ptr p 0, .int .i64 (fr : Int), (.int .i64 4)] ((σ.bumpT 10).bumpT 11) fun _ σ1 => Ret [some (.int .i64 0)] σ1 Q := fun h9 => by
      refine fail_c ht k12.ok hr2 fun v σ' r1 k3 => ?_
      rw [Ret_1 rfl]
      exact hN _ σ' (by unfold decG; rw [if_pos h9]) (by omega) r1 (k12.trans k3)
    refine and_step (fun _ => bin_gtr _ _ _ _) (fun h _ _ _ => bad (by omega)) (fun h9 t36 t37 t38 => ?_)
    · have h9 : ¬ (k = 9 ∧ 1 < c) := by omega
      refine Som_of rfl (Som_of (vField0 _ _ _) (Som_of (ld hr2.blk rfl) (Som_of (bin_add _ _ _ _) (Som_of rfl (Som_of (vField0 _ _ _) ?_)))))
      rw [wrap_i64_in (n := (a : Int) + 1) (by omega) (by omega)]
      refine Eff_of (store1_of hr2.blk (by simp) rfl) ?_
      have k3 := Keep.upd k12.ok hr2.blk (c := ⟨0, .ex, [.int .i64 0, .int .i64 0, bv, .int .i64 ((a : Int) + 1)]⟩) rfl
      have k3' : Keep (fun x => x = p.nat) ((σ.bumpT 10).bumpT 11) _ := k3
      have r3 : RdAt (((σ.bumpT 10).bumpT 11).upd p ⟨0, .ex, [.int .i64 0, .int .i64 0, bv, .int .i64 ((a : Int) + 1)]⟩) p bs 0 0 (a + 1) bv mb :=
        ⟨blk_upd_same _ _, hr2.sl.keep (fun _ e => hr.ne e) k3', hr.ne⟩
      have k13 := k12.trans k3'
      generalize hσ3 : (((σ.bumpT 10).bumpT 11).upd p ⟨0, .ex, [.int .i64 0, .int .i64 0, bv, .int .i64 ((a : Int) + 1)]⟩) = σ3 at *
      have hσ3' : (((σ.bumpT 10).bumpT 11).upd p ⟨0, .ex, [AVal.int .i64 0, .int .i64 0, bv, .int .i64 (a : Int)].set (0 + 3) (.int .i64 ((a : Int) + 1))⟩) = σ3 := hσ3
      rw [hσ3']
      obtain ⟨g1, g2, t51, t52, t54, t55, t56, e1, e2, e3, e4, e5, e6⟩ := group (c := c) hu hk hc256 (fun h => by omega)
      refine Som_of e1 (Som_of e2 (Som_of e3 (Som_of e4 (Som_of e5 (Som_of e6 (Som_of (bin_geq _ _ _ _) ?_))))))
      have hdec : decG k u (c :: bs.drop (a + 1)) = if 128 ≤ c then (decG (k + 1) (u + 2 ^ (7 * k) * (c % 128)) (bs.drop (a + 1))).map fun x => (x.1, x.2 + 1) else if c = 0 ∧ 0 < k then none else some (u + 2 ^ (7 * k) * (c % 128), 1) := by
        show (if k = 9 ∧ 1 < c then none else _) = _
        rw [if_neg h9]
      rw [hdec] at hN hS
      refine WIf_dec (fun hge => ?_) (fun hlt => ?_)
      · have hge : 128 ≤ c := by omega
        rw [if_pos hge] at hN hS
        have hk8 : k ≤ 8 := by
          by_cases h : k = 9
          · omega
          · omega
        refine Som_of (bin_add _ _ _ _) ?_
        rw [wrap_i64_in (n := (k : Int) + 1) (by omega) (by omega)]
        refine ih _ σ3 p bs (a + 1) fr (k + 1) (u + 2 ^ (7 * k) * (c % 128)) bv mb k13.ok (by omega) hl hb r3 (g2 hk8) (by omega) (by simp [h0]) (by simp [h1]) (by simp) (by simp) ?_ ?_
        · intro e σ' he hne r4 k4
          exact hN e σ' (by rw [he]; rfl) hne r4 (k13.trans k4)
        · intro v n σ' he hn r4 k4
          have r4' : RdAt σ' p bs 0 0 (a + (n + 1)) bv mb := by rw [show a + (n + 1) = a + 1 + n by omega]; exact r4
          exact hS v (n + 1) σ' (by rw [he]; rfl) (by omega) r4' (k13.trans k4)
      · have hlt : ¬ 128 ≤ c := by omega
        rw [if_neg hlt] at hN hS
        refine Som_of (bin_eql _ _ _ _) ?_
        refine and_step (fun _ => bin_gtr _ _ _ _) (fun hz _ _ _ => ?_) (fun hz _ _ _ => ?_)
        · rw [if_pos (by omega)] at hN
          refine fail_c ht k13.ok r3 fun v σ' r4 k4 => ?_
          rw [Ret_1 rfl]
          exact hN _ σ' rfl (by omega) r4 (k13.trans k4)
        · rw [if_neg (by omega)] at hS
          refine zag_c ht g1 ?_
          rw [Ret_1 rfl]
          exact hS _ _ σ3 rfl (by omega) r3 k13
theorem Num_ok (ht : Tab tab) {p : Pos} {bs : List Nat} {a : Nat} {bv : AVal} {mb : Nat} (ho : Ok σ) (hl : bs.length ≤ 1000000000) (hb : Bytes bs) (ha : a ≤ bs.length) (hr : RdAt σ p bs 0 0 a bv mb)
    (hN : ∀ e σ', decG 0 0 (bs.drop a) = none → e ≠ 0 → RdAt σ' p bs a e a bv mb → Keep (fun x => x = p.nat) σ σ' → Q (.int .i64 0) σ')
    (hS : ∀ v n σ', decG 0 0 (bs.drop a) = some (v, n) → a + n ≤ bs.length → RdAt σ' p bs 0 0 (a + n) bv mb → Keep (fun x => x = p.nat) σ σ' → Q (.int .i64 (zagF v)) σ') : WF tab 85 [.ptr p 0] σ Q := by
  refine f85_wf ht.t85 ?_
  unfold f85
  refine Som_of (eql_pn _ _) (Sq_of rfl rfl (Sq_of rfl rfl (Sq_of rfl (vField0 _ _ _) (Sq_of rfl (ldN (n := 2) hr.blk (by simp) rfl) ?_))))
  refine good_c ht ho fun σ1 k1 => ?_
  have r1 := hr.keep k1 (fun h => h) (fun h => h)
  refine Sq_of rfl (un_not _) (Som_of rfl ?_)
  rw [show (!decide ((0 : Int) = 0)) = false from rfl, WIf_false]
  refine Som_of rfl (Som_of (vField0 _ _ _) (Som_of (ld r1.blk rfl) ?_))
  refine f104_wf ht.t104 ?_
  unfold f104
  have k1' : Keep (fun x => x = p.nat) σ σ1 := k1.to
  refine num_loop ht (bs.length - a) _ σ1 p bs a a 0 0 bv mb k1.ok (by omega) hl hb r1 (by simp) (by omega) (by simp) (by simp) (by simp) (by simp) ?_ ?_
  · intro e σ' h1 h2 h3 h4
    rw [Ret_1 rfl]
    exact hN e σ' h1 h2 h3 (k1'.trans h4)
  · intro v n σ' h1 h2 h3 h4
    rw [Ret_1 rfl]
    exact hS v n σ' h1 h2 h3 (k1'.trans h4)
theorem Num_bad (ht : Tab tab) {p : Pos} {bs : List Nat} {fa fw : Int} {a : Nat} {bv : AVal} {mb : Nat} (ho : Ok σ) (hw : fw ≠ 0) (hr : RdAt σ p bs fa fw a bv mb)
    (hQ : ∀ σ', RdAt σ' p bs fa fw a bv mb → Keep (fun x => x = p.nat) σ σ' → Q (.int .i64 0) σ') : WF tab 85 [.ptr p 0] σ Q := by
  refine f85_wf ht.t85 ?_
  unfold f85
  refine Som_of (eql_pn _ _) (Sq_of rfl rfl (Sq_of rfl rfl (Sq_of rfl (vField0 _ _ _) (Sq_of rfl (ldN (n := 2) hr.blk (by simp) rfl) ?_))))
  refine good_c ht ho fun σ1 k1 => ?_
  have r1 := hr.keep k1 (fun h => h) (fun h => h)
  rw [decide_eq_false hw]
  refine Sq_of rfl (un_not _) (Som_of rfl ?_)
  rw [show (!false) = true from rfl, WIf_true, Ret_1 rfl]
  exact hQ σ1 r1 k1.to
end
end Go.Am
namespace Go.Am
structure Chg where
  cut : Bool
  file : Nat
  at_ : Nat
  p : List Nat
structure Dk where
  quota : Nat
  files : List (List Nat)
  safe : List (List Nat)
  wait : List Chg
  armed : Nat
  off : Bool
section
variable {tab : Nat → Option PFn} {σ : S} {Q : AVal → S → Prop} {G : Nat → Prop}
def Im (σ : S) (G : Nat → Prop) (v : AVal) (bs : List Nat) : Prop := ∃ m, BySl σ v bs m ∧ (bs ≠ [] → ¬ G m)
theorem ne_nil_of {bs : List Nat} (h : bs.length * 1 ≠ 0) : bs ≠ [] := fun e => by subst e; exact h rfl
theorem Im.keep {N : Nat → Prop} {σ σ' : S} {v : AVal} {bs : List Nat} (h : Im σ G v bs) (k : Keep N σ σ') (hn : ∀ x, N x → G x) : Im σ' G v bs := by
  obtain ⟨m, h1, h2⟩ := h
  exact ⟨m, h1.keep (fun hz hm => h2 (ne_nil_of hz) (hn m hm)) k, h2⟩
theorem SlAt.own_lt {v : AVal} {esz n m : Nat} {cs : List AVal} (h : SlAt σ v esz n cs m) (ho : Ok σ) (hz : n * esz ≠ 0) : m < σ.next.nat := by
  obtain ⟨_, h⟩ := h
  cases v with
  | nsl => have h : n = 0 := h; subst h; simp at hz
  | sl b o len cap => obtain ⟨_, _, h⟩ := h; obtain ⟨blk, h1, h2, _⟩ := h hz; rw [← h2]; exact ho.ow_lt h1
  | slu b o len z => obtain ⟨_, _, h⟩ := h; obtain ⟨blk, h1, h2, _⟩ := h hz; rw [← h2]; exact ho.ow_lt h1
  | _ => exact h.elim
theorem Im.grow {G' : Nat → Prop} {v : AVal} {bs : List Nat} (h : Im σ G v bs) (ho : Ok σ) (hg : ∀ x, x < σ.next.nat → G' x → G x) : Im σ G' v bs := by
  obtain ⟨m, h1, h2⟩ := h
  refine ⟨m, h1, fun hne hm => h2 hne (hg m (SlAt.own_lt h1 ho ?_) hm)⟩
  rw [Nat.mul_one]
  exact fun e => hne (List.eq_nil_of_length_eq_zero e)
theorem Im.of_fresh {v : AVal} {bs : List Nat} {m : Nat} (h : BySl σ v bs m) (hm : ¬ G m) : Im σ G v bs := ⟨m, h, fun _ => hm⟩
theorem Im.nil (σ : S) (G : Nat → Prop) : Im σ G .nsl [] := ⟨0, BySl.nil σ, fun h => absurd rfl h⟩
structure DkAt (σ : S) (G : Nat → Prop) (d : Pos) (D : Dk) (pf ps : Pos) (fv sv : List AVal) (wv : AVal) (wc : List AVal) (mw : Nat) : Prop where
  blk : σ.blk d = some ⟨0, .ex, [.int .i64 (D.quota : Int), .sl pf 0 64 64, .sl ps 0 64 64, wv, .int .i64 (D.armed : Int), .bool D.off]⟩
  fb : σ.blk pf = some ⟨1, .ex, fv⟩
  sb : σ.blk ps = some ⟨1, .ex, sv⟩
  fl : fv.length = 64
  sl : sv.length = 64
  fd : D.files.length = 64
  sd : D.safe.length = 64
  ff : ∀ (i : Nat) (v : AVal) (bs : List Nat), fv[i]? = some v → D.files[i]? = some bs → Im σ G v bs
  ss : ∀ (i : Nat) (v : AVal) (bs : List Nat), sv[i]? = some v → D.safe[i]? = some bs → Im σ G v bs
  wg : GrAt σ wv 4 D.wait.length wc mw
  ww : ∀ (i : Nat) (c : Chg), D.wait[i]? = some c → ∃ pv, (wc.drop (i * 4)).take 4 = [.bool c.cut, .int .i64 (c.file : Int), .int .i64 (c.at_ : Int), pv] ∧ Im σ G pv c.p
  n1 : d ≠ pf
  n2 : d ≠ ps
  n3 : pf ≠ ps
  n4 : mw ≠ d.nat
  n5 : mw ≠ pf.nat
  n6 : mw ≠ ps.nat
  g1 : G d.nat
  g2 : G pf.nat
  g3 : G ps.nat
  g4 : G mw
  gl : ∀ x, G x → x < σ.next.nat
def dM (d pf ps : Pos) (mw : Nat) : Nat → Prop := fun x => x = d.nat ∨ x = pf.nat ∨ x = ps.nat ∨ x = mw
structure DkOk (D : Dk) : Prop where
  q : D.quota ≤ 1048576
  fl : ∀ f ∈ D.files, f.length ≤ 2097152 ∧ Bytes f
  sl : ∀ f ∈ D.safe, f.length ≤ 2097152 ∧ Bytes f
  wl : ∀ c ∈ D.wait, c.file < 64 ∧ c.at_ + c.p.length ≤ 2097152 ∧ Bytes c.p
  wn : D.wait.length ≤ 1000000000
  ar : D.armed ≤ 4611686018427387904
variable {d pf ps : Pos} {D : Dk} {fv sv wc : List AVal} {wv : AVal} {mw : Nat}
theorem DkAt.keep {N : Nat → Prop} {σ σ' : S} (h : DkAt σ G d D pf ps fv sv wv wc mw) (k : Keep N σ σ') (hn : ∀ x, N x → G x) (hx : ∀ x, dM d pf ps mw x → ¬ N x) : DkAt σ' G d D pf ps fv sv wv wc mw :=
  { h with
    blk := k.old _ _ h.blk (hx _ (.inl rfl))
    fb := k.old _ _ h.fb (hx _ (.inr (.inl rfl)))
    sb := k.old _ _ h.sb (hx _ (.inr (.inr (.inl rfl))))
    ff := fun i v bs a b => (h.ff i v bs a b).keep k hn
    ss := fun i v bs a b => (h.ss i v bs a b).keep k hn
    wg := h.wg.keep (hx _ (.inr (.inr (.inr rfl)))) k
    ww := fun i c hc => let ⟨pv, a, b⟩ := h.ww i c hc; ⟨pv, a, b.keep k hn⟩
    gl := fun x hx => Nat.lt_of_lt_of_le (h.gl x hx) k.next }
theorem DkAt.keep0 {σ σ' : S} (h : DkAt σ G d D pf ps fv sv wv wc mw) (k : Keep0 σ σ') : DkAt σ' G d D pf ps fv sv wv wc mw :=
  h.keep k (fun _ h => h.elim) (fun _ _ h => h.elim)
theorem DkAt.setB (h : DkAt σ G d D pf ps fv sv wv wc mw) (ho : Ok σ) (a : Nat) (o : Bool) (wv' : AVal) (wait' : List Chg) (wc' : List AVal)
    (hg : ∀ σ', Keep (fun x => x = d.nat) σ σ' → GrAt σ' wv' 4 wait'.length wc' mw)
    (hw : ∀ (i : Nat) (c : Chg), wait'[i]? = some c → ∃ pv, (wc'.drop (i * 4)).take 4 = [.bool c.cut, .int .i64 (c.file : Int), .int .i64 (c.at_ : Int), pv] ∧ Im σ G pv c.p) :
    DkAt (σ.upd d ⟨0, .ex, [.int .i64 (D.quota : Int), .sl pf 0 64 64, .sl ps 0 64 64, wv', .int .i64 (a : Int), .bool o]⟩) G d { D with wait := wait', armed := a, off := o } pf ps fv sv wv' wc' mw ∧
    Keep (fun x => x = d.nat) σ (σ.upd d ⟨0, .ex, [.int .i64 (D.quota : Int), .sl pf 0 64 64, .sl ps 0 64 64, wv', .int .i64 (a : Int), .bool o]⟩) := by
  have k := Keep.upd ho h.blk (c := ⟨0, .ex, [.int .i64 (D.quota : Int), .sl pf 0 64 64, .sl ps 0 64 64, wv', .int .i64 (a : Int), .bool o]⟩) rfl
  have k' : Keep (fun x => x = d.nat) σ _ := k
  have hn : ∀ x, x = d.nat → G x := fun x e => by rw [e]; exact h.g1
  have ne1 : pf.nat ≠ d.nat := fun e => h.n1 (Pos.nat_inj e.symm)
  have ne2 : ps.nat ≠ d.nat := fun e => h.n2 (Pos.nat_inj e.symm)
  exact ⟨⟨blk_upd_same _ _, k'.old _ _ h.fb ne1, k'.old _ _ h.sb ne2, h.fl, h.sl, h.fd, h.sd,
    fun i v bs a b => (h.ff i v bs a b).keep k' hn, fun i v bs a b => (h.ss i v bs a b).keep k' hn, hg _ k',
    fun i c hc => let ⟨pv, a, b⟩ := hw i c hc; ⟨pv, a, b.keep k' hn⟩, h.n1, h.n2, h.n3, h.n4, h.n5, h.n6, h.g1, h.g2, h.g3, h.g4, fun x hx => h.gl x hx⟩, k'⟩
theorem off_c (ht : Tab tab) (h : DkAt σ G d D pf ps fv sv wv wc mw) (hQ : Q (.bool D.off) σ) : WF tab 40 [.ptr d 0] σ Q := by
  refine f40_wf ht.t40 ?_
  unfold f40
  refine Som_of rfl (Som_of (vField0 _ _ _) (Som_of (ld h.blk rfl) ?_))
  rw [Ret_1 rfl]
  exact hQ
def Dk.count (D : Dk) : Dk := if D.off then D else if 0 < D.armed then { D with armed := D.armed - 1, off := decide (D.armed - 1 = 0) } else D
theorem Dk.count_off (D : Dk) (h : D.off = true) : D.count = D := by unfold Dk.count; rw [if_pos h]
theorem DkOk.count (h : DkOk D) : DkOk D.count := by
  unfold Dk.count
  split
  · exact h
  · split
    · exact ⟨h.q, h.fl, h.sl, h.wl, h.wn, by have := h.ar; show D.armed - 1 ≤ _; omega⟩
    · exact h
theorem Dk.count_files (D : Dk) : D.count.files = D.files := by unfold Dk.count; split; rfl; split <;> rfl
theorem Dk.count_wait (D : Dk) : D.count.wait = D.wait := by unfold Dk.count; split; rfl; split <;> rfl
theorem counted_c (ht : Tab tab) (ho : Ok σ) (h : DkAt σ G d D pf ps fv sv wv wc mw) (hk : DkOk D)
    (hQ : ∀ σ', DkAt σ' G d D.count pf ps fv sv wv wc mw → Keep (fun x => x = d.nat) σ σ' → Q (.bool (!D.count.off)) σ') : WF tab 36 [.ptr d 0] σ Q := by
  refine f36_wf ht.t36 ?_
  unfold f36
  refine Som_of rfl (Som_of (vField0 _ _ _) (Som_of (ld h.blk rfl) ?_))
  cases hoff : D.off with
  | true =>
    rw [WIf_true, Ret_1 rfl]
    have e := Dk.count_off D hoff
    rw [e] at hQ
    have := hQ σ h (Keep.refl ho)
    rw [hoff] at this
    exact this
  | false =>
    rw [WIf_false]
    have har := hk.ar
    have hblk := h.blk
    rw [hoff] at hblk
    refine Som_of rfl (Som_of (vField0 _ _ _) (Som_of (ld hblk rfl) (Som_of (bin_gtr _ _ _ _) ?_)))
    refine WIf_dec (fun hpos => ?_) (fun hz => ?_)
    · have hcnt : D.count = { D with armed := D.armed - 1, off := decide (D.armed - 1 = 0) } := by
        unfold Dk.count; rw [hoff, if_neg (by simp), if_pos (by omega)]
      refine Som_of rfl (Som_of (vField0 _ _ _) (Som_of (ld hblk rfl) (Som_of (bin_sub _ _ _ _) (Som_of rfl (Som_of (vField0 _ _ _) ?_)))))
      have e1 : IntKind.i64.wrap ((D.armed : Int) - 1) = ((D.armed - 1 : Nat) : Int) := by
        rw [wrap_i64_in (n := (D.armed : Int) - 1) (by omega) (by omega)]; omega
      rw [e1]
      refine Eff_of (store1_of hblk (by simp) rfl) ?_
      obtain ⟨h1, k1⟩ := h.setB ho (D.armed - 1) false wv D.wait wc (fun σ' k => h.wg.keep h.n4 k) h.ww
      refine Som_of rfl (Som_of (vField0 _ _ _) (Som_of (ld (blk_upd_same _ _) rfl) (Som_of (bin_eql _ _ _ _) (Som_of rfl (Som_of (vField0 _ _ _) ?_)))))
      refine Eff_of (store1_of (blk_upd_same _ _) (by simp) rfl) ?_
      refine Som_of rfl (Som_of (vField0 _ _ _) (Som_of (ld (blk_upd_same _ _) rfl) (Som_of (un_not _) ?_)))
      rw [Ret_1 rfl]
      have e2 : decide (((D.armed - 1 : Nat) : Int) = 0) = decide (D.armed - 1 = 0) := by
        by_cases hh : D.armed - 1 = 0
        · rw [decide_eq_true hh, decide_eq_true (by omega)]
        · rw [decide_eq_false hh, decide_eq_false (by omega)]
      rw [e2]
      obtain ⟨h2, k2⟩ := h1.setB k1.ok (D.armed - 1) (decide (D.armed - 1 = 0)) wv D.wait wc (fun σ' k => h1.wg.keep h.n4 k) h1.ww
      rw [hcnt] at hQ
      exact hQ _ h2 (k1.trans k2)
    · have hcnt : D.count = D := by
        unfold Dk.count; rw [hoff, if_neg (by simp), if_neg (by omega)]
      refine Som_of rfl (Som_of (vField0 _ _ _) (Som_of (ld hblk rfl) (Som_of (un_not _) ?_)))
      rw [Ret_1 rfl]
      rw [hcnt] at hQ
      have := hQ σ h (Keep.refl ho)
      rw [hoff] at this
      exact this
theorem there_c (ht : Tab tab) {f : Int} (hQ : Q (.bool (decide (0 ≤ f ∧ f < 64))) σ) : WF tab 37 [.int .i64 f] σ Q := by
  refine f37_wf ht.t37 ?_
  unfold f37
  refine Som_of (bin_geq _ _ _ _) ?_
  by_cases h : 0 ≤ f
  · rw [decide_eq_true h]
    refine Som_of rfl (Sq_of rfl (bin_lss _ _ _ _) (Som_of rfl ?_))
    rw [Ret_1 rfl]
    have e : decide (0 ≤ f ∧ f < 64) = decide (f < 64) := by
      by_cases h' : f < 64
      · rw [decide_eq_true h', decide_eq_true ⟨h, h'⟩]
      · rw [decide_eq_false h', decide_eq_false fun x => h' x.2]
    rw [e] at hQ; exact hQ
  · rw [decide_eq_false h]
    refine Som_of rfl (Som_of rfl (Som_of rfl ?_))
    rw [Ret_1 rfl]
    have e : decide (0 ≤ f ∧ f < 64) = false := decide_eq_false fun x => h x.1
    rw [e] at hQ; exact hQ
theorem DkAt.file (h : DkAt σ G d D pf ps fv sv wv wc mw) {k : Nat} (hk : k < 64) : ∃ v bs, vIxSl 1 (.sl pf 0 64 64) (.int .i64 (k : Int)) = some (.ptr pf k) ∧ fv[k]? = some v ∧ D.files[k]? = some bs ∧ vLoad1 (.ptr pf k) σ = some v ∧ Im σ G v bs := by
  have hl1 := h.fl
  have hl2 := h.fd
  have hx1 : k < fv.length := by omega
  have hx2 : k < D.files.length := by omega
  have h1 : fv[k]? = some fv[k] := List.getElem?_eq_getElem hx1
  have h2 : D.files[k]? = some D.files[k] := List.getElem?_eq_getElem hx2
  refine ⟨fv[k], D.files[k], ?_, h1, h2, ld h.fb h1, h.ff _ _ _ h1 h2⟩
  show (andThen (ixOf (.int .i64 (k : Int)) 64) fun j => outPtr pf (0 + j * 1)) = _
  have : ixOf (.int .i64 (k : Int)) 64 = some k := by
    show (match Nat.ble (Nat.succ k) 64 with | true => some k | false => none) = _
    rw [Nat.ble_eq_true_of_le hk]
  rw [this, andThen_s]
  unfold outPtr
  rw [forceNat_eq, Nat.mul_one, Nat.zero_add]
theorem size_c (ht : Tab tab) (h : DkAt σ G d D pf ps fv sv wv wc mw) {k : Nat} (hk : k < 64) (hQ : ∀ bs, D.files[k]? = some bs → Q (.int .i64 (bs.length : Int)) σ) : WF tab 42 [.ptr d 0, .int .i64 (k : Int)] σ Q := by
  refine f42_wf ht.t42 ?_
  unfold f42
  refine there_c ht ?_
  rw [decide_eq_true (show 0 ≤ (k : Int) ∧ (k : Int) < 64 by omega)]
  refine Som_of (un_not _) ?_
  rw [show (!true) = false from rfl, WIf_false]
  obtain ⟨v, bs, h1, h2, h3, h4, m, h5, _⟩ := h.file hk
  refine Som_of rfl (Som_of (vField0 _ _ _) (Som_of (ld h.blk rfl) (Som_of h1 (Som_of h4 (Som_of h5.len ?_)))))
  rw [Ret_1 rfl]
  exact hQ bs h3
theorem dread_c (ht : Tab tab) (ho : Ok σ) (h : DkAt σ G d D pf ps fv sv wv wc mw) (hok : DkOk D) (hoff : D.off = false) {k : Nat} (hk : k < 64)
    (hQ : ∀ v bs m σ', D.files[k]? = some bs → BySl σ' v bs m → Keep0 σ σ' → σ.next.nat ≤ m → Q v σ') : WF tab 72 [.ptr d 0, .int .i64 (k : Int)] σ Q := by
  refine f72_wf ht.t72 ?_
  unfold f72
  have hblk := h.blk
  rw [hoff] at hblk
  refine Som_of rfl (Som_of (vField0 _ _ _) (Som_of (ld hblk rfl) (Sq_of rfl rfl ?_)))
  refine there_c ht ?_
  rw [decide_eq_true (show 0 ≤ (k : Int) ∧ (k : Int) < 64 by omega)]
  refine Sq_of rfl (un_not _) (Som_of rfl ?_)
  rw [show (!true) = false from rfl, WIf_false]
  obtain ⟨v, bs, h1, h2, h3, h4, m, h5, _⟩ := h.file hk
  have hle := (hok.fl bs (List.mem_of_getElem? h3)).1
  refine Som_of rfl (Som_of (vField0 _ _ _) (Som_of (ld hblk rfl) (Som_of h1 (Som_of h4 ?_))))
  obtain ⟨v', σ', m', a1, a2, a3, a4⟩ := append_sl ho (ByGr.nil σ σ.next.nat) h5 (by rw [List.length_nil]; omega)
  refine Eff_of a1 ?_
  rw [Ret_1 a2.sl.v1]
  rw [List.nil_append] at a2
  exact hQ v' bs m' σ' h3 a2.sl (Keep.empty ho (Nat.le_refl _) a3) (by omega)
end
end Go.Am
namespace Go.Am
section
variable {tab : Nat → Option PFn} {σ : S} {Q : AVal → S → Prop} {G : Nat → Prop} {d pf ps : Pos} {D : Dk} {fv sv wc : List AVal} {wv : AVal} {mw : Nat}
def sumL (l : List (List Nat)) : Nat := l.foldr (fun f n => f.length + n) 0
theorem sumL_le {l : List (List Nat)} {b : Nat} (h : ∀ f ∈ l, f.length ≤ b) : sumL l ≤ l.length * b := by
  induction l with
  | nil => simp [sumL]
  | cons f l ih =>
    have h1 := h f List.mem_cons_self
    have h2 := ih fun g hg => h g (List.mem_cons_of_mem _ hg)
    show f.length + sumL l ≤ (l.length + 1) * b
    rw [Nat.add_mul]; omega
theorem sumL_mem {l : List (List Nat)} {k : Nat} {f : List Nat} (h : l[k]? = some f) : f.length ≤ sumL l := by
  induction l generalizing k with
  | nil => simp at h
  | cons g l ih =>
    show f.length ≤ g.length + sumL l
    cases k with
    | zero => simp at h; subst h; omega
    | succ k => have := ih (by simpa using h); omega
def Dk.held (D : Dk) : Nat := sumL D.files
theorem DkOk.held_le (h : DkOk D) (hl : D.files.length = 64) : D.held ≤ 134217728 := by
  have := sumL_le (l := D.files) (b := 2097152) fun f hf => (h.fl f hf).1
  unfold Dk.held; omega
theorem held_loop (n : Nat) : ∀ (E : En) (σ : S) (i c : Nat), DkAt σ G d D pf ps fv sv wv wc mw → DkOk D → i + n = 64 → c + sumL (D.files.drop i) = D.held → D.held ≤ 134217728 → E 9 = .sl pf 0 64 64 → E 10 = .int .i64 64 → E 11 = .int .i64 (i : Int) → E 3 = .int .i64 (c : Int) →
    Q (.int .i64 (D.held : Int)) σ → f38.L0 (WF tab) Q E σ := by
  induction n with
  | zero =>
    intro E σ i c h hok hi hc hh h9 h10 h11 h3 hQ
    refine f38.p0_of ?_
    unfold f38.p0
    rw [h11, h10, h3]
    refine Som_of (bin_lss _ _ _ _) ?_
    refine WIf_f (by omega) ?_
    rw [Ret_1 rfl]
    rw [List.drop_of_length_le (by have := h.fd; omega)] at hc
    have : c = D.held := by simpa [sumL] using hc
    rw [this]; exact hQ
  | succ n ih =>
    intro E σ i c h hok hi hc hh h9 h10 h11 h3 hQ
    refine f38.p0_of ?_
    unfold f38.p0
    rw [h11, h10, h3, h9]
    refine Som_of (bin_lss _ _ _ _) ?_
    refine WIf_t (by omega) ?_
    obtain ⟨v, bs, h1, h2, hbs, h4, m, h5, _⟩ := h.file (k := i) (by omega)
    have hlen := h.fd
    have hx : i < D.files.length := by omega
    have hsum : sumL (D.files.drop i) = bs.length + sumL (D.files.drop (i + 1)) := by
      rw [List.drop_eq_getElem_cons hx]
      have : D.files[i] = bs := by
        rw [List.getElem?_eq_getElem hx] at hbs; simpa using hbs
      rw [this]; rfl
    refine Som_of h1 (Som_of h4 (Som_of h5.len (Som_of (bin_add _ _ _ _) (Som_of (bin_add _ _ _ _) ?_))))
    rw [wrap_i64_in (n := (c : Int) + (bs.length : Int)) (by omega) (by omega), wrap_i64_in (n := (i : Int) + 1) (by omega) (by omega)]
    exact ih _ σ (i + 1) (c + bs.length) h hok (by omega) (by omega) hh (by simp [h9]) (by simp [h10]) (by simp) (by simp) hQ
theorem held_c (ht : Tab tab) (h : DkAt σ G d D pf ps fv sv wv wc mw) (hok : DkOk D) (hQ : Q (.int .i64 (D.held : Int)) σ) : WF tab 38 [.ptr d 0] σ Q := by
  refine f38_wf ht.t38 ?_
  unfold f38
  refine Som_of rfl (Som_of (vField0 _ _ _) (Som_of (ld h.blk rfl) (Som_of rfl ?_)))
  exact held_loop 64 _ σ 0 0 h hok rfl (by simp [Dk.held]) (hok.held_le h.fd) (by simp) (by simp) (by simp) (by simp) hQ
def writtenF (old : List Nat) (a : Nat) (p : List Nat) : List Nat :=
  ((old ++ List.replicate (max old.length (a + p.length) - old.length) 0).take a) ++ p ++ (old ++ List.replicate (max old.length (a + p.length) - old.length) 0).drop (a + p.length)
theorem writtenF_len (old : List Nat) (a : Nat) (p : List Nat) : (writtenF old a p).length = max old.length (a + p.length) := by
  unfold writtenF
  simp only [List.length_append, List.length_take, List.length_drop, List.length_replicate]
  omega
theorem writtenF_bytes {old : List Nat} {a : Nat} {p : List Nat} (ho : Bytes old) (hp : Bytes p) : Bytes (writtenF old a p) := by
  have hz : Bytes (old ++ List.replicate (max old.length (a + p.length) - old.length) 0) := ho.app fun c hc => by rw [List.eq_of_mem_replicate hc]; omega
  exact ((hz.take a).app hp).app (hz.drop _)
theorem zeros_bytesV (n : Nat) : List.replicate n (AVal.int .u8 0) = bytesV (List.replicate n 0) := by
  induction n with
  | zero => rfl
  | succ n ih => rw [List.replicate_succ, List.replicate_succ, ih]; rfl
theorem max2 (a b : Nat) : maxA (.int .i64 (a : Int)) [.int .i64 (b : Int)] = some (.int .i64 ((max a b : Nat) : Int)) := by
  show (match ilt (a : Int) (b : Int) with | true => maxA (AVal.int .i64 (b : Int)) [] | false => maxA (AVal.int .i64 (a : Int)) []) = _
  rw [ilt_eq]
  by_cases h : (a : Int) < (b : Int)
  · rw [decide_eq_true h]
    show some (AVal.int .i64 (b : Int)) = _
    rw [Nat.max_eq_right (by omega)]
  · rw [decide_eq_false h]
    show some (AVal.int .i64 (a : Int)) = _
    rw [Nat.max_eq_left (by omega)]
theorem written_c (ht : Tab tab) (ho : Ok σ) {v w : AVal} {old p : List Nat} {m k a : Nat} (hv : BySl σ v old m) (hw : BySl σ w p k) (hl : old.length ≤ 1000000000) (hl2 : a + p.length ≤ 1000000000)
    (hQ : ∀ r σ' m', BySl σ' r (writtenF old a p) m' → Keep0 σ σ' → σ.next.nat ≤ m' → Q r σ') : WF tab 39 [v, .int .i64 (a : Int), w] σ Q := by
  refine f39_wf ht.t39 ?_
  unfold f39
  refine Som_of hv.len (Som_of hw.len (Som_of (bin_add _ _ _ _) ?_))
  have e1 : IntKind.i64.wrap ((a : Int) + (p.length : Int)) = ((a + p.length : Nat) : Int) := by
    rw [wrap_i64_in (n := (a : Int) + (p.length : Int)) (by omega) (by omega)]; omega
  rw [e1]
  refine Som_of (max2 _ _) ?_
  generalize hN : max old.length (a + p.length) = N
  refine Ala_of (make_of (esz := 1) (z := [AVal.int .u8 0]) (Nat.le_refl N) (by omega) (by omega)) ?_
  rw [repN_one]
  have k1 : Keep0 σ (σ.new ⟨1, .ex, List.replicate N (.int .u8 0)⟩) := Keep.new ho _
  have b1 : (σ.new ⟨1, .ex, List.replicate N (.int .u8 0)⟩).blk σ.next = some ⟨1, .ex, List.replicate N (.int .u8 0)⟩ := by rw [blk_new, if_pos rfl]; rfl
  have n1 := new_next (σ := σ) ⟨1, .ex, List.replicate N (.int .u8 0)⟩
  have hv1 := hv.keep (fun _ h => h) k1
  have hw1 := hw.keep (fun _ h => h) k1
  generalize σ.new ⟨1, .ex, List.replicate N (.int .u8 0)⟩ = σ1 at *
  refine Eff_of (copy_of (esz := 1) (n := N) (cap := N) (o := 0) hv1.slLen (BySl.read hv1) (by rw [bytesV_len]; omega) (by omega) b1 (by rw [List.length_replicate]; omega)) ?_
  -- the old bytes
  have c1 : ∃ σ2, σ2 = (if old.length = 0 then σ1 else σ1.upd σ.next ⟨1, .ex, (List.replicate N (AVal.int .u8 0)).take 0 ++ bytesV old ++ (List.replicate N (AVal.int .u8 0)).drop (0 + old.length * 1)⟩) ∧
      σ2.blk σ.next = some ⟨1, .ex, bytesV (old ++ List.replicate (N - old.length) 0)⟩ ∧ Keep (fun x => x = σ.next.nat) σ1 σ2 := by
    refine ⟨_, rfl, ?_, ?_⟩
    · by_cases h0 : old.length = 0
      · rw [if_pos h0, b1]
        have : old = [] := List.eq_nil_of_length_eq_zero h0
        subst this
        rw [List.nil_append, List.length_nil, Nat.sub_zero, zeros_bytesV]
      · rw [if_neg h0, blk_upd_same]
        congr 2
        rw [List.take_zero, List.nil_append, Nat.zero_add, Nat.mul_one, List.drop_replicate, zeros_bytesV, bytesV_app]
    · by_cases h0 : old.length = 0
      · rw [if_pos h0]; exact Keep.refl k1.ok
      · rw [if_neg h0]; exact Keep.upd k1.ok b1 rfl
  obtain ⟨σ2, e2, b2, k2⟩ := c1
  rw [← e2]
  clear e2
  have hzl : (bytesV (old ++ List.replicate (N - old.length) 0)).length = N := by
    rw [bytesV_len, List.length_append, List.length_replicate]; omega
  have hn0 : ∀ {l : List Nat} {j : Nat}, BySl σ w l j → l.length * 1 ≠ 0 → ¬ j = σ.next.nat := fun hj hz e => by
    have := SlAt.own_lt hj ho hz; omega
  have hw2 := hw1.keep (M := fun x => x = σ.next.nat) (fun hz => hn0 hw hz) k2
  have hS : SlAt σ2 (.sl σ.next 0 N N) 1 N (bytesV (old ++ List.replicate (N - old.length) 0)) σ.next.nat := exSl b2 hzl
  have hsl : vSlSl 1 (.sl σ.next 0 N N) (some (.int .i64 (a : Int))) none none = some (.sl σ.next (if N = a then 0 else a) (N - a) (N - a)) := by
    show andThen (bounds (some (.int .i64 (a : Int))) none none N N) (slKnown 1 σ.next 0) = _
    unfold bounds
    rw [bnd_none, andThen_s, bnd_none, andThen_s, bnd_some (show a ≤ N by omega), andThen_s, andThen_s]
    unfold slKnown
    simp only
    by_cases e : N = a
    · rw [if_pos e, e, Nat.beq_refl]
      unfold outSl; simp only [forceNat_eq]
    · have hb : Nat.beq N a = false := by rw [← Bool.not_eq_true]; exact fun h => e (Nat.eq_of_beq_eq_true h)
      rw [if_neg e, hb]
      unfold outSl; simp only [forceNat_eq]
      rw [Nat.zero_add, Nat.mul_one]
  refine Som_of hsl ?_
  have hif : p.length ≠ 0 → (if N = a then 0 else a) = a := fun hp => by rw [if_neg (by omega)]
  refine Eff_of (copy_of (esz := 1) (n := N - a) (cap := N - a) hw2.slLen (BySl.read hw2) (by rw [bytesV_len]; omega) (by omega) b2 (by rw [hzl]; split <;> omega)) ?_
  rw [Ret_1 rfl]
  have fin : ∃ σ3, σ3 = (if p.length = 0 then σ2 else σ2.upd σ.next ⟨1, .ex, (bytesV (old ++ List.replicate (N - old.length) 0)).take (if N = a then 0 else a) ++ bytesV p ++ (bytesV (old ++ List.replicate (N - old.length) 0)).drop ((if N = a then 0 else a) + p.length * 1)⟩) ∧
      σ3.blk σ.next = some ⟨1, .ex, bytesV (writtenF old a p)⟩ ∧ Keep (fun x => x = σ.next.nat) σ2 σ3 := by
    refine ⟨_, rfl, ?_, ?_⟩
    · by_cases h0 : p.length = 0
      · rw [if_pos h0, b2]
        have : p = [] := List.eq_nil_of_length_eq_zero h0
        subst this
        unfold writtenF
        rw [List.append_nil, List.length_nil, Nat.add_zero, List.take_append_drop, ← hN, List.length_nil, Nat.add_zero]
      · rw [if_neg h0, blk_upd_same, hif h0]
        congr 2
        unfold writtenF
        rw [hN, Nat.mul_one, bytesV_take, bytesV_drop, bytesV_app, bytesV_app]
    · by_cases h0 : p.length = 0
      · rw [if_pos h0]; exact Keep.refl k2.ok
      · rw [if_neg h0]; exact Keep.upd k2.ok b2 rfl
  obtain ⟨σ3, e3, b3, k3⟩ := fin
  rw [← e3]
  have hl3 : (bytesV (writtenF old a p)).length = N := by rw [bytesV_len, writtenF_len, hN]
  have hlw : (writtenF old a p).length = N := by rw [writtenF_len, hN]
  refine hQ _ σ3 σ.next.nat ?_ (k1.then ho (k2.trans k3) fun x hx e => by omega) (Nat.le_refl _)
  show SlAt _ _ _ _ _ _
  rw [hlw]
  exact exSl b3 hl3
end
end Go.Am
