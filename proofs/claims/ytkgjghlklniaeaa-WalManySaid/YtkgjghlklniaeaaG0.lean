/-
  The game of the log, as conditions over the evaluator. Conditions: none.
-/
import Derived.Test.YtkgjghlklniaeaaP1
namespace Go.Am
section
variable {tab : Nat → Option PFn} {σ : S} {Q : AVal → S → Prop}
theorem box_new (ho : Ok σ) (cs : List AVal) : Keep0 σ (σ.new ⟨0, .ex, cs⟩) ∧ (σ.new ⟨0, .ex, cs⟩).blk σ.next = some ⟨0, .ex, cs⟩ ∧ (σ.new ⟨0, .ex, cs⟩).next.nat = σ.next.nat + 1 :=
  ⟨Keep.new ho _, by rw [blk_new, if_pos rfl]; rfl, new_next _⟩
theorem SlAt.k0 {v : AVal} {esz n m : Nat} {cs : List AVal} {σ' : S} (h : SlAt σ v esz n cs m) (k : Keep0 σ σ') : SlAt σ' v esz n cs m := h.keep (M := fun _ => False) (fun _ h => h) k
abbrev SsAt (σ : S) (v : AVal) (rs : List (List Nat)) (m : Nat) : Prop := SlAt σ v 1 rs.length (strs rs) m
theorem Keep0.blk {σ' : S} (k : Keep0 σ σ') {p : Pos} {b : Blk} (h : σ.blk p = some b) : σ'.blk p = some b := k.old _ _ h fun h => h
def Rw.last (r : Rw) : Int := (r.first : Int) + (r.recs.length : Int) - 1
def Rw.val (r : Rw) (v : AVal) : AVal := .agg [.int .i64 (r.first : Int), v]
def RwOk (r : Rw) : Prop := r.first ≤ 2199023255552 ∧ r.recs.length ≤ 1000000 ∧ ∀ x ∈ r.recs, Bytes x ∧ x.length ≤ 20000
theorem rlast_c (ht : Tab tab) (ho : Ok σ) {r : Rw} {v : AVal} {m : Nat} (hr : SsAt σ v r.recs m) (hok : RwOk r) (hQ : ∀ σ', Keep0 σ σ' → Q (.int .i64 r.last) σ') : WF tab 81 [r.val v] σ Q := by
  refine f81_wf ht.t81 ?_
  unfold f81
  obtain ⟨h1, h2, _⟩ := hok
  refine Ala_of (show aBoxV (r.val v) = some (⟨0, .ex, [.int .i64 (r.first : Int), v]⟩, fun p => .ptr p 0) from rfl) ?_
  obtain ⟨k1, b1, _⟩ := box_new ho [.int .i64 (r.first : Int), v]
  have hr1 := hr.k0 k1
  refine Som_of (vField0 _ _ _) (Som_of (ld b1 rfl) (Som_of (vField0 _ _ _) (Som_of (ld b1 rfl) (Som_of hr1.len (Som_of (bin_add _ _ _ _) (Som_of (bin_sub _ _ _ _) ?_))))))
  rw [wrap_i64_in (n := (r.first : Int) + (r.recs.length : Int)) (by omega) (by omega), wrap_i64_in (n := (r.first : Int) + (r.recs.length : Int) - 1) (by omega) (by omega), Ret_1 rfl]
  exact hQ _ k1
theorem SlAt.strAt {v : AVal} {rs : List (List Nat)} {m k : Nat} {x : List Nat} (h : SsAt σ v rs m) (hx : rs[k]? = some x) : ∃ ad, vIxSl 1 v (.int .i64 (k : Int)) = some ad ∧ vLoad1 ad σ = some (.str x) := by
  have hk : k < rs.length := (List.getElem?_eq_some_iff.1 hx).1
  obtain ⟨b, o, blk, h1, h2, _, h4⟩ := SlAt.at h hk (by omega)
  refine ⟨_, h1, ?_⟩
  have := h4 0 (by omega)
  rw [Nat.mul_one, Nat.add_zero, Nat.add_zero] at this
  rw [Nat.mul_one]
  refine ld h2 ?_
  rw [this]
  simp [strs, hx]
theorem same_loop (ht : Tab tab) {pa pb : Pos} {a b : List (List Nat)} {fa fb : Int} {va vb : AVal} {ma mb : Nat} (hl : a.length = b.length) (hn : a.length ≤ 1000000) (n : Nat) : ∀ (E : En) (σ : S) (i : Nat), Ok σ → i + n = a.length → a.take i = b.take i →
    σ.blk pa = some ⟨0, .ex, [.int .i64 fa, va]⟩ → σ.blk pb = some ⟨0, .ex, [.int .i64 fb, vb]⟩ → SsAt σ va a ma → SsAt σ vb b mb → E 2 = .ptr pa 0 → E 3 = .ptr pb 0 → E 5 = .int .i64 (i : Int) →
    (∀ σ', Keep0 σ σ' → Q (.bool (decide (a = b))) σ') → f28.L0 (WF tab) Q E σ := by
  induction n with
  | zero =>
    intro E σ i ho hi htk ba bb sa sb e2 e3 e5 hQ
    refine f28.p0_of ?_
    unfold f28.p0
    rw [e2, e5]
    refine Som_of (vField0 _ _ _) (Som_of (ld ba rfl) (Som_of sa.len (Som_of (bin_lss _ _ _ _) (WIf_f (by omega) ?_))))
    rw [Ret_1 rfl]
    have : a = b := by
      rw [← List.take_of_length_le (show a.length ≤ i by omega), htk, List.take_of_length_le (by omega)]
    rw [decide_eq_true this] at hQ
    exact hQ σ (Keep.refl ho)
  | succ n ih =>
    intro E σ i ho hi htk ba bb sa sb e2 e3 e5 hQ
    refine f28.p0_of ?_
    unfold f28.p0
    rw [e2, e3, e5]
    have k1 : Keep0 σ (σ.bumpT 11) := Keep.bump ho 11
    have hia : i < a.length := by omega
    have hib : i < b.length := by omega
    obtain ⟨ada, a1, a2⟩ := (sa.k0 k1).strAt (k := i) (List.getElem?_eq_getElem hia)
    obtain ⟨adb, b1, b2⟩ := (sb.k0 k1).strAt (k := i) (List.getElem?_eq_getElem hib)
    refine Som_of (vField0 _ _ _) (Som_of (ld ba rfl) (Som_of sa.len (Som_of (bin_lss _ _ _ _) (WIf_t (by omega) ?_))))
    refine Som_of (vField0 _ _ _) (Som_of (ld (k1.blk ba) rfl) (Som_of a1 (Som_of a2 (Som_of (vField0 _ _ _) (Som_of (ld (k1.blk bb) rfl) (Som_of b1 (Som_of b2 (Som_of (bin_neq_str _ _ _) ?_))))))))
    refine WIf_dec (fun hne => ?_) (fun heq => ?_)
    · rw [Ret_1 rfl]
      have : ¬ a = b := fun e => hne (by subst e; rfl)
      rw [decide_eq_false this] at hQ
      exact hQ _ k1
    · have heq : a[i] = b[i] := Decidable.not_not.1 heq
      refine Som_of (bin_add _ _ _ _) ?_
      rw [wrap_i64_in (n := (i : Int) + 1) (by omega) (by omega)]
      refine ih _ _ (i + 1) k1.ok (by omega) ?_ (k1.blk ba) (k1.blk bb) (sa.k0 k1) (sb.k0 k1) (by simp [e2]) (by simp [e3]) (by simp) fun σ' k => hQ σ' (k1.trans k)
      rw [List.take_succ_eq_append_getElem hia, List.take_succ_eq_append_getElem hib, htk, heq]
theorem rw_ext {a b : Rw} : a = b ↔ a.first = b.first ∧ a.recs = b.recs := by
  cases a; cases b; simp
noncomputable instance (a b : Rw) : Decidable (a = b) := Classical.propDecidable _
theorem same_c (ht : Tab tab) (ho : Ok σ) {a b : Rw} {va vb : AVal} {ma mb : Nat} (ha : SsAt σ va a.recs ma) (hb : SsAt σ vb b.recs mb) (oa : a.recs.length ≤ 1000000) (hQ : ∀ σ', Keep0 σ σ' → Q (.bool (decide (a = b))) σ') : WF tab 28 [a.val va, b.val vb] σ Q := by
  refine f28_wf ht.t28 ?_
  unfold f28
  refine Ala_of (show aBoxV (a.val va) = some (⟨0, .ex, [.int .i64 (a.first : Int), va]⟩, fun p => .ptr p 0) from rfl) ?_
  obtain ⟨k1, b1, n1⟩ := box_new ho [.int .i64 (a.first : Int), va]
  generalize σ.new ⟨0, .ex, [.int .i64 (a.first : Int), va]⟩ = σ1 at *
  refine Ala_of (show aBoxV (b.val vb) = some (⟨0, .ex, [.int .i64 (b.first : Int), vb]⟩, fun p => .ptr p 0) from rfl) ?_
  obtain ⟨k2, b2, n2⟩ := box_new k1.ok [.int .i64 (b.first : Int), vb]
  generalize σ1.new ⟨0, .ex, [.int .i64 (b.first : Int), vb]⟩ = σ2 at *
  have k12 := k1.trans k2
  have ha2 := ha.k0 k12
  have hb2 := hb.k0 k12
  have b1 := k2.blk b1
  refine Som_of (vField0 _ _ _) (Som_of (ld b1 rfl) (Som_of (vField0 _ _ _) (Som_of (ld b2 rfl) (Som_of (bin_neq _ _ _ _) ?_))))
  by_cases hf : (a.first : Int) ≠ (b.first : Int)
  · rw [decide_eq_true hf]
    refine Som_of rfl (Som_of rfl (Som_of rfl (Som_of rfl (Som_of rfl (Som_of rfl (Som_of rfl (Som_of rfl ?_)))))))
    rw [WIf_true, Ret_1 rfl]
    have : ¬ a = b := fun e => hf (by rw [e])
    rw [decide_eq_false this] at hQ
    exact hQ _ k12
  · rw [decide_eq_false hf]
    refine Sq_of rfl (vField0 _ _ _) (Sq_of rfl (ld b1 rfl) (Sq_of rfl ha2.len (Sq_of rfl (vField0 _ _ _) (Sq_of rfl (ld b2 rfl) (Sq_of rfl hb2.len (Sq_of rfl (bin_neq _ _ _ _) (Som_of rfl ?_)))))))
    refine WIf_dec (fun hne => ?_) (fun heq => ?_)
    · rw [Ret_1 rfl]
      have : ¬ a = b := fun e => hne (by rw [e])
      rw [decide_eq_false this] at hQ
      exact hQ _ k12
    · refine same_loop ht (pa := σ.next) (pb := σ1.next) (a := a.recs) (b := b.recs) (by omega) oa a.recs.length _ σ2 0 k12.ok (by omega) rfl b1 b2 ha2 hb2 (by simp) (by simp) (by simp) fun σ' k => ?_
      have : decide (a.recs = b.recs) = decide (a = b) := by
        refine decide_eq_decide.2 ?_
        rw [rw_ext]
        exact ⟨fun h => ⟨by omega, h⟩, fun h => h.2⟩
      rw [this]
      exact hQ σ' (k12.trans k)
end
end Go.Am
namespace Go.Am
section
variable {tab : Nat → Option PFn} {σ : S} {Q : AVal → S → Prop}
structure Ak where
  kind : Int
  i : Int
  n : Int
  keep : Int
  torn : Int
  raw : Bool
  recs : List (List Nat)
def Ak.cells (a : Ak) (v : AVal) : List AVal := [.int .i64 a.kind, .int .i64 a.i, .int .i64 a.n, .int .i64 a.keep, .int .i64 a.torn, .bool a.raw, v]
def Ak.val (a : Ak) (v : AVal) : AVal := .agg (a.cells v)
def I64 (n : Int) : Prop := -9223372036854775808 ≤ n ∧ n ≤ 9223372036854775807
structure AkOk (a : Ak) : Prop where
  kind : I64 a.kind
  i : I64 a.i
  n : I64 a.n
  keep : I64 a.keep
  torn : I64 a.torn
def placeF (r : Rw) (a : Ak) : Int := if a.raw = true ∨ a.i < -100 ∨ 100 < a.i then a.i else if a.kind = 3 then (r.first : Int) + a.i else r.last + 1 + a.i
theorem place_c (ht : Tab tab) (ho : Ok σ) {r : Rw} {v w : AVal} {m : Nat} {a : Ak} (hr : SsAt σ v r.recs m) (hok : RwOk r) (hQ : ∀ σ', Keep0 σ σ' → Q (.int .i64 (placeF r a)) σ') : WF tab 53 [r.val v, a.val w] σ Q := by
  refine f53_wf ht.t53 ?_
  unfold f53
  obtain ⟨h1, h2, _⟩ := hok
  refine Ala_of (show aBoxV (r.val v) = some (⟨0, .ex, [.int .i64 (r.first : Int), v]⟩, fun p => .ptr p 0) from rfl) ?_
  obtain ⟨k1, b1, n1⟩ := box_new ho [.int .i64 (r.first : Int), v]
  generalize σ.new ⟨0, .ex, [.int .i64 (r.first : Int), v]⟩ = σ1 at *
  refine Ala_of (show aBoxV (a.val w) = some (⟨0, .ex, a.cells w⟩, fun p => .ptr p 0) from rfl) ?_
  obtain ⟨k2, b2, n2⟩ := box_new k1.ok (a.cells w)
  generalize σ1.new ⟨0, .ex, a.cells w⟩ = σ2 at *
  have k12 := k1.trans k2
  have b1 := k2.blk b1
  have hr2 := hr.k0 k12
  unfold placeF at hQ
  -- the number itself
  have raw : (a.raw = true ∨ a.i < -100 ∨ 100 < a.i) → ∀ σ3 : S, Keep0 σ σ3 → σ3 = σ2 → Som (vFieldAddr 1 (.ptr σ1.next 0)) fun t17 => Som (vLoad1 t17 σ3) fun t18 => Ret [some t18] σ3 Q := fun h σ3 k e => by
    subst e
    refine Som_of (vField0 _ _ _) (Som_of (ld b2 rfl) ?_)
    rw [Ret_1 rfl]
    rw [if_pos h] at hQ
    exact hQ _ k
  have main : ¬ (a.raw = true ∨ a.i < -100 ∨ 100 < a.i) → (if a.kind = 3 then (r.first : Int) + a.i else r.last + 1 + a.i) = (if a.raw = true ∨ a.i < -100 ∨ 100 < a.i then a.i else if a.kind = 3 then (r.first : Int) + a.i else r.last + 1 + a.i) := fun h => by rw [if_neg h]
  refine Som_of (vField0 _ _ _) (Som_of (ld b2 rfl) ?_)
  cases hraw : a.raw with
  | true =>
    refine Som_of rfl (Som_of rfl (Som_of rfl (Som_of rfl (Som_of rfl (Som_of rfl (Som_of rfl (Som_of rfl ?_)))))))
    rw [WIf_true]
    exact raw (.inl hraw) σ2 k12 rfl
  | false =>
    refine Sq_of rfl (vField0 _ _ _) (Sq_of rfl (ld b2 rfl) (Sq_of rfl (bin_lss _ _ _ _) (Som_of rfl ?_)))
    by_cases hlo : a.i < -100
    · rw [decide_eq_true hlo]
      refine Som_of rfl (Som_of rfl (Som_of rfl (Som_of rfl ?_)))
      rw [WIf_true]
      exact raw (.inr (.inl hlo)) σ2 k12 rfl
    rw [decide_eq_false hlo]
    refine Sq_of rfl (vField0 _ _ _) (Sq_of rfl (ld b2 rfl) (Sq_of rfl (bin_gtr _ _ _ _) (Som_of rfl ?_)))
    refine WIf_dec (fun hhi => raw (.inr (.inr hhi)) σ2 k12 rfl) (fun hhi => ?_)
    have hno : ¬ (a.raw = true ∨ a.i < -100 ∨ 100 < a.i) := by
      rw [hraw]
      rintro (h | h | h)
      · cases h
      · exact hlo h
      · exact hhi h
    rw [← main hno] at hQ
    refine Som_of (vField0 _ _ _) (Som_of (ld b2 rfl) (Som_of (bin_eql _ _ _ _) ?_))
    refine WIf_dec (fun hk => ?_) (fun hk => ?_)
    · refine Som_of (vField0 _ _ _) (Som_of (ld b1 rfl) (Som_of (vField0 _ _ _) (Som_of (ld b2 rfl) (Som_of (bin_add _ _ _ _) ?_))))
      rw [wrap_i64_in (n := (r.first : Int) + a.i) (by omega) (by omega), Ret_1 rfl]
      rw [if_pos hk] at hQ
      exact hQ _ k12
    · have k3 : Keep0 σ2 (σ2.bumpT 7) := Keep.bump k12.ok 7
      have k13 := k12.trans k3
      have b1 := k3.blk b1
      have b2 := k3.blk b2
      generalize σ2.bumpT 7 = σ3 at *
      refine Som_of (ldN (n := 2) b1 (by simp) rfl) (Som_of (vField0 _ _ _) (Som_of (ld b2 rfl) ?_))
      refine rlast_c ht k13.ok (hr.k0 k13) ⟨h1, h2, by assumption⟩ fun σ4 k4 => ?_
      refine Sure_of (SameO_of (ld (k4.blk b2) rfl) (same_int _ _)) ?_
      refine Som_of (bin_add _ _ _ _) (Som_of (bin_add _ _ _ _) ?_)
      have hl : r.last = (r.first : Int) + (r.recs.length : Int) - 1 := rfl
      rw [wrap_i64_in (n := r.last + 1) (by omega) (by omega), wrap_i64_in (n := r.last + 1 + a.i) (by omega) (by omega), Ret_1 rfl]
      rw [if_neg hk] at hQ
      exact hQ _ (k13.trans k4)
def clV (kind i : Int) (v : AVal) : AVal := .agg [.int .i64 kind, .int .i64 i, v]
def badF (r : Rw) (kind i : Int) (rs : List (List Nat)) : Prop :=
  if kind = 1 then (r.recs ≠ [] ∧ i ≠ r.last + 1) ∨ i < 1 ∨ 1099511627777 < i ∨ 1099511627776 < i + (rs.length : Int) - 1 ∨ ∃ x ∈ rs, 16284 < x.length
  else i < r.first ∨ r.last + 1 < i
noncomputable instance (r : Rw) (kind i : Int) (rs : List (List Nat)) : Decidable (badF r kind i rs) := Classical.propDecidable _
theorem bad_loop (ht : Tab tab) {p : Pos} {kind i0 : Int} {rs : List (List Nat)} {v : AVal} {m : Nat} (hn : rs.length ≤ 1000000) (n : Nat) : ∀ (E : En) (σ : S) (i : Nat), Ok σ → i + n = rs.length → (∀ x ∈ rs.take i, x.length ≤ 16284) →
    σ.blk p = some ⟨0, .ex, [.int .i64 kind, .int .i64 i0, v]⟩ → SsAt σ v rs m → (∀ x ∈ rs, x.length ≤ 1000000000) → E 3 = .ptr p 0 → E 5 = .int .i64 (i : Int) →
    ((∃ x ∈ rs, 16284 < x.length) → Q (.bool true) σ) → ((∀ x ∈ rs, x.length ≤ 16284) → Q (.bool false) σ) → f54.L0 (WF tab) Q E σ := by
  induction n with
  | zero =>
    intro E σ i ho hi hs hb hv _ e3 e5 hT hF
    refine f54.p0_of ?_
    unfold f54.p0
    rw [e3, e5]
    refine Som_of (vField0 _ _ _) (Som_of (ld hb rfl) (Som_of hv.len (Som_of (bin_lss _ _ _ _) (WIf_f (by omega) ?_))))
    rw [Ret_1 rfl]
    rw [List.take_of_length_le (by omega)] at hs
    exact hF hs
  | succ n ih =>
    intro E σ i ho hi hs hb hv hbig e3 e5 hT hF
    refine f54.p0_of ?_
    unfold f54.p0
    rw [e3, e5]
    have hir : i < rs.length := by omega
    obtain ⟨ad, a1, a2⟩ := hv.strAt (k := i) (List.getElem?_eq_getElem hir)
    refine Som_of (vField0 _ _ _) (Som_of (ld hb rfl) (Som_of hv.len (Som_of (bin_lss _ _ _ _) (WIf_t (by omega) ?_))))
    refine Som_of (vField0 _ _ _) (Som_of (ld hb rfl) (Som_of a1 (Som_of a2 (Som_of (vLenStr_str _) (Som_of (bin_gtr _ _ _ _) ?_)))))
    refine WIf_dec (fun hgt => ?_) (fun hle => ?_)
    · rw [Ret_1 rfl]
      exact hT ⟨rs[i], List.getElem_mem _, by omega⟩
    · refine Som_of (bin_add _ _ _ _) ?_
      rw [wrap_i64_in (n := (i : Int) + 1) (by omega) (by omega)]
      refine ih _ σ (i + 1) ho (by omega) (fun x hx => ?_) hb hv hbig (by simp [e3]) (by simp) hT hF
      rw [List.take_succ_eq_append_getElem hir] at hx
      rcases List.mem_append.1 hx with hx | hx
      · exact hs x hx
      · rw [List.mem_singleton] at hx
        rw [hx]; omega
theorem bad_c (ht : Tab tab) (ho : Ok σ) {r : Rw} {v w : AVal} {m mw : Nat} {kind i : Int} {rs : List (List Nat)} (hr : SsAt σ v r.recs m) (hok : RwOk r) (hw : SsAt σ w rs mw) (hi : I64 i) (hrs : rs.length ≤ 1000000 ∧ ∀ x ∈ rs, x.length ≤ 1000000000)
    (hQ : ∀ σ', Keep0 σ σ' → Q (.bool (decide (badF r kind i rs))) σ') : WF tab 54 [r.val v, clV kind i w] σ Q := by
  refine f54_wf ht.t54 ?_
  unfold f54
  obtain ⟨h1, h2, h3⟩ := hok
  obtain ⟨i1, i2⟩ := hi
  have hl : r.last = (r.first : Int) + (r.recs.length : Int) - 1 := rfl
  refine Ala_of (show aBoxV (r.val v) = some (⟨0, .ex, [.int .i64 (r.first : Int), v]⟩, fun p => .ptr p 0) from rfl) ?_
  obtain ⟨k1, b1, n1⟩ := box_new ho [.int .i64 (r.first : Int), v]
  generalize σ.new ⟨0, .ex, [.int .i64 (r.first : Int), v]⟩ = σ1 at *
  refine Ala_of (show aBoxV (clV kind i w) = some (⟨0, .ex, [.int .i64 kind, .int .i64 i, w]⟩, fun p => .ptr p 0) from rfl) ?_
  obtain ⟨k2, b2, n2⟩ := box_new k1.ok [.int .i64 kind, .int .i64 i, w]
  generalize σ1.new ⟨0, .ex, [.int .i64 kind, .int .i64 i, w]⟩ = σ2 at *
  have k12 := k1.trans k2
  have b1 := k2.blk b1
  refine Som_of (vField0 _ _ _) (Som_of (ld b2 rfl) (Som_of (bin_eql _ _ _ _) ?_))
  refine WIf_dec (fun hk => ?_) (fun hk => ?_)
  · -- Append
    have hbf : badF r kind i rs ↔ ((r.recs ≠ [] ∧ i ≠ r.last + 1) ∨ i < 1 ∨ 1099511627777 < i ∨ 1099511627776 < i + (rs.length : Int) - 1 ∨ ∃ x ∈ rs, 16284 < x.length) := by unfold badF; rw [if_pos hk]
    have yes : ∀ σ', Keep0 σ σ' → ((r.recs ≠ [] ∧ i ≠ r.last + 1) ∨ i < 1 ∨ 1099511627777 < i ∨ 1099511627776 < i + (rs.length : Int) - 1 ∨ ∃ x ∈ rs, 16284 < x.length) → Q (.bool true) σ' := fun σ' k h => by
      have := hQ σ' k
      rw [decide_eq_true (hbf.2 h)] at this; exact this
    have k3 : Keep0 σ2 (σ2.bumpT 22) := Keep.bump k12.ok 22
    have k13 := k12.trans k3
    have b1 := k3.blk b1
    have b2 := k3.blk b2
    generalize σ2.bumpT 22 = σ3 at *
    have hr3 := hr.k0 k13
    refine Som_of (vField0 _ _ _) (Som_of (ld b1 rfl) (Som_of hr3.len (Som_of (bin_gtr _ _ _ _) ?_)))
    have tail : ∀ (σ4 : S), Keep0 σ3 σ4 → ¬ (r.recs ≠ [] ∧ i ≠ r.last + 1) → ∀ E : En, E 3 = .ptr σ1.next 0 → E 5 = .int .i64 0 → ¬ i < 1 → ¬ 1099511627777 < i → ¬ 1099511627776 < i + (rs.length : Int) - 1 → f54.L0 (WF tab) Q E σ4 := fun σ4 k4 hn1 E e3 e5 hn2 hn3 hn4 => by
      have k14 := k13.trans k4
      refine bad_loop ht (p := σ1.next) hrs.1 rs.length E σ4 0 k14.ok (by omega) (fun x hx => by simp at hx) (k4.blk b2) (hw.k0 k14) hrs.2 e3 e5 (fun h => yes _ k14 (.inr (.inr (.inr (.inr h))))) fun h => ?_
      have := hQ σ4 k14
      rw [decide_eq_false] at this
      · exact this
      · rw [hbf]
        rintro (h' | h' | h' | h' | ⟨x, hx, hgt⟩)
        · exact hn1 h'
        · exact hn2 h'
        · exact hn3 h'
        · exact hn4 h'
        · have := h x hx; omega
    by_cases hz : r.recs = []
    · have hlen : ¬ (0 : Int) < (r.recs.length : Int) := by rw [hz]; simp
      have hn1 : ¬ (r.recs ≠ [] ∧ i ≠ r.last + 1) := fun h => h.1 hz
      rw [decide_eq_false hlen]
      refine Som_of rfl (Som_of rfl (Som_of rfl (GE_n rfl (Som_of rfl (Som_of rfl (Som_of (v := .bool false) rfl ?_))))))
      refine Sq_of rfl (vField0 _ _ _) (Sq_of rfl (ld b2 rfl) (Sq_of rfl (bin_lss _ _ _ _) (Som_of rfl ?_)))
      by_cases hn2 : i < 1
      · rw [decide_eq_true hn2]
        refine Som_of rfl (Som_of rfl (Som_of rfl (Som_of rfl ?_)))
        rw [WIf_true, Ret_1 rfl]
        exact yes _ k13 (.inr (.inl hn2))
      rw [decide_eq_false hn2]
      refine Sq_of rfl (vField0 _ _ _) (Sq_of rfl (ld b2 rfl) (Sq_of rfl (bin_gtr _ _ _ _) (Som_of rfl ?_)))
      refine WIf_dec (fun hn3 => ?_) (fun hn3 => ?_)
      · rw [Ret_1 rfl]; exact yes _ k13 (.inr (.inr (.inl hn3)))
      refine Som_of (vField0 _ _ _) (Som_of (ld b2 rfl) (Som_of (vField0 _ _ _) (Som_of (ld b2 rfl) (Som_of (hw.k0 k13).len (Som_of (bin_add _ _ _ _) (Som_of (bin_sub _ _ _ _) (Som_of (bin_gtr _ _ _ _) ?_)))))))
      rw [wrap_i64_in (n := i + (rs.length : Int)) (by omega) (by omega), wrap_i64_in (n := i + (rs.length : Int) - 1) (by omega) (by omega)]
      refine WIf_dec (fun hn4 => ?_) (fun hn4 => ?_)
      · rw [Ret_1 rfl]; exact yes _ k13 (.inr (.inr (.inr (.inl hn4))))
      exact tail σ3 (Keep.refl k13.ok) hn1 _ (by simp) (by simp) hn2 hn3 hn4
    · have hlen : (0 : Int) < (r.recs.length : Int) := by have := List.length_pos_iff.2 hz; omega
      rw [decide_eq_true hlen]
      refine Sq_of rfl (vField0 _ _ _) (Sq_of rfl (ld b2 rfl) (Sq_of rfl (ldN (n := 2) b1 (by simp) rfl) (GE_t rfl ?_)))
      refine rlast_c ht k13.ok hr3 ⟨h1, h2, h3⟩ fun σ4 k4 => ?_
      have k14 := k13.trans k4
      have b2 := k4.blk b2
      refine Sure_of (by rw [SameO_of (ld b2 rfl) (same_int _ _)]; rfl) ?_
      refine Sq_of rfl (bin_add _ _ _ _) (Sq_of rfl (bin_neq _ _ _ _) (Som_of rfl ?_))
      rw [wrap_i64_in (n := r.last + 1) (by omega) (by omega)]
      by_cases hne : i ≠ r.last + 1
      · rw [decide_eq_true hne]
        refine Som_of rfl (Som_of rfl (Som_of rfl (Som_of (v := .bool true) rfl (Som_of rfl (Som_of rfl (Som_of rfl (Som_of rfl ?_)))))))
        rw [WIf_true, Ret_1 rfl]
        exact yes _ k14 (.inl ⟨hz, hne⟩)
      rw [decide_eq_false hne]
      have hn1 : ¬ (r.recs ≠ [] ∧ i ≠ r.last + 1) := fun h => hne h.2
      refine Sq_of rfl (vField0 _ _ _) (Sq_of rfl (ld b2 rfl) (Sq_of rfl (bin_lss _ _ _ _) (Som_of rfl ?_)))
      by_cases hn2 : i < 1
      · rw [decide_eq_true hn2]
        refine Som_of rfl (Som_of rfl (Som_of rfl (Som_of rfl ?_)))
        rw [WIf_true, Ret_1 rfl]
        exact yes _ k14 (.inr (.inl hn2))
      rw [decide_eq_false hn2]
      refine Sq_of rfl (vField0 _ _ _) (Sq_of rfl (ld b2 rfl) (Sq_of rfl (bin_gtr _ _ _ _) (Som_of rfl ?_)))
      refine WIf_dec (fun hn3 => ?_) (fun hn3 => ?_)
      · rw [Ret_1 rfl]; exact yes _ k14 (.inr (.inr (.inl hn3)))
      refine Som_of (vField0 _ _ _) (Som_of (ld b2 rfl) (Som_of (vField0 _ _ _) (Som_of (ld b2 rfl) (Som_of (hw.k0 k14).len (Som_of (bin_add _ _ _ _) (Som_of (bin_sub _ _ _ _) (Som_of (bin_gtr _ _ _ _) ?_)))))))
      rw [wrap_i64_in (n := i + (rs.length : Int)) (by omega) (by omega), wrap_i64_in (n := i + (rs.length : Int) - 1) (by omega) (by omega)]
      refine WIf_dec (fun hn4 => ?_) (fun hn4 => ?_)
      · rw [Ret_1 rfl]; exact yes _ k14 (.inr (.inr (.inr (.inl hn4))))
      exact tail σ4 k4 hn1 _ (by simp) (by simp) hn2 hn3 hn4
  · -- Cut, Drop
    have hbf : badF r kind i rs ↔ (i < r.first ∨ r.last + 1 < i) := by unfold badF; rw [if_neg hk]
    have key : ∀ E : En, E 2 = .ptr σ.next 0 → E 3 = .ptr σ1.next 0 → f54.J1 (WF tab) Q E σ2 := by
      intro E e2 e3
      refine f54.p1_of ?_
      unfold f54.p1
      rw [e2, e3]
      have k3 : Keep0 σ2 (σ2.bumpT 14) := Keep.bump k12.ok 14
      have k13 := k12.trans k3
      have b1 := k3.blk b1
      have b2 := k3.blk b2
      generalize σ2.bumpT 14 = σ3 at *
      refine Som_of (vField0 _ _ _) (Som_of (ld b2 rfl) (Som_of (vField0 _ _ _) (Som_of (ld b1 rfl) (Som_of (bin_lss _ _ _ _) ?_))))
      by_cases hlt : i < (r.first : Int)
      · rw [decide_eq_true hlt]
        refine Som_of rfl (Som_of rfl (Som_of rfl (GE_n rfl (Som_of rfl (Som_of rfl (Som_of (v := .bool true) rfl ?_))))))
        rw [Ret_1 rfl]
        have := hQ _ k13
        rw [decide_eq_true (hbf.2 (.inl hlt))] at this
        exact this
      · rw [decide_eq_false hlt]
        refine Sq_of rfl (vField0 _ _ _) (Sq_of rfl (ld b2 rfl) (Sq_of rfl (ldN (n := 2) b1 (by simp) rfl) (GE_t rfl ?_)))
        refine rlast_c ht k13.ok (hr.k0 k13) ⟨h1, h2, h3⟩ fun σ4 k4 => ?_
        refine Sure_of (by rw [SameO_of (ld (k4.blk b2) rfl) (same_int _ _)]; rfl) ?_
        refine Sq_of rfl (bin_add _ _ _ _) (Sq_of rfl (bin_gtr _ _ _ _) (Som_of rfl ?_))
        rw [wrap_i64_in (n := r.last + 1) (by omega) (by omega), Ret_1 rfl]
        have := hQ _ (k13.trans k4)
        have e : decide (badF r kind i rs) = decide (r.last + 1 < i) := decide_eq_decide.2 (hbf.trans ⟨fun h => h.elim (fun h => absurd h hlt) id, .inr⟩)
        rw [e] at this
        exact this
    exact key _ (by simp) (by simp)
end
end Go.Am
namespace Go.Am
section
variable {tab : Nat → Option PFn} {σ : S} {Q : AVal → S → Prop}
theorem append_ss (ho : Ok σ) {s x : AVal} {a b : List (List Nat)} {m mb : Nat} (hg : GrAt σ s 1 a.length (strs a) m) (hx : SsAt σ x b mb) (hf : a.length + b.length ≤ 10000000) :
    ∃ v σ' m', appendA 1 16 s x σ = some (v, σ') ∧ GrAt σ' v 1 (a ++ b).length (strs (a ++ b)) m' ∧ Keep (fun y => y = m) σ σ' ∧ (m' = m ∨ (σ.next.nat ≤ m' ∧ m' < σ'.next.nat)) := by
  obtain ⟨v, σ', m', h1, h2, h3, h4⟩ := append_gr ho hg hx.slLen (hx.slRead (Nat.le_refl _)) (by rw [Nat.mul_one, List.take_of_length_le (by rw [strs_len]; omega), strs_len]) (bytes := 16) (by omega)
  refine ⟨v, σ', m', h1, ?_, h3, h4⟩
  rw [Nat.mul_one, List.take_of_length_le (by rw [strs_len]; omega)] at h2
  rw [List.length_append]
  show GrAt σ' v 1 (a.length + b.length) ((a ++ b).map AVal.str) m'
  rw [List.map_append]; exact h2
theorem lay_empty (ho : Ok σ) {n j : Nat} (hj : j < n) : ∃ σ1, σ1 = (σ.bumpT n).lay (Pos.plusT j σ.next) (Blk.named ⟨1, .ex, []⟩ (Pos.plusT j σ.next)) ∧ Keep0 σ σ1 ∧ GrAt σ1 (.sl (Pos.plusT j σ.next) 0 0 0) 1 0 [] (σ.next.nat + j) ∧ σ1.next.nat = σ.next.nat + n := by
  have hp : (Pos.plusT j σ.next).nat = σ.next.nat + j := plusT_nat j _
  have k0 : Keep0 σ (σ.bumpT n) := Keep.bump ho n
  have hn := next_bump (σ := σ) n
  obtain ⟨k1, _, _⟩ := Keep.layD k0 ⟨1, .ex, []⟩ (p := Pos.plusT j σ.next) (ho.free _ (by omega)) (by omega) (by omega)
  refine ⟨_, rfl, k1, ?_, by rw [next_lay]; exact hn⟩
  refine ⟨by simp, rfl, Nat.le_refl 0, ⟨1, .ex, []⟩, by rw [blk_lay, if_pos rfl]; rfl, hp, ?_, rfl, rfl⟩
  show 0 + 0 * 1 ≤ 0; omega
theorem do_c (ht : Tab tab) (ho : Ok σ) {r : Rw} {c : Cl} {v w : AVal} {m mw : Nat} (hr : SsAt σ v r.recs m) (hok : RwOk r) (hw : SsAt σ w c.recs mw) (hi : c.i ≤ 2199023255552) (hk : c.kind = 1 ∨ ((c.kind = 2 ∨ c.kind = 3) ∧ r.first ≤ c.i ∧ c.i ≤ r.first + r.recs.length)) (hl : c.recs.length ≤ 1000000)
    (hQ : ∀ v' m' σ', SsAt σ' v' (doR r c).recs m' → Keep0 σ σ' → σ.next.nat ≤ m' → m' < σ'.next.nat → Q ((doR r c).val v') σ') : WF tab 55 [r.val v, clV c.kind c.i w] σ Q := by
  refine f55_wf ht.t55 ?_
  unfold f55
  obtain ⟨h1, h2, h3⟩ := hok
  refine Ala_of (show aBoxV (r.val v) = some (⟨0, .ex, [.int .i64 (r.first : Int), v]⟩, fun p => .ptr p 0) from rfl) ?_
  obtain ⟨k1, b1, n1⟩ := box_new ho [.int .i64 (r.first : Int), v]
  generalize σ.new ⟨0, .ex, [.int .i64 (r.first : Int), v]⟩ = σ1 at *
  refine Ala_of (show aBoxV (clV c.kind c.i w) = some (⟨0, .ex, [.int .i64 (c.kind : Int), .int .i64 (c.i : Int), w]⟩, fun p => .ptr p 0) from rfl) ?_
  obtain ⟨k2, b2, n2⟩ := box_new k1.ok [.int .i64 (c.kind : Int), .int .i64 (c.i : Int), w]
  generalize σ1.new ⟨0, .ex, [.int .i64 (c.kind : Int), .int .i64 (c.i : Int), w]⟩ = σ2 at *
  refine Ala_of (show aAllocV [AVal.int .i64 0, .nsl] = some (⟨0, .ex, [.int .i64 0, .nsl]⟩, fun p => .ptr p 0) from rfl) ?_
  have k12 := k1.trans k2
  obtain ⟨k3, b3, n3⟩ := box_new k12.ok [AVal.int .i64 0, .nsl]
  generalize σ2.new ⟨0, .ex, [AVal.int .i64 0, .nsl]⟩ = σ3 at *
  have k13 := k12.trans k3
  have b1 := k3.blk (k2.blk b1)
  have b2 := k3.blk b2
  have hr3 := hr.k0 k13
  have hw3 := hw.k0 k13
  have p12 : σ.next ≠ σ1.next := fun e => by have := congrArg Pos.nat e; omega
  have p13 : σ.next ≠ σ2.next := fun e => by have := congrArg Pos.nat e; omega
  have p23 : σ1.next ≠ σ2.next := fun e => by have := congrArg Pos.nat e; omega
  -- what is made is stored and told
  have fin : ∀ (first : Nat) (rs : List (List Nat)) (σ5 : S) (v' : AVal) (m' : Nat), (⟨first, rs⟩ : Rw) = doR r c → Keep0 σ σ5 → GrAt σ5 v' 1 rs.length (strs rs) m' → σ.next.nat + 3 ≤ m' → m' < σ5.next.nat → σ5.blk σ2.next = some ⟨0, .ex, [.int .i64 0, .nsl]⟩ →
      Som (vBuild [(.int .i64 0), .nsl] [(0, 1, .int .i64 (first : Int)), (1, 1, v')]) fun t25 => Eff (storeW 2 (.ptr σ2.next 0) t25 σ5) fun _ σ4 => Ret [vLoadN 2 (.ptr σ2.next 0) σ4] σ4 Q := by
    intro first rs σ5 v' m' he k5 g5 hm1 hm2 b5
    have hv1 : isV1 v' = true := g5.sl.v1
    have hbd : vBuild [AVal.int .i64 0, .nsl] [(0, 1, .int .i64 (first : Int)), (1, 1, v')] = some (.agg [.int .i64 (first : Int), v']) := by
      have := g5.sl
      cases v' <;> first | rfl | exact this.2.elim
    refine Som_of hbd (Eff_of (storeN_of (xs := [.int .i64 (first : Int), v']) b5 rfl (by omega) (by simp)) ?_)
    have k6 : Keep (fun x => x = σ2.next.nat) σ5 (σ5.upd σ2.next ⟨0, .ex, [.int .i64 (first : Int), v']⟩) := Keep.upd k5.ok b5 rfl
    have e6 : ([AVal.int .i64 0, .nsl].take 0 ++ [.int .i64 (first : Int), v'] ++ [AVal.int .i64 0, .nsl].drop (0 + 2)) = [.int .i64 (first : Int), v'] := rfl
    rw [e6]
    have b6 : (σ5.upd σ2.next ⟨0, .ex, [.int .i64 (first : Int), v']⟩).blk σ2.next = some ⟨0, .ex, [.int .i64 (first : Int), v']⟩ := blk_upd_same _ _
    have n6 : (σ5.upd σ2.next ⟨0, .ex, [.int .i64 (first : Int), v']⟩).next = σ5.next := rfl
    generalize σ5.upd σ2.next ⟨0, .ex, [.int .i64 (first : Int), v']⟩ = σ6 at *
    rw [ldN (n := 2) (xs := [.int .i64 (first : Int), v']) b6 (by simp) rfl, Ret_1 rfl]
    have g6 := g5.sl.keep (M := fun x => x = σ2.next.nat) (fun _ e => by omega) k6
    have k06 : Keep0 σ σ6 := k5.then ho k6 fun x hx e => by omega
    have := hQ v' m' σ6 (by rw [← he]; exact g6) k06 (by omega) (by rw [n6]; exact hm2)
    rw [← he] at this
    exact this
  refine Som_of (vField0 _ _ _) (Som_of (ld b2 rfl) (Som_of (bin_eql _ _ _ _) ?_))
  refine WIf_dec (fun hk1 => ?_) (fun hk1 => ?_)
  · have hk1 : c.kind = 1 := by omega
    have key : ∀ (E : En) (σ4 : S) (f : Nat), f = (if r.recs = [] then c.i else r.first) → Keep0 σ σ4 → σ3.next.nat ≤ σ4.next.nat → σ4.blk σ.next = some ⟨0, .ex, [.int .i64 (f : Int), v]⟩ → σ4.blk σ1.next = some ⟨0, .ex, [.int .i64 (c.kind : Int), .int .i64 (c.i : Int), w]⟩ → σ4.blk σ2.next = some ⟨0, .ex, [.int .i64 0, .nsl]⟩ → E 2 = .ptr σ.next 0 → E 3 = .ptr σ1.next 0 → E 4 = .ptr σ2.next 0 → f55.J0 (WF tab) Q E σ4 := by
      intro E σ4 f hf k4 n4 c1 c2 c3 e2 e3 e4
      refine f55.p0_of ?_
      unfold f55.p0
      rw [e2, e3, e4]
      obtain ⟨σ5, hσ5, k5, g5, n5⟩ := lay_empty k4.ok (n := 11) (j := 2) (by omega)
      have kb : Keep0 σ4 (σ4.bumpT 11) := Keep.bump k4.ok 11
      refine Som_of (vField0 _ _ _) (Som_of (ld (kb.blk c1) rfl) (Som_of (vField0 _ _ _) (Som_of (ld (kb.blk c1) rfl) (Som_of (vField0 _ _ _) (Som_of (ld (kb.blk c2) rfl) ?_)))))
      refine Alb_of (show aSliceV 1 [AVal.str []] 0 [] = some (⟨1, .ex, []⟩, fun p => .sl p 0 0 0) from rfl) ?_
      rw [← hσ5]
      have k45 := k4.trans k5
      have hr5 := hr.k0 k45
      obtain ⟨v6, σ6, m6, a6, g6, k6, l6⟩ := append_ss k45.ok (a := []) g5 hr5 (by show 0 + _ ≤ _; omega)
      rw [List.nil_append] at g6
      have n6 := k6.next
      have k56 : Keep0 σ4 σ6 := k5.then k4.ok k6 fun x hx e => by omega
      have k46 := k4.trans k56
      have c1 := k56.blk c1
      have c2 := k56.blk c2
      have c3 := k56.blk c3
      refine Eff_of a6 (Sure_of (SameO_of (ld c1 rfl) (same_int _ _)) (Sure_of (SameO_of (ld c2 rfl) (same_sl _ hw)) ?_))
      have hw6 := hw.k0 k46
      obtain ⟨v7, σ7, m7, a7, g7, k7, l7⟩ := append_ss k46.ok g6 hw6 (by omega)
      have n7 := k7.next
      have hm6 : σ4.next.nat ≤ m6 ∧ m6 < σ6.next.nat := by rcases l6 with e | e <;> omega
      have hm7 : σ4.next.nat ≤ m7 ∧ m7 < σ7.next.nat := by rcases l7 with e | e <;> omega
      have k67 : Keep0 σ4 σ7 := k56.then k4.ok k7 fun x hx e => by omega
      have c1' : σ7.blk σ.next = some ⟨0, .ex, [.int .i64 (f : Int), v]⟩ := k7.old _ _ c1 (fun e => by have e : σ.next.nat = m6 := e; omega)
      have c3' : σ7.blk σ2.next = some ⟨0, .ex, [.int .i64 0, .nsl]⟩ := k7.old _ _ c3 (fun e => by have e : σ2.next.nat = m6 := e; omega)
      refine Eff_of a7 (Sure_of (SameO_of (ld c1' rfl) (same_int _ _)) ?_)
      exact fin f (r.recs ++ c.recs) σ7 v7 m7 (by unfold doR; rw [if_pos hk1, hf]) (k4.trans k67) g7 (by omega) hm7.2 c3'
    refine Som_of (vField0 _ _ _) (Som_of (ld b1 rfl) (Som_of hr3.len (Som_of (bin_eql _ _ _ _) ?_)))
    refine WIf_dec (fun hz => ?_) (fun hz => ?_)
    · have hz : r.recs = [] := List.length_eq_zero_iff.1 (by omega)
      refine Som_of (vField0 _ _ _) (Som_of (ld b2 rfl) (Som_of (vField0 _ _ _) (Eff_of (store1_of b1 (by simp) rfl) ?_)))
      have k4 : Keep (fun x => x = σ.next.nat) σ3 (σ3.upd σ.next ⟨0, .ex, [.int .i64 (c.i : Int), v]⟩) := Keep.upd k13.ok b1 rfl
      have b4 : (σ3.upd σ.next ⟨0, .ex, [.int .i64 (c.i : Int), v]⟩).blk σ.next = some ⟨0, .ex, [.int .i64 (c.i : Int), v]⟩ := blk_upd_same _ _
      have n4 : (σ3.upd σ.next ⟨0, .ex, [.int .i64 (c.i : Int), v]⟩).next = σ3.next := rfl
      refine key _ (σ3.upd σ.next ⟨0, .ex, [.int .i64 (c.i : Int), v]⟩) c.i (by rw [if_pos hz]) (k13.then ho k4 fun x hx e => by omega) (by rw [n4]; exact Nat.le_refl _) b4 ?_ ?_ (by simp) (by simp) (by simp)
      · exact k4.old _ _ b2 fun e => p12 (Pos.nat_inj (Eq.symm e))
      · exact k4.old _ _ b3 fun e => p13 (Pos.nat_inj (Eq.symm e))
    · have hz : r.recs ≠ [] := fun e => hz (by rw [e]; rfl)
      exact key _ σ3 r.first (by rw [if_neg hz]) k13 (Nat.le_refl _) b1 b2 b3 (by simp) (by simp) (by simp)
  · have hk1 : ¬ c.kind = 1 := by omega
    obtain ⟨hk2, hlo, hhi⟩ := hk.resolve_left hk1
    refine Som_of (bin_eql _ _ _ _) ?_
    have kb : Keep0 σ3 (σ3.bumpT 14) := Keep.bump k13.ok 14
    obtain ⟨σ5, hσ5, k5, g5, n5⟩ := lay_empty k13.ok (n := 14) (j := 2) (by omega)
    have k35 := k13.trans k5
    have es : IntKind.i64.wrap ((c.i : Int) - (r.first : Int)) = ((c.i - r.first : Nat) : Int) := by rw [wrap_i64_in (n := (c.i : Int) - (r.first : Int)) (by omega) (by omega)]; omega
    refine WIf_dec (fun hk3 => ?_) (fun hk3 => ?_)
    · have hk3 : c.kind = 2 := by omega
      refine Som_of (vField0 _ _ _) (Som_of (ld (kb.blk b1) rfl) (Som_of (vField0 _ _ _) (Som_of (ld (kb.blk b1) rfl) (Som_of (vField0 _ _ _) (Som_of (ld (kb.blk b2) rfl) (Som_of (vField0 _ _ _) (Som_of (ld (kb.blk b1) rfl) (Som_of (bin_sub _ _ _ _) ?_))))))))
      rw [es]
      obtain ⟨w', w1, w2⟩ := SlAt.cutH hr3 (hi := c.i - r.first) (by omega)
      refine Som_of w1 (Alb_of (show aSliceV 1 [AVal.str []] 0 [] = some (⟨1, .ex, []⟩, fun p => .sl p 0 0 0) from rfl) ?_)
      rw [← hσ5]
      have hx : SsAt σ3 w' (r.recs.take (c.i - r.first)) m := by
        have e1 : (r.recs.take (c.i - r.first)).length = c.i - r.first := by rw [List.length_take]; omega
        show SlAt σ3 w' 1 (r.recs.take (c.i - r.first)).length ((r.recs.take (c.i - r.first)).map AVal.str) m
        rw [e1, List.map_take]
        rw [Nat.mul_one] at w2
        exact w2
      have hx5 := hx.k0 k5
      obtain ⟨v6, σ6, m6, a6, g6, k6, l6⟩ := append_ss k35.ok (a := []) g5 hx5 (by show 0 + _ ≤ _; rw [List.length_take]; omega)
      rw [List.nil_append] at g6
      have n6 := k6.next
      have hm6 : σ3.next.nat ≤ m6 ∧ m6 < σ6.next.nat := by rcases l6 with e | e <;> omega
      have k56 : Keep0 σ3 σ6 := k5.then k13.ok k6 fun x hx e => by omega
      refine Eff_of a6 (Sure_of (SameO_of (ld (k56.blk b1) rfl) (same_int _ _)) ?_)
      exact fin r.first _ σ6 v6 m6 (by unfold doR; rw [if_neg hk1, if_pos hk3]) (k13.trans k56) g6 (by omega) hm6.2 (k56.blk b3)
    · have hk3 : ¬ c.kind = 2 := by omega
      refine Som_of (vField0 _ _ _) (Som_of (ld (kb.blk b2) rfl) (Som_of (vField0 _ _ _) (Som_of (ld (kb.blk b1) rfl) (Som_of (vField0 _ _ _) (Som_of (ld (kb.blk b2) rfl) (Som_of (vField0 _ _ _) (Som_of (ld (kb.blk b1) rfl) (Som_of (bin_sub _ _ _ _) ?_))))))))
      rw [es]
      obtain ⟨w', w1, w2⟩ := SlAt.cutL hr3 (lo := c.i - r.first) (by omega)
      refine Som_of w1 (Alb_of (show aSliceV 1 [AVal.str []] 0 [] = some (⟨1, .ex, []⟩, fun p => .sl p 0 0 0) from rfl) ?_)
      rw [← hσ5]
      have hx : SsAt σ3 w' (r.recs.drop (c.i - r.first)) m := by
        have e1 : (r.recs.drop (c.i - r.first)).length = r.recs.length - (c.i - r.first) := by rw [List.length_drop]
        show SlAt σ3 w' 1 (r.recs.drop (c.i - r.first)).length ((r.recs.drop (c.i - r.first)).map AVal.str) m
        rw [e1, List.map_drop]
        rw [Nat.mul_one, Nat.mul_one, List.take_of_length_le (by rw [List.length_drop, strs_len]; omega)] at w2
        exact w2
      have hx5 := hx.k0 k5
      obtain ⟨v6, σ6, m6, a6, g6, k6, l6⟩ := append_ss k35.ok (a := []) g5 hx5 (by show 0 + _ ≤ _; rw [List.length_drop]; omega)
      rw [List.nil_append] at g6
      have n6 := k6.next
      have hm6 : σ3.next.nat ≤ m6 ∧ m6 < σ6.next.nat := by rcases l6 with e | e <;> omega
      have k56 : Keep0 σ3 σ6 := k5.then k13.ok k6 fun x hx e => by omega
      refine Eff_of a6 (Sure_of (SameO_of (ld (k56.blk b2) rfl) (same_int _ _)) ?_)
      exact fin c.i _ σ6 v6 m6 (by unfold doR; rw [if_neg hk1, if_neg hk3]) (k13.trans k56) g6 (by omega) hm6.2 (k56.blk b3)
end
end Go.Am
namespace Go.Am
section
variable {tab : Nat → Option PFn} {σ : S} {Q : AVal → S → Prop}
theorem wtF_le : ∀ {rs : List (List Nat)}, (∀ x ∈ rs, x.length ≤ 20000) → wtF rs ≤ 20100 * rs.length
  | [], _ => Nat.zero_le _
  | r :: rs, h => by
    have h1 := h r List.mem_cons_self
    have h2 := wtF_le (rs := rs) fun x hx => h x (List.mem_cons_of_mem _ hx)
    rw [List.length_cons]
    show r.length + 100 + wtF rs ≤ _
    omega
theorem wtF_take_succ {rs : List (List Nat)} {i : Nat} (h : i < rs.length) : wtF (rs.take (i + 1)) = wtF (rs.take i) + rs[i].length + 100 := by
  rw [List.take_succ_eq_append_getElem h, wtF_append]
  show _ + (rs[i].length + 100 + 0) = _
  omega
theorem bulk_loop2 (ht : Tab tab) {p : Pos} {kind i0 : Int} {rs : List (List Nat)} {v : AVal} {m a : Nat} (hn : rs.length ≤ 1000000) (hl : ∀ x ∈ rs, x.length ≤ 20000) (ha : a ≤ 100000000000) (n : Nat) : ∀ (E : En) (i : Nat), Ok σ → i + n = rs.length →
    σ.blk p = some ⟨0, .ex, [.int .i64 kind, .int .i64 i0, v]⟩ → SsAt σ v rs m → E 3 = .ptr p 0 → E 7 = .int .i64 (i : Int) → E 5 = .int .i64 ((a + wtF (rs.take i) : Nat) : Int) →
    Q (.int .i64 ((4 * (a + wtF rs) + 8192 : Nat) : Int)) σ → f56.L2 (WF tab) Q E σ := by
  have hw := wtF_le hl
  induction n with
  | zero =>
    intro E i ho hi hb hv e3 e7 e5 hQ
    refine f56.p2_of ?_
    unfold f56.p2
    rw [e3, e7, e5]
    refine Som_of (vField0 _ _ _) (Som_of (ld hb rfl) (Som_of hv.len (Som_of (bin_lss _ _ _ _) (WIf_f (by omega) ?_))))
    rw [List.take_of_length_le (by omega)]
    refine Som_of (bin_mul _ _ _ _) (Som_of (bin_add _ _ _ _) ?_)
    rw [wrap_i64_in (n := 4 * ((a + wtF rs : Nat) : Int)) (by omega) (by omega), wrap_i64_in (n := 4 * ((a + wtF rs : Nat) : Int) + 8192) (by omega) (by omega), Ret_1 rfl]
    have e : 4 * ((a + wtF rs : Nat) : Int) + 8192 = ((4 * (a + wtF rs) + 8192 : Nat) : Int) := by omega
    rw [e]; exact hQ
  | succ n ih =>
    intro E i ho hi hb hv e3 e7 e5 hQ
    refine f56.p2_of ?_
    unfold f56.p2
    rw [e3, e7, e5]
    have hir : i < rs.length := by omega
    have hwi := wtF_take rs i
    have hx := hl rs[i] (List.getElem_mem _)
    obtain ⟨ad, a1, a2⟩ := hv.strAt (k := i) (List.getElem?_eq_getElem hir)
    refine Som_of (vField0 _ _ _) (Som_of (ld hb rfl) (Som_of hv.len (Som_of (bin_lss _ _ _ _) (WIf_t (by omega) ?_))))
    refine Som_of (vField0 _ _ _) (Som_of (ld hb rfl) (Som_of a1 (Som_of a2 (Som_of (vLenStr_str _) (Som_of (bin_add _ _ _ _) (Som_of (bin_add _ _ _ _) (Som_of (bin_add _ _ _ _) ?_)))))))
    rw [wrap_i64_in (n := ((a + wtF (rs.take i) : Nat) : Int) + (rs[i].length : Int)) (by omega) (by omega), wrap_i64_in (n := ((a + wtF (rs.take i) : Nat) : Int) + (rs[i].length : Int) + 100) (by omega) (by omega), wrap_i64_in (n := (i : Int) + 1) (by omega) (by omega)]
    refine ih _ (i + 1) ho (by omega) hb hv (by simp [e3]) (by simp) ?_ hQ
    rw [wtF_take_succ hir]
    have e : ((a + wtF (rs.take i) : Nat) : Int) + (rs[i].length : Int) + 100 = ((a + (wtF (rs.take i) + rs[i].length + 100) : Nat) : Int) := by omega
    rw [← e]; simp
theorem bulk_c (ht : Tab tab) (ho : Ok σ) {r : Rw} {v w : AVal} {m mw : Nat} {kind i : Int} {rs : List (List Nat)} (hr : SsAt σ v r.recs m) (hok : RwOk r) (hw : SsAt σ w rs mw) (hrs : rs.length ≤ 1000000 ∧ ∀ x ∈ rs, x.length ≤ 20000)
    (hQ : ∀ σ', Keep0 σ σ' → Q (.int .i64 ((4 * (wtF r.recs + wtF rs) + 8192 : Nat) : Int)) σ') : WF tab 56 [r.val v, clV kind i w] σ Q := by
  refine f56_wf ht.t56 ?_
  unfold f56
  obtain ⟨h1, h2, h3⟩ := hok
  refine Ala_of (show aBoxV (r.val v) = some (⟨0, .ex, [.int .i64 (r.first : Int), v]⟩, fun p => .ptr p 0) from rfl) ?_
  obtain ⟨k1, b1, n1⟩ := box_new ho [.int .i64 (r.first : Int), v]
  generalize σ.new ⟨0, .ex, [.int .i64 (r.first : Int), v]⟩ = σ1 at *
  refine Ala_of (show aBoxV (clV kind i w) = some (⟨0, .ex, [.int .i64 kind, .int .i64 i, w]⟩, fun p => .ptr p 0) from rfl) ?_
  obtain ⟨k2, b2, n2⟩ := box_new k1.ok [.int .i64 kind, .int .i64 i, w]
  generalize σ1.new ⟨0, .ex, [.int .i64 kind, .int .i64 i, w]⟩ = σ2 at *
  have k12 := k1.trans k2
  have b1 := k2.blk b1
  have hr2 := hr.k0 k12
  have hw2 := hw.k0 k12
  have hl3 : ∀ x ∈ r.recs, x.length ≤ 20000 := fun x hx => (h3 x hx).2
  have hwr := wtF_le hl3
  have key : ∀ (n : Nat) (E : En) (i : Nat), i + n = r.recs.length → E 2 = .ptr σ.next 0 → E 3 = .ptr σ1.next 0 → E 6 = .int .i64 (i : Int) → E 5 = .int .i64 ((wtF (r.recs.take i) : Nat) : Int) → f56.L0 (WF tab) Q E σ2 := by
    intro n
    induction n with
    | zero =>
      intro E i hi e2 e3 e6 e5
      refine f56.p0_of ?_
      unfold f56.p0
      rw [e2, e6, e5]
      refine Som_of (vField0 _ _ _) (Som_of (ld b1 rfl) (Som_of hr2.len (Som_of (bin_lss _ _ _ _) (WIf_f (by omega) ?_))))
      refine f56.p1_of ?_
      unfold f56.p1
      refine bulk_loop2 ht (p := σ1.next) (a := wtF r.recs) hrs.1 hrs.2 (by omega) rs.length _ 0 k12.ok (by omega) b2 hw2 (by simp [e3]) (by simp) ?_ (hQ σ2 k12)
      rw [List.take_of_length_le (by omega)] at e5
      simp [e5, wtF]
    | succ n ih =>
      intro E i hi e2 e3 e6 e5
      refine f56.p0_of ?_
      unfold f56.p0
      rw [e2, e6, e5]
      have hir : i < r.recs.length := by omega
      have hwi := wtF_take r.recs i
      have hx := hl3 r.recs[i] (List.getElem_mem _)
      obtain ⟨ad, a1, a2⟩ := hr2.strAt (k := i) (List.getElem?_eq_getElem hir)
      refine Som_of (vField0 _ _ _) (Som_of (ld b1 rfl) (Som_of hr2.len (Som_of (bin_lss _ _ _ _) (WIf_t (by omega) ?_))))
      refine Som_of (vField0 _ _ _) (Som_of (ld b1 rfl) (Som_of a1 (Som_of a2 (Som_of (vLenStr_str _) (Som_of (bin_add _ _ _ _) (Som_of (bin_add _ _ _ _) (Som_of (bin_add _ _ _ _) ?_)))))))
      rw [wrap_i64_in (n := ((wtF (r.recs.take i) : Nat) : Int) + (r.recs[i].length : Int)) (by omega) (by omega), wrap_i64_in (n := ((wtF (r.recs.take i) : Nat) : Int) + (r.recs[i].length : Int) + 100) (by omega) (by omega), wrap_i64_in (n := (i : Int) + 1) (by omega) (by omega)]
      refine ih _ (i + 1) (by omega) (by simp [e2]) (by simp [e3]) (by simp) ?_
      rw [wtF_take_succ hir]
      have e : ((wtF (r.recs.take i) : Nat) : Int) + (r.recs[i].length : Int) + 100 = ((wtF (r.recs.take i) + r.recs[i].length + 100 : Nat) : Int) := by omega
      rw [← e]; simp
  exact key r.recs.length _ 0 (by omega) (by simp) (by simp) (by simp) (by simp [wtF])
def okCs : Rw → List Cl → Prop
  | r, [] => RwOk r
  | r, c :: l => RwOk r ∧ r.recs.length ≤ 10000 ∧ (c.kind = 1 ∨ ((c.kind = 2 ∨ c.kind = 3) ∧ r.first ≤ c.i ∧ c.i ≤ r.first + r.recs.length)) ∧ c.i ≤ 2199023255552 ∧ c.recs.length ≤ 1000 ∧ okCs (doR r c) l
theorem okCs.ok {r : Rw} {l : List Cl} (h : okCs r l) : RwOk r := by
  cases l with
  | nil => exact h
  | cons c l => exact h.1
def CsAt (σ : S) (v : AVal) (cs : List Cl) (mc : Nat) : Prop := ∃ cells, SlAt σ v 3 cs.length cells mc ∧ ∀ (k : Nat) (c : Cl), cs[k]? = some c → ∃ w mw, (cells.drop (k * 3)).take 3 = [.int .i64 (c.kind : Int), .int .i64 (c.i : Int), w] ∧ SsAt σ w c.recs mw
theorem CsAt.k0 {v : AVal} {cs : List Cl} {mc : Nat} {σ' : S} (h : CsAt σ v cs mc) (k : Keep0 σ σ') : CsAt σ' v cs mc := by
  obtain ⟨cells, h1, h2⟩ := h
  exact ⟨cells, h1.k0 k, fun j c hj => let ⟨w, mw, a, b⟩ := h2 j c hj; ⟨w, mw, a, b.k0 k⟩⟩
theorem cells3_at {v : AVal} {n m : Nat} {cells xs : List AVal} {k : Nat} (h : SlAt σ v 3 n cells m) (hk : k < n) (hx : (cells.drop (k * 3)).take 3 = xs) : ∃ ad, vIxSl 3 v (.int .i64 (k : Int)) = some ad ∧ vLoadN 3 ad σ = some (.agg xs) := by
  obtain ⟨b, o, blk, h1, h2, _, h4⟩ := SlAt.at h hk (by omega)
  refine ⟨_, h1, ?_⟩
  have hlen : cells.length = n * 3 := h.1
  have hcl : o + k * 3 + 3 ≤ blk.cells.length := by
    have h5 := h4 2 (by omega)
    have : k * 3 + 2 < cells.length := by omega
    rw [List.getElem?_eq_getElem this] at h5
    have := (List.getElem?_eq_some_iff.1 h5).1
    omega
  obtain ⟨e, kd, cs⟩ := blk
  refine ldN h2 hcl ?_
  rw [← hx]
  apply List.ext_getElem?
  intro j
  by_cases hj : j < 3
  · rw [List.getElem?_take_of_lt hj, List.getElem?_take_of_lt hj, List.getElem?_drop, List.getElem?_drop]
    exact h4 j hj
  · rw [List.getElem?_eq_none (by rw [List.length_take]; omega), List.getElem?_eq_none (by rw [List.length_take]; omega)]
theorem doR_len (r : Rw) (c : Cl) : (doR r c).recs.length ≤ r.recs.length + c.recs.length := by
  unfold doR
  split
  · show (r.recs ++ c.recs).length ≤ _; rw [List.length_append]; omega
  · split
    · show (r.recs.take _).length ≤ _; rw [List.length_take]; omega
    · show (r.recs.drop _).length ≤ _; rw [List.length_drop]; omega
end
end Go.Am
namespace Go.Am
section
variable {tab : Nat → Option PFn} {σ : S} {Q : AVal → S → Prop}
def RbAt (σ : S) (p : Pos) (r : Rw) (v : AVal) (m : Nat) : Prop := σ.blk p = some ⟨0, .ex, [.int .i64 (r.first : Int), v]⟩ ∧ SsAt σ v r.recs m
theorem RbAt.k0 {p : Pos} {r : Rw} {v : AVal} {m : Nat} {σ' : S} (h : RbAt σ p r v m) (k : Keep0 σ σ') : RbAt σ' p r v m := ⟨k.blk h.1, h.2.k0 k⟩
theorem RbAt.ld {p : Pos} {r : Rw} {v : AVal} {m : Nat} (h : RbAt σ p r v m) : vLoadN 2 (.ptr p 0) σ = some (r.val v) := ldN (n := 2) h.1 (by simp) rfl
theorem same_pair {a v : AVal} (h1 : same1 a a = true) (h2 : same1 v v = true) : same (.agg [a, v]) (.agg [a, v]) = true := by
  show (match same1 a a with | true => (match same1 v v with | true => true | false => false) | false => false) = true
  rw [h1, h2]
theorem same1_sl (v : AVal) {esz n m : Nat} {cs : List AVal} (h : SlAt σ v esz n cs m) : same1 v v = true := by
  have h2 := same_sl v h
  cases v <;> first | exact h2 | exact h.2.elim
theorem RbAt.sm {p : Pos} {r : Rw} {v : AVal} {m : Nat} (h : RbAt σ p r v m) : SameO (vLoadN 2 (.ptr p 0) σ) (r.val v) = true :=
  SameO_of h.ld (same_pair (same_int .i64 (r.first : Int)) (same1_sl v h.2))
theorem RbAt.set {p : Pos} {r r' : Rw} {v v' : AVal} {m m' : Nat} (ho : Ok σ) (h : RbAt σ p r v m) (hv : SsAt σ v' r'.recs m') (hm : r'.recs ≠ [] → m' ≠ p.nat) : ∃ σ', storeW 2 (.ptr p 0) (r'.val v') σ = some (.undef, σ') ∧ RbAt σ' p r' v' m' ∧ Keep (fun x => x = p.nat) σ σ' ∧ σ'.next = σ.next := by
  have k : Keep (fun x => x = p.nat) σ (σ.upd p ⟨0, .ex, [.int .i64 (r'.first : Int), v']⟩) := Keep.upd ho h.1 rfl
  refine ⟨_, storeN_of (xs := [.int .i64 (r'.first : Int), v']) h.1 rfl (by omega) (by simp), ⟨blk_upd_same _ _, hv.keep (M := fun x => x = p.nat) (fun hz e => hm (fun h0 => by rw [h0] at hz; exact hz rfl) e) k⟩, k, rfl⟩
theorem SlAt.str_lt {v : AVal} {rs : List (List Nat)} {m : Nat} (h : SsAt σ v rs m) (ho : Ok σ) (hz : rs ≠ []) : m < σ.next.nat :=
  SlAt.own_lt h ho (by rw [Nat.mul_one]; exact fun e => hz (List.eq_nil_of_length_eq_zero e))
theorem doR_part (r : Rw) (c : Cl) (k : Nat) (hl : r.recs.length ≤ 10000) (hc : c.recs.length ≤ 1000) : (doR r ⟨1, c.i, c.recs.take k⟩).recs.length ≤ 1000000 := by
  have h1 : (doR r ⟨1, c.i, c.recs.take k⟩).recs.length ≤ r.recs.length + (c.recs.take k).length := doR_len _ _
  rw [List.length_take] at h1
  omega
theorem may_loop (ht : Tab tab) {σ0 : S} (ho0 : Ok σ0) {x : Rw} {cs : List Cl} {w cv : AVal} {mw mc : Nat} {p5 p7 : Pos} (hx : SsAt σ0 w x.recs mw) (hc : CsAt σ0 cv cs mc) (hn : cs.length ≤ 1000000) (h57 : p5 ≠ p7) (h7 : σ0.next.nat ≤ p7.nat)
    (hQ : ∀ σ', Keep0 σ0 σ' → Q (.bool true) σ') (n : Nat) : ∀ (E : En) (σ : S) (i : Nat) (now : Rw) (nv : AVal) (nm : Nat), Keep0 σ0 σ → i + n = cs.length → σ.blk p5 = some ⟨0, .ex, [.int .i64 (x.first : Int), w]⟩ → RbAt σ p7 now nv nm → (now.recs ≠ [] → nm ≠ p7.nat) →
    mayR now (cs.drop i) x → now ≠ x → okCs now (cs.drop i) → E 1 = cv → E 5 = .ptr p5 0 → E 7 = .ptr p7 0 → E 8 = .int .i64 (i : Int) → f57.L0 (WF tab) Q E σ := by
  have hst : ∀ {σ σ' : S}, Keep0 σ0 σ → Keep (fun y => y = p7.nat) σ σ' → Keep0 σ0 σ' := fun k k' => k.then ho0 k' fun y hy e => by omega
  induction n with
  | zero =>
    intro E σ i now nv nm k hi _ _ _ hm hne _ _ _ _ _
    rw [List.drop_eq_nil_of_le (by omega)] at hm
    exact absurd hm.symm hne
  | succ n ih =>
    intro E σ i now nv nm k hi b5 r7 hnm hm hne hok e1 e5 e7 e8
    have hil : i < cs.length := by omega
    obtain ⟨c, hci⟩ : ∃ c, cs[i]? = some c := ⟨_, List.getElem?_eq_getElem hil⟩
    have hcd : cs.drop i = c :: cs.drop (i + 1) := by
      rw [List.drop_eq_getElem_cons hil]
      rw [List.getElem?_eq_getElem hil] at hci
      cases hci; rfl
    rw [hcd] at hm hok
    obtain ⟨o1, o2, o3, o4, o5, o6⟩ := hok
    have hm : (c.kind = 1 ∧ ∃ k, k < c.recs.length ∧ x = doR now ⟨1, c.i, c.recs.take k⟩) ∨ mayR (doR now c) (cs.drop (i + 1)) x := hm.resolve_left fun e => hne e.symm
    refine f57.p0_of ?_
    unfold f57.p0
    rw [e1, e8]
    obtain ⟨cells, c1, c2⟩ := hc.k0 k
    obtain ⟨cw, cm, c3, c4⟩ := c2 i c hci
    obtain ⟨ad, a1, a2⟩ := cells3_at c1 hil c3
    refine Som_of c1.len (Som_of (bin_lss _ _ _ _) (WIf_t (by omega) (Som_of a1 (Som_of a2 ?_))))
    refine Ala_of (show aAllocV [AVal.int .i64 0, .int .i64 0, .nsl] = some (⟨0, .ex, [.int .i64 0, .int .i64 0, .nsl]⟩, fun p => .ptr p 0) from rfl) ?_
    obtain ⟨k1, b9, n1⟩ := box_new k.ok [AVal.int .i64 0, .int .i64 0, .nsl]
    have h9 : σ0.next.nat ≤ σ.next.nat := k.next
    have h97 : σ.next ≠ p7 := fun e => by have := k.ok.lt r7.1; rw [e] at this; omega
    have h95 : σ.next ≠ p5 := fun e => by have := k.ok.lt b5; rw [e] at this; omega
    generalize hp9 : σ.next = p9 at *
    generalize σ.new ⟨0, .ex, [AVal.int .i64 0, .int .i64 0, .nsl]⟩ = σ1 at *
    refine Eff_of (storeN_of (xs := [.int .i64 (c.kind : Int), .int .i64 (c.i : Int), cw]) b9 rfl (by omega) (by simp)) ?_
    have e3 : ([AVal.int .i64 0, .int .i64 0, .nsl].take 0 ++ [.int .i64 (c.kind : Int), .int .i64 (c.i : Int), cw] ++ [AVal.int .i64 0, .int .i64 0, .nsl].drop (0 + 3)) = [.int .i64 (c.kind : Int), .int .i64 (c.i : Int), cw] := rfl
    rw [e3]
    have k2 : Keep (fun y => y = p9.nat) σ1 (σ1.upd p9 ⟨0, .ex, [.int .i64 (c.kind : Int), .int .i64 (c.i : Int), cw]⟩) := Keep.upd k1.ok b9 rfl
    have b9 : (σ1.upd p9 ⟨0, .ex, [.int .i64 (c.kind : Int), .int .i64 (c.i : Int), cw]⟩).blk p9 = some ⟨0, .ex, [.int .i64 (c.kind : Int), .int .i64 (c.i : Int), cw]⟩ := blk_upd_same _ _
    generalize σ1.upd p9 ⟨0, .ex, [.int .i64 (c.kind : Int), .int .i64 (c.i : Int), cw]⟩ = σ2 at *
    have k02 : Keep0 σ σ2 := k1.then k.ok k2 fun y hy e => by rw [← hp9] at e; omega
    have kk2 := k.trans k02
    have b5 := k02.blk b5
    have r7 := r7.k0 k02
    -- the call done
    have j2 : ∀ (E' : En) (σ' : S), Keep0 σ2 σ' → mayR (doR now c) (cs.drop (i + 1)) x → E' 1 = cv → E' 5 = .ptr p5 0 → E' 7 = .ptr p7 0 → E' 8 = .int .i64 (i : Int) → E' 9 = .ptr p9 0 → f57.J2 (WF tab) Q E' σ' := by
      intro E' σ' k' hm' e1 e5 e7 e8 e9
      refine f57.p2_of ?_
      unfold f57.p2
      rw [e5, e7, e8, e9]
      have kk' := kk2.trans k'
      have r7 := r7.k0 k'
      refine Som_of r7.ld (Som_of (ldN (n := 3) (xs := [.int .i64 (c.kind : Int), .int .i64 (c.i : Int), cw]) (k'.blk b9) (by simp) rfl) ?_)
      refine do_c ht kk'.ok r7.2 o1 (c4.k0 (k02.trans k')) o4 o3 (by omega) fun v' m' σ3 hv' k3 hm1 hm2 => ?_
      have r7 := r7.k0 k3
      have kk3 := kk'.trans k3
      have hp7 : p7.nat < σ'.next.nat := by
        have := kk'.ok.lt (RbAt.k0 (σ := σ2) (by assumption) k').1
        exact this
      obtain ⟨σ4, s1, r4, k4, _⟩ := r7.set (r' := doR now c) kk3.ok hv' fun _ => by omega
      refine Eff_of s1 ?_
      have b5' : σ4.blk p5 = some ⟨0, .ex, [.int .i64 (x.first : Int), w]⟩ := k4.old _ _ (k3.blk (k'.blk b5)) fun e => h57 (Pos.nat_inj e)
      have kk4 := hst kk3 k4
      refine Som_of r4.ld (Som_of (ldN (n := 2) (xs := [.int .i64 (x.first : Int), w]) b5' (by simp) rfl) ?_)
      have o7 := o6.ok
      refine same_c ht kk4.ok r4.2 (hx.k0 kk4) (by have := o7.2.1; omega) fun σ5 k5 => ?_
      by_cases he : doR now c = x
      · rw [decide_eq_true he, WIf_true, Ret_1 rfl]
        exact hQ _ (kk4.trans k5)
      · rw [decide_eq_false he, WIf_false]
        refine Som_of (bin_add _ _ _ _) ?_
        rw [wrap_i64_in (n := (i : Int) + 1) (by omega) (by omega)]
        exact ih _ σ5 (i + 1) (doR now c) v' m' (kk4.trans k5) (by omega) (k5.blk b5') (r4.k0 k5) (fun _ => by omega) hm' he o6 (by simp [e1]) (by simp [e5]) (by simp [e7]) (by simp)
    refine Som_of (vField0 _ _ _) (Som_of (ld b9 rfl) (Som_of (bin_eql _ _ _ _) ?_))
    refine WIf_dec (fun hk1 => ?_) (fun hk1 => ?_)
    · -- beginnings of what is appended
      have l1 : ∀ (q : Nat) (E' : En) (σ' : S) (k0 : Nat), Keep0 σ2 σ' → k0 + q = c.recs.length → ((∃ k, k0 ≤ k ∧ k < c.recs.length ∧ x = doR now ⟨1, c.i, c.recs.take k⟩) ∨ mayR (doR now c) (cs.drop (i + 1)) x) → E' 1 = cv → E' 5 = .ptr p5 0 → E' 7 = .ptr p7 0 → E' 8 = .int .i64 (i : Int) → E' 9 = .ptr p9 0 → E' 10 = .int .i64 (k0 : Int) → f57.L1 (WF tab) Q E' σ' := by
        intro q
        induction q with
        | zero =>
          intro E' σ' k0 k' hq hm' e1 e5 e7 e8 e9 e10
          refine f57.p1_of ?_
          unfold f57.p1
          rw [e9, e10]
          refine Som_of (vField0 _ _ _) (Som_of (ld (k'.blk b9) rfl) (Som_of (c4.k0 (k02.trans k')).len (Som_of (bin_lss _ _ _ _) (WIf_f (by omega) ?_))))
          refine j2 _ σ' k' (hm'.resolve_left fun ⟨k, h1, h2, _⟩ => by omega) (by simp [e1]) (by simp [e5]) (by simp [e7]) (by simp [e8]) (by simp [e9])
        | succ q ihq =>
          intro E' σ' k0 k' hq hm' e1 e5 e7 e8 e9 e10
          refine f57.p1_of ?_
          unfold f57.p1
          rw [e5, e7, e9, e10]
          have kb : Keep0 σ' (σ'.bumpT 11) := Keep.bump k'.ok 11
          have kk' : Keep0 σ2 (σ'.bumpT 11) := k'.trans kb
          have c5 := c4.k0 (k02.trans kk')
          refine Som_of (vField0 _ _ _) (Som_of (ld (k'.blk b9) rfl) (Som_of (c4.k0 (k02.trans k')).len (Som_of (bin_lss _ _ _ _) (WIf_t (by omega) ?_))))
          have r7' := r7.k0 kk'
          obtain ⟨w', w1, w2⟩ := SlAt.cutH c5 (hi := k0) (by omega)
          have hb5 := kk'.blk b5
          refine Som_of r7'.ld (Som_of (vField0 _ _ _) (Som_of (ld (kk'.blk b9) rfl) (Som_of (vField0 _ _ _) (Som_of (ld (kk'.blk b9) rfl) (Som_of w1 ?_)))))
          have hxs : SsAt (σ'.bumpT 11) w' (c.recs.take k0) cm := by
            have e1 : (c.recs.take k0).length = k0 := by rw [List.length_take]; omega
            show SlAt _ w' 1 (c.recs.take k0).length ((c.recs.take k0).map AVal.str) cm
            rw [e1, List.map_take]
            rw [Nat.mul_one] at w2
            exact w2
          have hbd : vBuild [AVal.int .i64 0, .int .i64 0, .nsl] [(0, 1, .int .i64 1), (1, 1, .int .i64 (c.i : Int)), (2, 1, w')] = some (clV ((1 : Nat) : Int) (c.i : Int) w') := by
            cases w' <;> first | rfl | exact hxs.2.elim
          refine Som_of hbd (Som_of (ldN (n := 2) (xs := [.int .i64 (x.first : Int), w]) hb5 (by simp) rfl) ?_)
          have kkk := kk2.trans kk'
          refine do_c ht (c := ⟨1, c.i, c.recs.take k0⟩) kkk.ok r7'.2 o1 hxs o4 (.inl rfl) (by show (c.recs.take k0).length ≤ _; rw [List.length_take]; omega) fun v' m' σ3 hv' k3 hm1 hm2 => ?_
          have b53 := k3.blk hb5
          have kk3 := kkk.trans k3
          refine Sure_of (RbAt.sm (r := x) ⟨b53, hx.k0 kk3⟩) ?_
          refine same_c ht kk3.ok hv' (hx.k0 kk3) (doR_part now c k0 o2 o5) fun σ5 k5 => ?_
          by_cases he : doR now ⟨1, c.i, c.recs.take k0⟩ = x
          · rw [decide_eq_true he, WIf_true, Ret_1 rfl]
            exact hQ _ (kk3.trans k5)
          · rw [decide_eq_false he, WIf_false]
            refine Som_of (bin_add _ _ _ _) ?_
            rw [wrap_i64_in (n := (k0 : Int) + 1) (by omega) (by omega)]
            refine ihq _ σ5 (k0 + 1) ((kk'.trans k3).trans k5) (by omega) ?_ (by simp [e1]) (by simp [e5]) (by simp [e7]) (by simp [e8]) (by simp [e9]) (by simp)
            refine hm'.imp (fun ⟨k, h1, h2, h3⟩ => ⟨k, ?_, h2, h3⟩) id
            by_cases hkk : k = k0
            · subst hkk; exact absurd h3.symm he
            · omega
      refine l1 c.recs.length _ σ2 0 (Keep.refl kk2.ok) (by omega) (hm.imp (fun ⟨_, k, h1, h2⟩ => ⟨k, Nat.zero_le _, h1, h2⟩) id) (by simp [e1]) (by simp [e5]) (by simp [e7]) (by simp [e8]) (by simp) (by simp)
    · exact j2 _ σ2 (Keep.refl kk2.ok) (hm.resolve_left fun h => hk1 (by have := h.1; omega)) (by simp [e1]) (by simp [e5]) (by simp [e7]) (by simp [e8]) (by simp)
theorem may_c (ht : Tab tab) (ho : Ok σ) {safe x : Rw} {cs : List Cl} {v w cv : AVal} {m mw mc : Nat} (hs : SsAt σ v safe.recs m) (hx : SsAt σ w x.recs mw) (hc : CsAt σ cv cs mc) (hok : okCs safe cs) (hn : cs.length ≤ 1000000) (h : mayR safe cs x)
    (hQ : ∀ σ', Keep0 σ σ' → Q (.bool true) σ') : WF tab 57 [safe.val v, cv, x.val w] σ Q := by
  refine f57_wf ht.t57 ?_
  unfold f57
  refine Ala_of (show aBoxV (safe.val v) = some (⟨0, .ex, [.int .i64 (safe.first : Int), v]⟩, fun p => .ptr p 0) from rfl) ?_
  obtain ⟨k1, b1, n1⟩ := box_new ho [.int .i64 (safe.first : Int), v]
  generalize σ.new ⟨0, .ex, [.int .i64 (safe.first : Int), v]⟩ = σ1 at *
  refine Ala_of (show aBoxV (x.val w) = some (⟨0, .ex, [.int .i64 (x.first : Int), w]⟩, fun p => .ptr p 0) from rfl) ?_
  obtain ⟨k2, b2, n2⟩ := box_new k1.ok [.int .i64 (x.first : Int), w]
  generalize σ1.new ⟨0, .ex, [.int .i64 (x.first : Int), w]⟩ = σ2 at *
  have k12 := k1.trans k2
  have b1 := k2.blk b1
  refine Som_of (ldN (n := 2) (xs := [.int .i64 (safe.first : Int), v]) b1 (by simp) rfl) ?_
  refine Ala_of (show aAllocV [AVal.int .i64 0, .nsl] = some (⟨0, .ex, [.int .i64 0, .nsl]⟩, fun p => .ptr p 0) from rfl) ?_
  obtain ⟨k3, b3, n3⟩ := box_new k12.ok [AVal.int .i64 0, .nsl]
  generalize σ2.new ⟨0, .ex, [AVal.int .i64 0, .nsl]⟩ = σ3 at *
  have k13 := k12.trans k3
  have b2 := k3.blk b2
  have r3 : RbAt σ3 σ2.next ⟨0, []⟩ .nsl 0 := ⟨b3, SlAt.nil σ3 1 0⟩
  have hs3 := hs.k0 k13
  have hmlt : safe.recs ≠ [] → m ≠ σ2.next.nat := fun hz => by
    have := hs.str_lt ho hz
    omega
  obtain ⟨σ4, e4, r4, k4, n4⟩ := r3.set (r' := safe) k13.ok hs3 hmlt
  refine Eff_of e4 ?_
  have h5 : σ1.next ≠ σ2.next := fun e => by have := congrArg Pos.nat e; omega
  have b2 : σ4.blk σ1.next = some ⟨0, .ex, [.int .i64 (x.first : Int), w]⟩ := k4.old _ _ b2 fun e => h5 (Pos.nat_inj e)
  have k14 : Keep0 σ σ4 := k13.then ho k4 fun y hy e => by omega
  refine Som_of r4.ld (Som_of (ldN (n := 2) (xs := [.int .i64 (x.first : Int), w]) b2 (by simp) rfl) ?_)
  refine same_c ht k14.ok r4.2 (hx.k0 k14) (by have := hok.ok.2.1; omega) fun σ5 k5 => ?_
  by_cases he : safe = x
  · rw [decide_eq_true he, WIf_true, Ret_1 rfl]
    exact hQ _ (k14.trans k5)
  · rw [decide_eq_false he, WIf_false]
    exact may_loop ht ho (p5 := σ1.next) (p7 := σ2.next) hx hc hn h5 (by omega) hQ cs.length _ σ5 0 safe v m (k14.trans k5) (by omega) (k5.blk b2) (r4.k0 k5) hmlt (by simpa using h) he (by simpa using hok) (by simp) (by simp) (by simp) (by simp)
end
end Go.Am
namespace Go.Am
section
variable {tab : Nat → Option PFn} {σ : S} {Q : AVal → S → Prop} {G M : Nat → Prop} {l d pf ps : Pos} {L : Lg} {D : Dk} {rv wv : AVal} {mr mw : Nat} {fv sv wc : List AVal}
def Dk.arm (D : Dk) (n : Nat) : Dk := if D.off then D else { D with armed := n }
theorem arm_d (ht : Tab tab) (ho : Ok σ) (h : DkAt σ G d D pf ps fv sv wv wc mw) {n : Nat} (hQ : ∀ v σ', DkAt σ' G d (D.arm n) pf ps fv sv wv wc mw → Keep (fun x => x = d.nat) σ σ' → Q v σ') : WF tab 25 [.ptr d 0, .int .i64 (n : Int)] σ Q := by
  refine f25_wf ht.t25 ?_
  unfold f25
  refine Som_of rfl (Som_of (vField0 _ _ _) (Som_of (ld h.blk rfl) (Som_of (un_not _) ?_)))
  cases hoff : D.off with
  | true =>
    rw [show (!true) = false from rfl, WIf_false, Ret_none]
    have e : D.arm n = D := by unfold Dk.arm; rw [if_pos hoff]
    rw [e] at hQ
    exact hQ _ σ h (Keep.refl ho)
  | false =>
    rw [show (!false) = true from rfl, WIf_true]
    have e : D.arm n = { D with armed := n, off := false } := by unfold Dk.arm; rw [hoff]; simp
    refine Som_of (v := .int .i64 (n : Int)) (by have := max2 n 0; rw [Nat.max_eq_left (Nat.zero_le n)] at this; exact this) (Som_of rfl (Som_of (vField0 _ _ _) ?_))
    obtain ⟨h2, k2⟩ := h.setB ho n false wv D.wait wc (fun σ' k => h.wg.keep (fun e => h.n4 e) k) h.ww
    have hb := h.blk
    rw [hoff] at hb
    refine Eff_of (store1_of hb (by simp) rfl) ?_
    rw [Ret_none]
    rw [e] at hQ
    exact hQ _ _ h2 k2
theorem row_loop (ht : Tab tab) {σ0 : S} (ho0 : Ok σ0) (h0 : LgAt σ0 G l d L rv mr) {p2 p4 : Pos} (hok : LgOk L) (hlo : 1 ≤ L.first) (hn : L.recs.length ≤ 2000) (h24 : p2 ≠ p4) (h2 : σ0.next.nat ≤ p2.nat) (h4 : σ0.next.nat ≤ p4.nat)
    (hQ : ∀ v m σ', SsAt σ' v L.recs m → Keep0 σ0 σ' → σ0.next.nat ≤ m → (L.recs ≠ [] → m < σ'.next.nat) → Q (.tup [L.row.val v, .bool true]) σ') (n : Nat) : ∀ (E : En) (σ : S) (i : Nat) (nv : AVal) (nm : Nat), Keep0 σ0 σ → i + n = L.recs.length →
    σ.blk p2 = some ⟨0, .ex, [.int .i64 0, .nsl]⟩ → σ.blk p4 = some ⟨0, .ex, [.int .i64 (L.first : Int), nv]⟩ → GrAt σ nv 1 (L.recs.take i).length (strs (L.recs.take i)) nm → σ0.next.nat ≤ nm → nm ≠ p2.nat → nm ≠ p4.nat →
    E 0 = .ptr l 0 → E 2 = .ptr p2 0 → E 4 = .ptr p4 0 → E 5 = .int .i64 ((L.first + i : Nat) : Int) → f27.L0 (WF tab) Q E σ := by
  have hf := hok.first
  induction n with
  | zero =>
    intro E σ i nv nm k hi b2 b4 g n0 n2 n4 e0 e2 e4 e5
    have h := h0.keep0 k
    refine f27.p0_of ?_
    unfold f27.p0
    rw [e0, e5]
    refine last_c ht k.ok h hok fun σ1 k1 => ?_
    have hnx : (L.next : Int) = (L.first : Int) + (L.recs.length : Int) := by unfold Lg.next; omega
    refine Som_of (bin_leq _ _ _ _) (WIf_f (by omega) ?_)
    have key : ∀ E : En, E 0 = .ptr l 0 → E 2 = .ptr p2 0 → E 4 = .ptr p4 0 → f27.J1 (WF tab) Q E σ1 := by
      intro E e0 e2 e4
      refine f27.p1_of ?_
      unfold f27.p1
      rw [e0, e2, e4]
      have h1 := h.keep0 k1
      refine first_c ht h1 (Som_of (bin_sub _ _ _ _) ?_)
      rw [wrap_i64_in (n := (L.first : Int) - 1) (by omega) (by omega)]
      refine get_o ht k1.ok h1 hok (by omega) (fun hg σ2 k2 => ?_) (fun r hg σ2 k2 => ?_)
      case refine_2 =>
        exfalso
        unfold Lg.get at hg
        rw [if_pos (by omega)] at hg; cases hg
      have h2 := h1.keep0 k2
      refine Som_of rfl (Som_of rfl ?_)
      refine last_c ht k2.ok h2 hok fun σ3 k3 => ?_
      have h3 := h2.keep0 k3
      have hm := hok.many
      refine Som_of (bin_add _ _ _ _) ?_
      rw [wrap_i64_in (n := (L.next : Int) - 1 + 1) (by omega) (by omega)]
      refine get_o ht k3.ok h3 hok (by omega) (fun hg σ4 k4 => ?_) (fun r hg σ4 k4 => ?_)
      case refine_2 =>
        exfalso
        unfold Lg.get at hg
        rw [if_neg (by omega)] at hg
        have := (List.getElem?_eq_some_iff.1 hg).1
        omega
      refine Som_of rfl (Som_of rfl ?_)
      have k5 : Keep0 σ4 (σ4.bumpT 14) := Keep.bump k4.ok 14
      have k15 : Keep0 σ (σ4.bumpT 14) := (((k1.trans k2).trans k3).trans k4).trans k5
      have c2 := k15.blk b2
      have c4 := k15.blk b4
      have g5 := g.sl.k0 k15
      have kk := k.trans k15
      have n15 := k15.next
      generalize σ4.bumpT 14 = σ5 at *
      refine Som_of (ldN (n := 2) (xs := [.int .i64 (L.first : Int), nv]) c4 (by simp) rfl) (Som_of (un_not _) ?_)
      rw [show (!false) = true from rfl]
      refine Sq_of rfl rfl (Sq_of rfl (un_not _) (Som_of rfl ?_))
      refine Sq_of rfl (vField0 _ _ _) (Sq_of rfl (ld c4 rfl) (Sq_of rfl (bin_geq _ _ _ _) (Som_of rfl ?_)))
      refine Eff_of (storeN_of (xs := [.int .i64 (L.first : Int), nv]) c2 rfl (by omega) (by simp)) ?_
      have e6 : ([AVal.int .i64 0, .nsl].take 0 ++ [.int .i64 (L.first : Int), nv] ++ [AVal.int .i64 0, .nsl].drop (0 + 2)) = [.int .i64 (L.first : Int), nv] := rfl
      rw [e6]
      have k6 : Keep (fun x => x = p2.nat) σ5 (σ5.upd p2 ⟨0, .ex, [.int .i64 (L.first : Int), nv]⟩) := Keep.upd kk.ok c2 rfl
      have b6 : (σ5.upd p2 ⟨0, .ex, [.int .i64 (L.first : Int), nv]⟩).blk p2 = some ⟨0, .ex, [.int .i64 (L.first : Int), nv]⟩ := blk_upd_same _ _
      have n6 : (σ5.upd p2 ⟨0, .ex, [.int .i64 (L.first : Int), nv]⟩).next = σ5.next := rfl
      generalize σ5.upd p2 ⟨0, .ex, [.int .i64 (L.first : Int), nv]⟩ = σ6 at *
      have c46 := k6.old _ _ c4 fun e => h24 (Pos.nat_inj (Eq.symm e))
      refine Sure_of (by rw [SameO_of (ld c46 rfl) (same_int _ _)]; rfl) ?_
      rw [ldN (n := 2) (xs := [.int .i64 (L.first : Int), nv]) b6 (by simp) rfl, Ret_2 rfl rfl]
      have g6 := g5.keep (M := fun x => x = p2.nat) (fun _ e => n2 e) k6
      rw [decide_eq_true (show (1 : Int) ≤ (L.first : Int) by omega)]
      rw [List.take_of_length_le (by omega)] at g6
      have kk6 : Keep0 σ0 σ6 := kk.then ho0 k6 fun x hx e => by omega
      exact hQ nv nm σ6 g6 kk6 n0 fun hz => g6.str_lt kk6.ok hz
    exact key _ (by simp [e0]) (by simp [e2]) (by simp [e4])
  | succ n ih =>
    intro E σ i nv nm k hi b2 b4 g n0 n2 n4 e0 e2 e4 e5
    have h := h0.keep0 k
    refine f27.p0_of ?_
    unfold f27.p0
    rw [e0, e2, e4, e5]
    have hil : i < L.recs.length := by omega
    refine last_c ht k.ok h hok fun σ1 k1 => ?_
    have hnx : (L.next : Int) = (L.first : Int) + (L.recs.length : Int) := by unfold Lg.next; omega
    refine Som_of (bin_leq _ _ _ _) (WIf_t (by omega) ?_)
    have h1 := h.keep0 k1
    refine get_o ht k1.ok h1 hok (by omega) (fun hg σ2 k2 => ?_) (fun r hg σ2 k2 => ?_)
    case refine_1 =>
      exfalso
      unfold Lg.get at hg
      rw [if_neg (by omega), show ((((L.first + i : Nat) : Int) - (L.first : Int)).toNat) = i by omega, List.getElem?_eq_getElem hil] at hg
      cases hg
    have hr : L.recs[i] = r := by
      unfold Lg.get at hg
      rw [if_neg (by omega), show ((((L.first + i : Nat) : Int) - (L.first : Int)).toNat) = i by omega, List.getElem?_eq_getElem hil] at hg
      exact Option.some.inj hg
    have k12 : Keep0 σ σ2 := k1.trans k2
    have h2' := h1.keep0 k2
    have c2 := k12.blk b2
    have c4 := k12.blk b4
    have g2 := g.keep (M := fun _ => False) (fun h => h) k12
    refine Som_of rfl (Som_of rfl (Som_of (un_not _) ?_))
    rw [show (!true) = false from rfl]
    refine Sq_of rfl (vField0 _ _ _) (Sq_of rfl (ld c4 rfl) (Sq_of rfl g2.sl.len (Sq_of rfl (bin_gtr _ _ _ _) (Som_of rfl ?_))))
    refine WIf_f (by rw [List.length_take]; omega) ?_
    refine Som_of (vField0 _ _ _) (Som_of (ld c4 rfl) ?_)
    refine Ala_of (show aSliceV 1 [AVal.str []] 1 [(0, 1, .str r)] = some (⟨1, .ex, [.str r]⟩, fun p => .sl p 0 1 1) from rfl) ?_
    have k3 : Keep0 σ2 (σ2.new ⟨1, .ex, [.str r]⟩) := Keep.new k12.ok _
    have s3 : SsAt (σ2.new ⟨1, .ex, [.str r]⟩) (.sl σ2.next 0 1 1) [r] σ2.next.nat := exSl (by rw [blk_new, if_pos rfl]; rfl) rfl
    have n3 := new_next (σ := σ2) ⟨1, .ex, [.str r]⟩
    generalize σ2.new ⟨1, .ex, [.str r]⟩ = σ3 at *
    have k13 := k12.trans k3
    have g3 := g2.keep (M := fun _ => False) (fun h => h) k3
    obtain ⟨v4, σ4, m4, a4, g4, k4, l4⟩ := append_ss k13.ok g3 s3 (by rw [List.length_take, List.length_singleton]; omega)
    refine Eff_of a4 (Som_of (vField0 _ _ _) ?_)
    have c2 := k4.old _ _ (k3.blk c2) fun e => n2 (Eq.symm e)
    have c4 := k4.old _ _ (k3.blk c4) fun e => n4 (Eq.symm e)
    refine Eff_of (store1_of c4 (by simp) g4.sl.cells) ?_
    have hn2 : p2.nat < σ2.next.nat := (k.trans k12).ok.lt (k12.blk b2)
    have hn4 : p4.nat < σ2.next.nat := (k.trans k12).ok.lt (k12.blk b4)
    have hm4 : m4 ≠ p2.nat ∧ m4 ≠ p4.nat ∧ σ0.next.nat ≤ m4 ∧ (m4 = nm ∨ m4 < σ4.next.nat) := by
      have := (k.trans k12).next
      rcases l4 with e | e
      · rw [e]; exact ⟨n2, n4, n0, .inl rfl⟩
      · omega
    have kk4 : Keep0 σ0 σ4 := (k.trans k13).then ho0 k4 fun x hx e => by omega
    have k5 : Keep (fun x => x = p4.nat) σ4 (σ4.upd p4 ⟨0, .ex, [.int .i64 (L.first : Int), v4]⟩) := Keep.upd kk4.ok c4 rfl
    have b5 : (σ4.upd p4 ⟨0, .ex, [.int .i64 (L.first : Int), v4]⟩).blk p4 = some ⟨0, .ex, [.int .i64 (L.first : Int), v4]⟩ := blk_upd_same _ _
    have n5 : (σ4.upd p4 ⟨0, .ex, [.int .i64 (L.first : Int), v4]⟩).next = σ4.next := rfl
    have kk5 : Keep0 σ0 (σ4.upd p4 ⟨0, .ex, [.int .i64 (L.first : Int), v4]⟩) := kk4.then ho0 k5 fun x hx e => by omega
    have b25 := k5.old _ _ c2 fun e => h24 (Pos.nat_inj e)
    have g5 := g4.keep (M := fun x => x = p4.nat) hm4.2.1 k5
    refine Som_of (bin_add _ _ _ _) ?_
    rw [wrap_i64_in (n := ((L.first + i : Nat) : Int) + 1) (by omega) (by omega)]
    have et : L.recs.take i ++ [r] = L.recs.take (i + 1) := by rw [List.take_succ_eq_append_getElem hil, hr]
    rw [et] at g5
    refine ih _ _ (i + 1) v4 m4 kk5 (by omega) b25 b5 g5 hm4.2.2.1 hm4.1 hm4.2.1 (by simp [e0]) (by simp [e2]) (by simp [e4]) ?_
    have e : ((L.first + i : Nat) : Int) + 1 = ((L.first + (i + 1) : Nat) : Int) := by omega
    rw [← e]; simp
theorem row_c (ht : Tab tab) (ho : Ok σ) (h : LgAt σ G l d L rv mr) (hok : LgOk L) (hlo : 1 ≤ L.first) (hn : L.recs.length ≤ 2000)
    (hQ : ∀ v m σ', SsAt σ' v L.recs m → Keep0 σ σ' → σ.next.nat ≤ m → (L.recs ≠ [] → m < σ'.next.nat) → Q (.tup [L.row.val v, .bool true]) σ') : WF tab 27 [.ptr l 0] σ Q := by
  refine f27_wf ht.t27 ?_
  unfold f27
  refine Ala_of (show aAllocV [AVal.int .i64 0, .nsl] = some (⟨0, .ex, [.int .i64 0, .nsl]⟩, fun p => .ptr p 0) from rfl) ?_
  obtain ⟨k1, b1, n1⟩ := box_new ho [AVal.int .i64 0, .nsl]
  generalize hs1 : σ.new ⟨0, .ex, [AVal.int .i64 0, .nsl]⟩ = σ1 at *
  refine first_c ht (h.keep0 k1) (Som_of (show vBuild [AVal.int .i64 0, .nsl] [(0, 1, .int .i64 (L.first : Int))] = some (.agg [.int .i64 (L.first : Int), .nsl]) from rfl) ?_)
  refine Ala_of (show aAllocV [AVal.int .i64 0, .nsl] = some (⟨0, .ex, [.int .i64 0, .nsl]⟩, fun p => .ptr p 0) from rfl) ?_
  obtain ⟨k2, b2, n2⟩ := box_new k1.ok [AVal.int .i64 0, .nsl]
  have b1 := k2.blk b1
  generalize σ1.new ⟨0, .ex, [AVal.int .i64 0, .nsl]⟩ = σ2 at *
  have k12 : Keep0 σ σ2 := k1.trans k2
  refine Eff_of (storeN_of (xs := [.int .i64 (L.first : Int), .nsl]) b2 rfl (by omega) (by simp)) ?_
  have k3 : Keep (fun x => x = σ1.next.nat) σ2 (σ2.upd σ1.next ⟨0, .ex, [.int .i64 (L.first : Int), .nsl]⟩) := Keep.upd k12.ok b2 rfl
  have b3 : (σ2.upd σ1.next ⟨0, .ex, [.int .i64 (L.first : Int), .nsl]⟩).blk σ1.next = some ⟨0, .ex, [.int .i64 (L.first : Int), .nsl]⟩ := blk_upd_same _ _
  have e3 : ([AVal.int .i64 0, .nsl].take 0 ++ [.int .i64 (L.first : Int), .nsl] ++ [AVal.int .i64 0, .nsl].drop (0 + 2)) = [.int .i64 (L.first : Int), .nsl] := rfl
  rw [e3]
  have h12 : σ.next ≠ σ1.next := fun e => by have := congrArg Pos.nat e; omega
  have b1 := k3.old _ _ b1 fun e => h12 (Pos.nat_inj e)
  generalize σ2.upd σ1.next ⟨0, .ex, [.int .i64 (L.first : Int), .nsl]⟩ = σ3 at *
  have k13 : Keep0 σ σ3 := k12.then ho k3 fun x hx e => by omega
  refine first_c ht (h.keep0 k13) ?_
  exact row_loop ht ho h hok hlo hn h12 (Nat.le_refl _) (by omega) hQ L.recs.length _ σ3 0 .nsl (σ.next.nat + 2) k13 (by omega) b1 b3 (GrAt.nil _ _ _) (by omega) (by omega) (by omega) (by simp) (by simp) (by simp) (by simp)
end
end Go.Am
namespace Go.Am
section
variable {tab : Nat → Option PFn} {σ : S} {Q : AVal → S → Prop} {G M : Nat → Prop} {d pf ps : Pos} {D : Dk} {wv : AVal} {mw : Nat} {fv sv wc : List AVal}
theorem bit_ex (keep : Int) (n : Nat) : ∃ s y : Int, binA .shr .num (.int .i64 keep) (.int .u64 (n : Int)) = some (.int .i64 s) ∧ binA .and .num (.int .i64 s) (.int .i64 1) = some (.int .i64 y) ∧ (y = 0 ∨ y = 1) := by
  have h1 : ∃ s : Int, binA .shr .num (.int .i64 keep) (.int .u64 (n : Int)) = some (.int .i64 s) := by
    cases keep with
    | ofNat a => exact ⟨_, bin_shr_nat .num .i64 .u64 a n⟩
    | negSucc a => exact ⟨_, by
        show outI .i64 _ = _
        rw [outI_eq]⟩
  obtain ⟨s, hs⟩ := h1
  refine ⟨s, ((natOf .i64 s % 2 : Nat) : Int), hs, ?_, ?_⟩
  · rw [binA_int rfl]
    show outIB .i64 (.ofNat (Nat.land (natOf .i64 s) (natOf .i64 1))) = _
    rw [outIB_eq]
    have e1 : natOf .i64 1 = 1 := rfl
    have e2 : Nat.land (natOf .i64 s) 1 = natOf .i64 s % 2 := Nat.and_one_is_mod _
    rw [e1, e2]
    show some (AVal.int .i64 (IntKind.i64.wrap ((natOf .i64 s % 2 : Nat) : Int))) = _
    rw [wrap_i64_in (n := ((natOf .i64 s % 2 : Nat) : Int)) (by omega) (by omega)]
  · omega
def keptAt (keep : Int) (k : Nat) : Prop := ∃ s : Int, binA .shr .num (.int .i64 keep) (.int .u64 ((k % 60 : Nat) : Int)) = some (.int .i64 s) ∧ binA .and .num (.int .i64 s) (.int .i64 1) = some (.int .i64 1)
theorem kept_step (keep : Int) (k : Nat) : ∃ s y : Int, binA .shr .num (.int .i64 keep) (.int .u64 ((k % 60 : Nat) : Int)) = some (.int .i64 s) ∧ binA .and .num (.int .i64 s) (.int .i64 1) = some (.int .i64 y) ∧ ((y = 1 ∧ keptAt keep k) ∨ (y = 0 ∧ ¬ keptAt keep k)) := by
  obtain ⟨s, y, h1, h2, h3⟩ := bit_ex keep (k % 60)
  refine ⟨s, y, h1, h2, ?_⟩
  rcases h3 with h3 | h3
  · right
    refine ⟨h3, fun ⟨s', g1, g2⟩ => ?_⟩
    rw [h1] at g1
    cases g1
    rw [h2] at g2
    cases g2
    omega
  · left
    subst h3
    exact ⟨rfl, s, h1, h2⟩
theorem rem60 (k : Nat) : ∃ r : AVal, binA .rem .num (.int .i64 (k : Int)) (.int .i64 60) = some r ∧ vToInt .u64 r = some (.int .u64 ((k % 60 : Nat) : Int)) := by
  refine ⟨_, bin_rem _ _ _ _ (by omega), ?_⟩
  rw [vToInt_int]
  have : Int.tmod (k : Int) 60 = ((k % 60 : Nat) : Int) := by
    rw [Int.tmod_eq_emod_of_nonneg (by omega)]; omega
  rw [this, wrap_u64_in (by omega) (by omega)]
theorem BySl.cutM {v : AVal} {bs : List Nat} {m a : Nat} (h : BySl σ v bs m) (ha : a ≤ bs.length) : ∃ v', vSlSl 1 v none (some (.int .i64 (a : Int))) (some (.int .i64 (a : Int))) = some v' ∧ BySl σ v' (bs.take a) m := by
  have hb : ∀ len cap, a ≤ len → len ≤ cap → bounds none (some (.int .i64 (a : Int))) (some (.int .i64 (a : Int))) len cap = some (0, a, a) := fun len cap h1 h2 => by
    unfold bounds
    rw [bnd_some (show a ≤ cap by omega), andThen_s, bnd_some (Nat.le_refl a), andThen_s, bnd_none, andThen_s]
  have hkn : ∀ (b : Pos) (o : Nat), slKnown 1 b o (0, a, a) = some (.sl b o a a) := fun b o => by
    unfold slKnown
    simp only
    have e : outSl b o (a - 0) (a - 0) = some (.sl b o a a) := by
      unfold outSl; simp only [forceNat_eq, Nat.sub_zero]
    have e2 : outSl b (o + 0 * 1) (a - 0) (a - 0) = some (.sl b o a a) := by
      unfold outSl; simp only [forceNat_eq, Nat.sub_zero, Nat.zero_mul, Nat.add_zero]
    split <;> assumption
  have hlen : (bs.take a).length = a := by rw [List.length_take]; omega
  have hcs : bytesV (bs.take a) = (bytesV bs).take a := (bytesV_take a bs).symm
  obtain ⟨h0, hv⟩ := h
  have sub : ∀ (b : Pos) (o : Nat), (bs.length * 1 ≠ 0 → ∃ blk, σ.blk b = some blk ∧ ow b blk = m ∧ o + bs.length * 1 ≤ blk.cells.length ∧ (blk.cells.drop o).take (bs.length * 1) = bytesV bs) → BySl σ (.sl b o a a) (bs.take a) m := fun b o hx => by
    show SlAt σ _ 1 (bs.take a).length (bytesV (bs.take a)) m
    rw [hlen, hcs]
    refine ⟨by rw [List.length_take, bytesV_len]; omega, rfl, Nat.le_refl _, fun hz => ?_⟩
    obtain ⟨blk, g1, g2, g3, g4⟩ := hx (by omega)
    refine ⟨blk, g1, g2, by omega, ?_⟩
    rw [← g4, List.take_take]
    congr 1; omega
  cases v with
  | nsl =>
    have hv : bs.length = 0 := hv
    have ha0 : a = 0 := by omega
    subst ha0
    refine ⟨.nsl, ?_, ?_⟩
    · show (andThen (bounds none (some (.int .i64 ((0 : Nat) : Int))) (some (.int .i64 ((0 : Nat) : Int))) 0 0) fun _ => some AVal.nsl) = _
      rw [hb 0 0 (Nat.le_refl _) (Nat.le_refl _)]; rfl
    · rw [List.take_zero]; exact ⟨rfl, rfl⟩
  | sl b o len cap =>
    obtain ⟨h1, h2, h3⟩ := hv
    refine ⟨.sl b o a a, ?_, sub b o h3⟩
    show andThen (bounds none (some (.int .i64 (a : Int))) (some (.int .i64 (a : Int))) len cap) (slKnown 1 b o) = _
    rw [hb len cap (by omega) (by omega), andThen_s, hkn]
  | slu b o len z =>
    obtain ⟨h1, h2, h3⟩ := hv
    subst h1
    cases hl : len with
    | zero =>
      have ha0 : a = 0 := by omega
      subst ha0
      refine ⟨.slu b o 0 1, ?_, ?_⟩
      · show (andThen (bounds none (some (.int .i64 ((0 : Nat) : Int))) (some (.int .i64 ((0 : Nat) : Int))) 0 0) fun r => match isZero 0 with | true => outSlu b o 0 1 | false => slKnown 1 b o r) = _
        rw [hb 0 0 (Nat.le_refl _) (Nat.le_refl _)]
        exact outSlu_eq b o 0 1
      · rw [List.take_zero]
        exact ⟨rfl, rfl, rfl, fun h => absurd rfl h⟩
    | succ n =>
      refine ⟨.sl b o a a, ?_, sub b o h3⟩
      show (andThen (bounds none (some (.int .i64 (a : Int))) (some (.int .i64 (a : Int))) (n + 1) (n + 1)) fun r => match isZero (n + 1) with | true => outSlu b o 0 1 | false => slKnown 1 b o r) = _
      rw [hb (n + 1) (n + 1) (by omega) (Nat.le_refl _), andThen_s]
      exact hkn b o
  | _ => exact hv.elim
end
end Go.Am
namespace Go.Am
section
variable {tab : Nat → Option PFn} {σ : S} {Q : AVal → S → Prop} {G M : Nat → Prop} {d pf ps : Pos} {D : Dk} {wv : AVal} {mw : Nat} {fv sv wc : List AVal}
def Dk.of (q : Nat) (f s : List (List Nat)) : Dk := ⟨q, f, s, [], 0, false⟩
def FsOk (f : List (List Nat)) : Prop := f.length = 64 ∧ ∀ x ∈ f, x.length ≤ 2097152 ∧ Bytes x
theorem FsOk.at {f : List (List Nat)} (h : FsOk f) (k : Nat) : (f.getD k []).length ≤ 2097152 ∧ Bytes (f.getD k []) := by
  rw [List.getD_eq_getElem?_getD]
  cases hg : f[k]? with
  | none => exact ⟨Nat.zero_le _, Bytes.nil⟩
  | some x => exact h.2 x (List.mem_of_getElem? hg)
theorem FsOk.doChg {f : List (List Nat)} (h : FsOk f) {c : Chg} (h1 : c.at_ + c.p.length ≤ 2097152) (h2 : Bytes c.p) : FsOk (doChg f c) := by
  refine ⟨by rw [doChg_len]; exact h.1, fun x hx => ?_⟩
  have hf := h.at c.file
  unfold Am.doChg at hx
  split at hx
  · split at hx
    · rcases List.mem_or_eq_of_mem_set hx with hx | hx
      · exact h.2 x hx
      · rw [hx]; exact ⟨by rw [List.length_take]; omega, hf.2.take _⟩
    · exact h.2 x hx
  · rcases List.mem_or_eq_of_mem_set hx with hx | hx
    · exact h.2 x hx
    · rw [hx]; exact ⟨by rw [writtenF_len]; omega, writtenF_bytes hf.2 h2⟩
theorem crash_put (ht : Tab tab) {q : Nat} {f s : List (List Nat)} {E : En} {p : Pos} {c : Chg} {pv cv : AVal} {mp : Nat} {k : Nat} (ho : Ok σ) (h : DkAt σ G d (Dk.of q f s) pf ps fv sv .nsl [] mw) (hf : FsOk f) (hfile : c.file < 64) (h1 : c.at_ + c.p.length ≤ 2097152)
    (hp : BySl σ pv c.p mp) (hblk : σ.blk p = some ⟨0, .ex, [.bool c.cut, .int .i64 (c.file : Int), .int .i64 (c.at_ : Int), cv]⟩) (hk : k ≤ 1000000000) (e7 : E 7 = .ptr d 0) (e11 : E 11 = .ptr p 0) (e12 : E 12 = pv) (e50 : E 50 = .int .i64 (k : Int))
    (hK : ∀ (E' : En) (σ' : S) (fv' : List AVal), DkAt σ' G d (Dk.of q (doChg f c) s) pf ps fv' sv .nsl [] mw → Keep (fun y => y = pf.nat) σ σ' → E' 0 = E 0 → E' 1 = E 1 → E' 2 = E 2 → E' 7 = E 7 → E' 8 = E 8 → E' 48 = E 48 → E' 49 = E 49 → E' 50 = .int .i64 ((k + 1 : Nat) : Int) → f46.L2 (WF tab) Q E' σ') : f46.J4 (WF tab) Q E σ := by
  refine f46.p4_of ?_
  unfold f46.p4
  rw [e7, e11, e12, e50]
  have kb : Keep0 σ (σ.bumpT 9) := Keep.bump ho 9
  have hd := h.keep0 kb
  have hbl := kb.blk hblk
  have hp := hp.k0 kb
  generalize σ.bumpT 9 = σ1 at *
  obtain ⟨v, bs, a1, a2, a3, a4, hi⟩ := hd.file (k := c.file) hfile
  have hfg : f.getD c.file [] = bs := by
    have a3 : f[c.file]? = some bs := a3
    rw [List.getD_eq_getElem?_getD, a3]; rfl
  have hbs : bs.length ≤ 2097152 ∧ Bytes bs := by have := hf.at c.file; rw [hfg] at this; exact this
  have ewk : IntKind.i64.wrap ((k : Int) + 1) = ((k + 1 : Nat) : Int) := by rw [wrap_i64_in (n := (k : Int) + 1) (by omega) (by omega)]; omega
  refine Som_of rfl (Som_of (vField0 _ _ _) (Som_of (ld hd.blk rfl) (Som_of (vField0 _ _ _) (Som_of (ld hbl rfl) (Som_of a1 (Som_of a4 (Som_of (vField0 _ _ _) (Som_of (ld hbl rfl) (Som_of (un_not _) ?_)))))))))
  obtain ⟨m, hv, hm⟩ := hi
  cases hcut : c.cut with
  | false =>
    rw [show (!false) = true from rfl, WIf_true]
    have kb2 : Keep0 σ1 (σ1.bumpT 13) := Keep.bump kb.ok 13
    have hd2 := hd.keep0 kb2
    have hbl2 := kb2.blk hbl
    refine Som_of rfl (Som_of (vField0 _ _ _) (Som_of (ld hd2.blk rfl) (Som_of (vField0 _ _ _) (Som_of (ld hbl2 rfl) (Som_of (vField0 _ _ _) (Som_of (ld hbl2 rfl) ?_))))))
    refine written_c ht kb2.ok (hv.k0 kb2) (hp.k0 kb2) (by omega) (by omega) fun r σ3 m' hr k3 hm' => ?_
    have hd3 := hd2.keep0 k3
    have hbl3 := k3.blk hbl2
    refine Sure_of (SameO_of (ld hd3.blk rfl) (same_sl' _ _ _ _)) (Sure_of (SameO_of (ld hbl3 rfl) (same_int _ _)) (Som_of a1 ?_))
    have him : Im σ3 G r (writtenF bs c.at_ c.p) := ⟨m', hr, fun _ hg => by have := hd2.gl _ hg; omega⟩
    obtain ⟨hd4, k4⟩ := hd3.setF k3.ok hfile him
    refine Eff_of (store1_of hd3.fb (by have := hd3.fl; omega) hr.cells) (Som_of (bin_add _ _ _ _) ?_)
    rw [ewk]
    have hdo : doChg f c = f.set c.file (writtenF bs c.at_ c.p) := by
      unfold doChg
      rw [hcut, if_neg (by decide), hfg]
    refine hK _ _ _ (by rw [hdo]; exact hd4) ?_ (by simp) (by simp) (by simp) (by simp) (by simp) (by simp) (by simp) (by simp)
    exact (Keep0.to (kb.trans (kb2.trans k3))).trans k4
  | true =>
    rw [show (!true) = false from rfl, WIf_false]
    refine Som_of (vField0 _ _ _) (Som_of (ld hbl rfl) (Som_of hv.len (Som_of (bin_leq _ _ _ _) ?_)))
    refine WIf_dec (fun hle => ?_) (fun hgt => ?_)
    · have kb2 : Keep0 σ1 (σ1.bumpT 14) := Keep.bump kb.ok 14
      have hd2 := hd.keep0 kb2
      have hbl2 := kb2.blk hbl
      obtain ⟨v', w1, w2⟩ := BySl.cutM (hv.k0 kb2) (a := c.at_) (by omega)
      refine Som_of rfl (Som_of (vField0 _ _ _) (Som_of (ld hd2.blk rfl) (Som_of (vField0 _ _ _) (Som_of (ld hbl2 rfl) (Som_of (vField0 _ _ _) (Som_of (ld hbl2 rfl) (Som_of (vField0 _ _ _) (Som_of (ld hbl2 rfl) (Som_of w1 (Som_of a1 ?_))))))))))
      have him : Im (σ1.bumpT 14) G v' (bs.take c.at_) := ⟨m, w2, fun hne => hm fun e => hne (by rw [e]; simp)⟩
      obtain ⟨hd4, k4⟩ := hd2.setF kb2.ok hfile him
      refine Eff_of (store1_of hd2.fb (by have := hd2.fl; omega) w2.cells) (Som_of (bin_add _ _ _ _) ?_)
      rw [ewk]
      have hdo : doChg f c = f.set c.file (bs.take c.at_) := by
        unfold doChg
        rw [if_pos hcut, hfg, if_pos (by omega)]
      refine hK _ _ _ (by rw [hdo]; exact hd4) ?_ (by simp) (by simp) (by simp) (by simp) (by simp) (by simp) (by simp) (by simp)
      exact (Keep0.to (kb.trans kb2)).trans k4
    · refine Som_of (bin_add _ _ _ _) ?_
      rw [ewk]
      have hdo : doChg f c = f := by
        unfold doChg
        rw [if_pos hcut, hfg, if_neg (by omega)]
      refine hK _ _ fv (by rw [hdo]; exact hd) (Keep0.to kb) (by simp) (by simp) (by simp) (by simp) (by simp) (by simp) (by simp) (by simp)
theorem cellsN_at {v : AVal} {esz n m : Nat} {cells xs : List AVal} {k : Nat} (h : SlAt σ v esz n cells m) (hk : k < n) (he : 0 < esz) (hx : (cells.drop (k * esz)).take esz = xs) : ∃ ad, vIxSl esz v (.int .i64 (k : Int)) = some ad ∧ vLoadN esz ad σ = some (.agg xs) := by
  obtain ⟨b, o, blk, h1, h2, _, h4⟩ := SlAt.at h hk he
  refine ⟨_, h1, ?_⟩
  have hlen : cells.length = n * esz := h.1
  have hle : (k + 1) * esz ≤ n * esz := Nat.mul_le_mul_right _ hk
  rw [Nat.add_mul, Nat.one_mul] at hle
  have hcl : o + k * esz + esz ≤ blk.cells.length := by
    have h5 := h4 (esz - 1) (by omega)
    have : k * esz + (esz - 1) < cells.length := by omega
    rw [List.getElem?_eq_getElem this] at h5
    have := (List.getElem?_eq_some_iff.1 h5).1
    omega
  obtain ⟨e, kd, cs⟩ := blk
  refine ldN h2 hcl ?_
  rw [← hx]
  apply List.ext_getElem?
  intro j
  by_cases hj : j < esz
  · rw [List.getElem?_take_of_lt hj, List.getElem?_take_of_lt hj, List.getElem?_drop, List.getElem?_drop]
    exact h4 j hj
  · rw [List.getElem?_eq_none (by rw [List.length_take]; omega), List.getElem?_eq_none (by rw [List.length_take]; omega)]
theorem crash_loop (ht : Tab tab) {σ0 : S} (ho0 : Ok σ0) {G' : Nat → Prop} {pf ps d0 pf0 ps0 : Pos} {fv0 sv0 wc : List AVal} {wv : AVal} {mw mw0 : Nat} (h0 : DkAt σ0 G d0 D pf0 ps0 fv0 sv0 wv wc mw0) (hok : DkOk D) {keep torn last : Int}
    (hlast : ∀ j : Nat, j < D.wait.length → keptAt keep j → (j : Int) ≤ last) (hpf : σ0.next.nat ≤ pf.nat) (hps : σ0.next.nat ≤ ps.nat) {q : Nat}
    (hQ : ∀ (g : List (List Nat)) (fv' sv' : List AVal) (σ' : S), Crashed D.wait D.safe g → FsOk g → DkAt σ' G' d (Dk.of q g g) pf ps fv' sv' .nsl [] mw → Keep0 σ0 σ' → Q (.ptr d 0) σ') (n : Nat) :
    ∀ (E : En) (σ : S) (i : Nat) (f s : List (List Nat)) (fv sv : List AVal), Keep0 σ0 σ → i + n = D.wait.length → DkAt σ G' d (Dk.of q f s) pf ps fv sv .nsl [] mw → (∀ x, G x → G' x) → FsOk f →
      ((∀ g, Crashed (D.wait.drop i) f g → Crashed D.wait D.safe g) ∨ (Crashed D.wait D.safe f ∧ ∀ j : Nat, i ≤ j → j < D.wait.length → ¬ keptAt keep j)) →
      E 1 = .int .i64 keep → E 2 = .int .i64 torn → E 7 = .ptr d 0 → E 8 = .int .i64 last → E 48 = wv → E 49 = .int .i64 (D.wait.length : Int) → E 50 = .int .i64 (i : Int) → f46.L2 (WF tab) Q E σ := by
  have hwn := hok.wn
  induction n with
  | zero =>
    intro E σ i f s fv sv k hi h hG hf hcr e1 e2 e7 e8 e48 e49 e50
    refine f46.p2_of ?_
    unfold f46.p2
    rw [e49, e50]
    refine Som_of (bin_lss _ _ _ _) (WIf_f (by omega) ?_)
    have hcr : Crashed D.wait D.safe f := by
      rcases hcr with h1 | h1
      · refine h1 f ?_
        rw [List.drop_eq_nil_of_le (by omega)]; exact .nil f
      · exact h1.1
    have key : ∀ E : En, E 7 = .ptr d 0 → f46.J3 (WF tab) Q E σ := by
      intro E e7
      refine f46.p3_of ?_
      unfold f46.p3
      rw [e7]
      have kb : Keep0 σ (σ.bumpT 9) := Keep.bump k.ok 9
      have hd := h.keep0 kb
      have hfl := h.fl
      refine Som_of rfl (Som_of (vField0 _ _ _) (Som_of (ld hd.blk rfl) (Som_of rfl (Som_of (vField0 _ _ _) (Som_of (ld hd.blk rfl) ?_)))))
      have hsf : SlAt (σ.bumpT 9) (.sl pf 0 64 64) 1 64 fv pf.nat := exSl hd.fb hd.fl
      have hrd : slRead 1 64 (.sl pf 0 64 64) (σ.bumpT 9) = some fv := by
        rw [SlAt.slRead hsf (Nat.le_refl _), show 64 * 1 = fv.length by omega, List.take_length]
      refine Eff_of (copy_of (esz := 1) (k := 64) (n := 64) (cap := 64) (o := 0) hsf.slLen hrd (by omega) (Nat.le_refl _) hd.sb (by rw [hd.sl]; omega)) ?_
      rw [if_neg (by omega)]
      have ee : sv.take 0 ++ fv ++ sv.drop (0 + 64 * 1) = fv := by
        have := h.sl
        rw [List.take_zero, List.nil_append, List.drop_of_length_le (by omega), List.append_nil]
      rw [ee, Ret_1 rfl]
      have k3' : Keep (fun x => x = ps.nat) (σ.bumpT 9) ((σ.bumpT 9).upd ps ⟨1, .ex, fv⟩) := Keep.upd kb.ok hd.sb rfl
      have hGp : ∀ x, x = ps.nat → G' x := fun x e => by rw [e]; exact h.g3
      have ne1 : d.nat ≠ ps.nat := fun e => h.n2 (Pos.nat_inj e)
      have ne2 : pf.nat ≠ ps.nat := fun e => h.n3 (Pos.nat_inj e)
      refine hQ f fv fv _ hcr hf ⟨k3'.old _ _ hd.blk ne1, k3'.old _ _ hd.fb ne2, blk_upd_same _ _, hd.fl, hd.fl, hd.fd, hd.fd, fun i v bs a b => (hd.ff i v bs a b).keep k3' hGp, fun i v bs a b => (hd.ff i v bs a b).keep k3' hGp,
        hd.wg.keep h.n6 k3', fun i c hc => by simp [Dk.of] at hc, h.n1, h.n2, h.n3, h.n4, h.n5, h.n6, h.g1, h.g2, h.g3, h.g4, fun x hx => hd.gl x hx⟩ ?_
      have k9 : Keep0 σ0 (σ.bumpT 9) := k.trans kb
      exact k9.then ho0 k3' fun x hx e => by omega
    exact key _ (by simp [e7])
  | succ n ih =>
    intro E σ i f s fv sv k hi h hG hf hcr e1 e2 e7 e8 e48 e49 e50
    have hil : i < D.wait.length := by omega
    obtain ⟨c, hci⟩ : ∃ c, D.wait[i]? = some c := ⟨_, List.getElem?_eq_getElem hil⟩
    have hcd : D.wait.drop i = c :: D.wait.drop (i + 1) := by
      rw [List.drop_eq_getElem_cons hil]
      rw [List.getElem?_eq_getElem hil] at hci
      cases hci; rfl
    obtain ⟨q1, q2, q3⟩ := hok.wl c (List.mem_of_getElem? hci)
    have hold := h0.keep0 k
    obtain ⟨pv, w1, mp, w2, _⟩ := hold.ww i c hci
    refine f46.p2_of ?_
    unfold f46.p2
    rw [e1, e2, e8, e48, e49, e50]
    obtain ⟨ad, a1, a2⟩ := cellsN_at hold.wg.sl hil (by omega) w1
    refine Som_of (bin_lss _ _ _ _) (WIf_t (by omega) (Som_of a1 (Som_of a2 ?_)))
    refine Ala_of (show aAllocV [AVal.bool false, .int .i64 0, .int .i64 0, .nsl] = some (⟨0, .ex, [.bool false, .int .i64 0, .int .i64 0, .nsl]⟩, fun p => .ptr p 0) from rfl) ?_
    obtain ⟨k1, b1, n1⟩ := box_new k.ok [AVal.bool false, .int .i64 0, .int .i64 0, .nsl]
    generalize hp11 : σ.next = p11 at *
    generalize σ.new ⟨0, .ex, [AVal.bool false, .int .i64 0, .int .i64 0, .nsl]⟩ = σ1 at *
    refine Eff_of (storeN_of (xs := [.bool c.cut, .int .i64 (c.file : Int), .int .i64 (c.at_ : Int), pv]) b1 rfl (by omega) (by simp)) ?_
    have e3 : ([AVal.bool false, .int .i64 0, .int .i64 0, .nsl].take 0 ++ [.bool c.cut, .int .i64 (c.file : Int), .int .i64 (c.at_ : Int), pv] ++ [AVal.bool false, .int .i64 0, .int .i64 0, .nsl].drop (0 + 4)) = [.bool c.cut, .int .i64 (c.file : Int), .int .i64 (c.at_ : Int), pv] := rfl
    rw [e3]
    have k2 : Keep (fun y => y = p11.nat) σ1 (σ1.upd p11 ⟨0, .ex, [.bool c.cut, .int .i64 (c.file : Int), .int .i64 (c.at_ : Int), pv]⟩) := Keep.upd k1.ok b1 rfl
    have b2 : (σ1.upd p11 ⟨0, .ex, [.bool c.cut, .int .i64 (c.file : Int), .int .i64 (c.at_ : Int), pv]⟩).blk p11 = some ⟨0, .ex, [.bool c.cut, .int .i64 (c.file : Int), .int .i64 (c.at_ : Int), pv]⟩ := blk_upd_same _ _
    generalize σ1.upd p11 ⟨0, .ex, [.bool c.cut, .int .i64 (c.file : Int), .int .i64 (c.at_ : Int), pv]⟩ = σ2 at *
    have k02 : Keep0 σ σ2 := k1.then k.ok k2 fun y hy e => by rw [← hp11] at e; omega
    have kk2 : Keep0 σ0 σ2 := k.trans k02
    have h2 := h.keep0 k02
    have w2 := w2.k0 k02
    have ewk : IntKind.i64.wrap ((i : Int) + 1) = ((i + 1 : Nat) : Int) := by rw [wrap_i64_in (n := (i : Int) + 1) (by omega) (by omega)]; omega
    have e48' : E 48 = wv := e48
    obtain ⟨r, r1, r2⟩ := rem60 i
    obtain ⟨s', y, y1, y2, y3⟩ := kept_step keep i
    refine Som_of r1 (Som_of r2 (Som_of y1 (Som_of y2 (Som_of (bin_eql _ _ _ _) ?_))))
    rcases y3 with ⟨rfl, hkept⟩ | ⟨rfl, hno⟩
    case inr =>
      refine WIf_t rfl ?_
      refine Som_of (bin_add _ _ _ _) ?_
      rw [ewk]
      refine ih _ σ2 (i + 1) f s fv sv kk2 (by omega) h2 hG hf ?_ (by simp [e1]) (by simp [e2]) (by simp [e7]) (by simp [e8]) (by simp [e48]) (by simp [e49]) (by simp)
      refine hcr.imp (fun h g hg => h g (by rw [hcd]; exact .skip hg)) fun h => ⟨h.1, fun j h1 h2 => h.2 j (by omega) h2⟩
    have hA := hcr.resolve_right fun hB => hB.2 i (Nat.le_refl i) hil hkept
    refine WIf_f (by omega) ?_
    refine Som_of (vField0 _ _ _) (Som_of (ld b2 rfl) (Som_of (bin_eql _ _ _ _) ?_))
    -- the change as it is
    have whole : ∀ E' : En, E' 1 = E 1 → E' 2 = E 2 → E' 7 = E 7 → E' 8 = E 8 → E' 48 = E 48 → E' 49 = E 49 → E' 50 = E 50 → E' 11 = .ptr p11 0 → E' 12 = pv → f46.J4 (WF tab) Q E' σ2 := by
      intro E' g1 g2 g7 g8 g48 g49 g50 g11 g12
      refine crash_put ht (c := c) (k := i) kk2.ok h2 hf q1 q2 w2 b2 (by omega) (by rw [g7, e7]) g11 g12 (by rw [g50, e50]) fun E2 σ3 fv' hd3 k3 f0 f1 f2 f7 f8 f48 f49 f50 => ?_
      refine ih E2 σ3 (i + 1) _ s fv' sv (kk2.then ho0 k3 fun x hx e => by omega) (by omega) hd3 hG (hf.doChg q2 q3) (.inl fun g hg => hA g (by rw [hcd]; exact .keep hg)) (by rw [f1, g1, e1]) (by rw [f2, g2, e2]) (by rw [f7, g7, e7]) (by rw [f8, g8, e8]) (by rw [f48, g48, e48]) (by rw [f49, g49, e49]) f50
    by_cases hl : (i : Int) = last
    · rw [decide_eq_true hl]
      refine Sq_of rfl rfl (Sq_of rfl (bin_geq _ _ _ _) (Som_of rfl ?_))
      by_cases ht0 : 0 ≤ torn
      · rw [decide_eq_true ht0]
        refine Sq_of rfl rfl (Sq_of rfl rfl (Sq_of rfl w2.len (Sq_of rfl (bin_lss _ _ _ _) (Som_of rfl ?_))))
        refine WIf_dec (fun hlt => ?_) (fun hge => ?_)
        · obtain ⟨t, ht1⟩ := Int.eq_ofNat_of_zero_le ht0
          subst ht1
          have htl : t < c.p.length := by omega
          obtain ⟨v', v1, v2⟩ := BySl.cutH w2 (hi := t) (by omega)
          refine Som_of v1 ?_
          refine crash_put ht (c := { c with p := c.p.take t }) (k := i) kk2.ok h2 hf q1 (by show c.at_ + (c.p.take t).length ≤ _; rw [List.length_take]; omega) v2 b2 (by omega) (by simp [e7]) (by simp) (by simp) (by simp [e50]) fun E2 σ3 fv' hd3 k3 f0 f1 f2 f7 f8 f48 f49 f50 => ?_
          refine ih E2 σ3 (i + 1) _ s fv' sv (kk2.then ho0 k3 fun x hx e => by omega) (by omega) hd3 hG (hf.doChg (by show c.at_ + (c.p.take t).length ≤ _; rw [List.length_take]; omega) (q3.take t)) ?_ (by rw [f1]; simp [e1]) (by rw [f2]; simp [e2]) (by rw [f7]; simp [e7]) (by rw [f8]; simp [e8]) (by rw [f48]; simp [e48]) (by rw [f49]; simp [e49]) f50
          cases hcut : c.cut with
          | false =>
            refine .inr ⟨hA _ (by rw [hcd, ← hcut]; exact .torn t hcut), fun j h1 h2 h3 => ?_⟩
            have := hlast j h2 h3
            omega
          | true =>
            refine .inl fun g hg => hA g ?_
            rw [hcd]
            refine .keep ?_
            have : doChg f { cut := true, file := c.file, at_ := c.at_, p := c.p.take t } = doChg f c := by
              unfold doChg
              rw [if_pos rfl, if_pos hcut]
            rw [← this]; exact hg
        · exact whole _ (by simp) (by simp) (by simp) (by simp) (by simp) (by simp) (by simp [e50]) (by simp) (by simp)
      · rw [decide_eq_false ht0]
        refine Som_of rfl (Som_of rfl (Som_of rfl (Som_of rfl (Som_of (v := .bool false) rfl ?_))))
        rw [WIf_false]
        exact whole _ (by simp) (by simp) (by simp) (by simp) (by simp) (by simp) (by simp [e50]) (by simp) (by simp)
    · rw [decide_eq_false hl]
      refine Som_of rfl (Som_of rfl (Som_of (v := .bool false) rfl (Som_of rfl (Som_of rfl (Som_of rfl (Som_of rfl (Som_of (v := .bool false) rfl ?_)))))))
      rw [WIf_false]
      exact whole _ (by simp) (by simp) (by simp) (by simp) (by simp) (by simp) (by simp [e50]) (by simp) (by simp)
theorem crash_c (ht : Tab tab) (ho : Ok σ) (h : DkAt σ G d D pf ps fv sv wv wc mw) (hok : DkOk D) {keep torn : Int}
    (hQ : ∀ (d' pf' ps' : Pos) (fv' sv' : List AVal) (mw' : Nat) (G' : Nat → Prop) (g : List (List Nat)) (σ' : S), Crashed D.wait D.safe g → FsOk g → DkAt σ' G' d' (Dk.of D.quota g g) pf' ps' fv' sv' .nsl [] mw' → Keep0 σ σ' → Gr σ G G' → σ.next.nat ≤ d'.nat → σ.next.nat ≤ pf'.nat → σ.next.nat ≤ ps'.nat → σ.next.nat ≤ mw' → Q (.ptr d' 0) σ') : WF tab 46 [.ptr d 0, .int .i64 keep, .int .i64 torn] σ Q := by
  refine f46_wf ht.t46 ?_
  unfold f46
  refine Som_of rfl (Som_of (vField0 _ _ _) (Som_of (ld h.blk rfl) ?_))
  refine fresh_c ht ho h.gl fun d' pf' ps' σ1 hd k1 a1 a2 a3 => ?_
  have kb : Keep0 σ1 (σ1.bumpT 9) := Keep.bump k1.ok 9
  have k2 : Keep0 σ (σ1.bumpT 9) := k1.trans kb
  have hd2 := hd.keep0 kb
  have h2 := h.keep0 k2
  generalize hG' : (fun x => G x ∨ x = d'.nat ∨ x = pf'.nat ∨ x = ps'.nat ∨ x = σ.next.nat) = G' at *
  have hgr : Gr σ G G' := by
    rw [← hG']
    exact ⟨fun x hx => .inl hx, fun x hx hg => by
      rcases hg with hg | hg | hg | hg | hg
      · exact hg
      all_goals omega⟩
  generalize σ1.bumpT 9 = σ2 at *
  refine Som_of rfl (Som_of (vField0 _ _ _) (Som_of (ld hd2.blk rfl) (Som_of rfl (Som_of (vField0 _ _ _) (Som_of (ld h2.blk rfl) ?_)))))
  have hsf : SlAt σ2 (.sl ps 0 64 64) 1 64 sv ps.nat := exSl h2.sb h2.sl
  have hrd : slRead 1 64 (.sl ps 0 64 64) σ2 = some sv := by
    rw [SlAt.slRead hsf (Nat.le_refl _), show 64 * 1 = sv.length by have := h2.sl; omega, List.take_length]
  refine Eff_of (copy_of (esz := 1) (k := 64) (n := 64) (cap := 64) (o := 0) hsf.slLen hrd (by have := h2.sl; omega) (Nat.le_refl _) hd2.fb (by rw [List.length_replicate]; omega)) ?_
  rw [if_neg (by omega)]
  have ee : (List.replicate 64 AVal.nsl).take 0 ++ sv ++ (List.replicate 64 AVal.nsl).drop (0 + 64 * 1) = sv := by
    rw [List.take_zero, List.nil_append, List.drop_of_length_le (by rw [List.length_replicate]; omega), List.append_nil]
  rw [ee]
  have k3' : Keep (fun x => x = pf'.nat) σ2 (σ2.upd pf' ⟨1, .ex, sv⟩) := Keep.upd k2.ok hd2.fb rfl
  have hGp : ∀ x, x = pf'.nat → G' x := fun x e => by rw [e]; exact hd2.g2
  have ne1 : d'.nat ≠ pf'.nat := fun e => hd2.n1 (Pos.nat_inj e)
  have ne2 : ps'.nat ≠ pf'.nat := fun e => hd2.n3 (Pos.nat_inj e.symm)
  have hd3 : DkAt (σ2.upd pf' ⟨1, .ex, sv⟩) G' d' (Dk.of D.quota D.safe (List.replicate 64 [])) pf' ps' sv (List.replicate 64 .nsl) .nsl [] σ.next.nat :=
    ⟨k3'.old _ _ hd2.blk ne1, blk_upd_same _ _, k3'.old _ _ hd2.sb ne2, h2.sl, hd2.sl, h2.sd, hd2.sd, fun i v bs a b => (((h.ss i v bs a b).grow ho hgr.2).keep k2 (fun _ hx => hx.elim)).keep k3' hGp, fun i v bs a b => (hd2.ss i v bs a b).keep k3' hGp,
      hd2.wg.keep hd2.n5 k3', fun i c hc => by simp [Dk.of] at hc, hd2.n1, hd2.n2, hd2.n3, hd2.n4, hd2.n5, hd2.n6, hd2.g1, hd2.g2, hd2.g3, hd2.g4, fun x hx => hd2.gl x hx⟩
  have k3 : Keep0 σ (σ2.upd pf' ⟨1, .ex, sv⟩) := k2.then ho k3' fun x hx e => by omega
  have h3 := h.keep0 k3
  generalize σ2.upd pf' ⟨1, .ex, sv⟩ = σ3 at *
  have hwn := hok.wn
  refine Som_of rfl (Som_of (vField0 _ _ _) (Som_of (ld h3.blk rfl) (Som_of h3.wg.sl.len ?_)))
  -- the second round
  have second : ∀ (E : En) (last : Int), (∀ j : Nat, j < D.wait.length → keptAt keep j → (j : Int) ≤ last) → E 0 = .ptr d 0 → E 1 = .int .i64 keep → E 2 = .int .i64 torn → E 7 = .ptr d' 0 → E 8 = .int .i64 last → f46.J1 (WF tab) Q E σ3 := by
    intro E last hl e0 e1 e2 e7 e8
    refine f46.p1_of ?_
    unfold f46.p1
    rw [e0]
    refine Som_of rfl (Som_of (vField0 _ _ _) (Som_of (ld h3.blk rfl) (Som_of h3.wg.sl.len ?_)))
    refine crash_loop ht ho h hok (G := G) (torn := torn) hl (by omega) (by omega) (fun g fv' sv' σ' c1 c2 c3 c4 => hQ d' pf' ps' fv' sv' _ G' g σ' c1 c2 c3 c4 hgr (by omega) (by omega) (by omega) (Nat.le_refl _)) D.wait.length _ σ3 0 D.safe (List.replicate 64 []) sv (List.replicate 64 .nsl) k3 (by omega) hd3 hgr.1 ⟨h.sd, hok.sl⟩ (.inl fun g hg => hg) (by simp [e1]) (by simp [e2]) (by simp [e7]) (by simp [e8]) (by simp) (by simp) (by simp)
  have first : ∀ (n : Nat) (E : En) (i : Nat) (last : Int), i + n = D.wait.length → (∀ j : Nat, j < i → keptAt keep j → (j : Int) ≤ last) → E 0 = .ptr d 0 → E 1 = .int .i64 keep → E 2 = .int .i64 torn → E 7 = .ptr d' 0 → E 8 = .int .i64 last → E 32 = .int .i64 (D.wait.length : Int) → E 33 = .int .i64 (i : Int) → f46.L0 (WF tab) Q E σ3 := by
    intro n
    induction n with
    | zero =>
      intro E i last hi hl e0 e1 e2 e7 e8 e32 e33
      refine f46.p0_of ?_
      unfold f46.p0
      rw [e32, e33]
      refine Som_of (bin_lss _ _ _ _) (WIf_f (by omega) ?_)
      exact second _ last (fun j h1 h2 => hl j (by omega) h2) (by simp [e0]) (by simp [e1]) (by simp [e2]) (by simp [e7]) (by simp [e8])
    | succ n ih =>
      intro E i last hi hl e0 e1 e2 e7 e8 e32 e33
      refine f46.p0_of ?_
      unfold f46.p0
      rw [e1, e32, e33]
      obtain ⟨r, r1, r2⟩ := rem60 i
      obtain ⟨s', y, y1, y2, y3⟩ := kept_step keep i
      have ewk : IntKind.i64.wrap ((i : Int) + 1) = ((i + 1 : Nat) : Int) := by rw [wrap_i64_in (n := (i : Int) + 1) (by omega) (by omega)]; omega
      refine Som_of (bin_lss _ _ _ _) (WIf_t (by omega) (Som_of r1 (Som_of r2 (Som_of y1 (Som_of y2 (Som_of (bin_eql _ _ _ _) ?_))))))
      rcases y3 with ⟨rfl, hkept⟩ | ⟨rfl, hno⟩
      · refine WIf_t rfl (Som_of (bin_add _ _ _ _) ?_)
        rw [ewk]
        refine ih _ (i + 1) (i : Int) (by omega) (fun j h1 h2 => by omega) (by simp [e0]) (by simp [e1]) (by simp [e2]) (by simp [e7]) (by simp) (by simp [e32]) (by simp)
      · refine WIf_f (by omega) (Som_of (bin_add _ _ _ _) ?_)
        rw [ewk]
        refine ih _ (i + 1) last (by omega) (fun j h1 h2 => ?_) (by simp [e0]) (by simp [e1]) (by simp [e2]) (by simp [e7]) (by simp [e8]) (by simp [e32]) (by simp)
        by_cases hj : j = i
        · subst hj; exact absurd h2 hno
        · exact hl j (by omega) h2
  exact first D.wait.length _ 0 (-1) (by omega) (fun j h1 _ => by omega) (by simp) (by simp) (by simp) (by simp) (by simp) (by simp) (by simp)
end
end Go.Am
namespace Go.Am
section
variable {tab : Nat → Option PFn} {σ σ' : S} {Q : AVal → S → Prop} {G G' M M' N : Nat → Prop} {g l d : Pos} {L L' : Lg} {D D' : Dk} {rv rv' nv sv cv : AVal} {mr mr' nm sm mc : Nat} {now safe : Rw} {cs : List Cl} {cc : List AVal} {dead : Bool} {q : Nat}
theorem WL.keepG (h : WL σ G l d L D rv mr M) (ho : Ok σ) (k : Keep N σ σ') (hn : ∀ x, N x → G x) (hx : ∀ x, N x → ¬ M x) (g : Gr σ G G') (hl : ∀ x, G' x → x < σ'.next.nat) : WL σ' G' l d L D rv mr M := by
  obtain ⟨pf, ps, fv, sv, wv, wc, mw, h, e⟩ := h
  refine ⟨pf, ps, fv, sv, wv, wc, mw, ⟨h.lg.move k (fun x hx' hn' => hx x hn' (by rw [e]; exact .inl hx')) g hl, h.dk.move ho k hn (fun x hx' hn' => hx x hn' (by rw [e]; exact .inr hx')) g hl, h.ap⟩, e⟩
def IsAt (σ : S) (G : Nat → Prop) (v : AVal) (rs : List (List Nat)) : Prop := ∃ m, SsAt σ v rs m ∧ (rs ≠ [] → ¬ G m)
theorem IsAt.move {v : AVal} {rs : List (List Nat)} (h : IsAt σ G v rs) (ho : Ok σ) (k : Keep N σ σ') (hn : ∀ x, N x → G x) (g : Gr σ G G') : IsAt σ' G' v rs := by
  obtain ⟨m, h1, h2⟩ := h
  refine ⟨m, h1.keep (fun hz hm => ?_) k, fun hz hg => ?_⟩
  · have hne : rs ≠ [] := fun e => by rw [e] at hz; exact hz rfl
    exact h2 hne (hn m hm)
  · exact h2 hz (g.2 m (h1.str_lt ho hz) hg)
def gmCells (d l : Pos) (now safe : Rw) (nv sv cv : AVal) (dead : Bool) (q : Nat) : List AVal := [.ptr d 0, .ptr l 0, .int .i64 (now.first : Int), nv, .int .i64 (safe.first : Int), sv, cv, .bool dead, .int .i64 (q : Int)]
structure GmAt (σ : S) (g : Pos) (G M : Nat → Prop) (l d : Pos) (L : Lg) (D : Dk) (rv : AVal) (mr : Nat) (now safe : Rw) (nv sv cv : AVal) (mc : Nat) (cs : List Cl) (cc : List AVal) (dead : Bool) (q : Nat) : Prop where
  blk : σ.blk g = some ⟨0, .ex, gmCells d l now safe nv sv cv dead q⟩
  wl : WL σ G l d L D rv mr M
  now : IsAt σ G nv now.recs
  safe : IsAt σ G sv safe.recs
  cg : GrAt σ cv 3 cs.length cc mc
  ce : ∀ (k : Nat) (c : Cl), cs[k]? = some c → ∃ w, (cc.drop (k * 3)).take 3 = [.int .i64 (c.kind : Int), .int .i64 (c.i : Int), w] ∧ IsAt σ G w c.recs
  gg : G g.nat
  gc : G mc
  n1 : ¬ M g.nat
  n2 : ¬ M mc
  n3 : mc ≠ g.nat
theorem GmAt.calls (h : GmAt σ g G M l d L D rv mr now safe nv sv cv mc cs cc dead q) : CsAt σ cv cs mc := ⟨cc, h.cg.sl, fun k c hk => let ⟨w, a, m, b, _⟩ := h.ce k c hk; ⟨w, m, a, b⟩⟩
theorem GmAt.step (h : GmAt σ g G M l d L D rv mr now safe nv sv cv mc cs cc dead q) (ho : Ok σ) (hw : WL σ' G' l d L' D' rv' mr' M') (k : Keep M σ σ') (hg : Gr σ G G') (s : Sub σ M M') : GmAt σ' g G' M' l d L' D' rv' mr' now safe nv sv cv mc cs cc dead q := by
  have hMG := h.wl.hG
  have hgl := h.wl.gl
  refine ⟨k.old _ _ h.blk h.n1, hw, h.now.move ho k hMG hg, h.safe.move ho k hMG hg, h.cg.keep h.n2 k, fun j c hj => let ⟨w, a, b⟩ := h.ce j c hj; ⟨w, a, b.move ho k hMG hg⟩, hg.1 _ h.gg, hg.1 _ h.gc, fun hx => ?_, fun hx => ?_, h.n3⟩
  · rcases s _ hx with e | e
    · exact h.n1 e
    · have := hgl _ h.gg; omega
  · rcases s _ hx with e | e
    · exact h.n2 e
    · have := hgl _ h.gc; omega
theorem GmAt.k0 (h : GmAt σ g G M l d L D rv mr now safe nv sv cv mc cs cc dead q) (ho : Ok σ) (k : Keep0 σ σ') : GmAt σ' g G M l d L D rv mr now safe nv sv cv mc cs cc dead q :=
  h.step ho (h.wl.keep0 k) (Keep0.to k) (Gr.refl σ G) (Sub.refl σ M)
theorem GmAt.set (h : GmAt σ g G M l d L D rv mr now safe nv sv cv mc cs cc dead q) (ho : Ok σ) {now' safe' : Rw} {nv' sv' : AVal} {dead' : Bool} (hn : IsAt σ G nv' now'.recs) (hs : IsAt σ G sv' safe'.recs) :
    GmAt (σ.upd g ⟨0, .ex, gmCells d l now' safe' nv' sv' cv dead' q⟩) g G M l d L D rv mr now' safe' nv' sv' cv mc cs cc dead' q ∧ Keep (fun x => x = g.nat) σ (σ.upd g ⟨0, .ex, gmCells d l now' safe' nv' sv' cv dead' q⟩) := by
  have k : Keep (fun x => x = g.nat) σ (σ.upd g ⟨0, .ex, gmCells d l now' safe' nv' sv' cv dead' q⟩) := Keep.upd ho h.blk rfl
  have hN : ∀ x, x = g.nat → G x := fun x e => by rw [e]; exact h.gg
  refine ⟨⟨blk_upd_same _ _, h.wl.keepG ho k hN (fun x e => by rw [e]; exact h.n1) (Gr.refl σ G) (fun x hx => h.wl.gl x hx), hn.move ho k hN (Gr.refl σ G), hs.move ho k hN (Gr.refl σ G), h.cg.keep h.n3 k, fun j c hj => let ⟨w, a, b⟩ := h.ce j c hj; ⟨w, a, b.move ho k hN (Gr.refl σ G)⟩, h.gg, h.gc, h.n1, h.n2, h.n3⟩, k⟩
theorem GmAt.clear (h : GmAt σ g G M l d L D rv mr now safe nv sv cv mc cs cc dead q) (ho : Ok σ) :
    GmAt (σ.upd g ⟨0, .ex, gmCells d l now safe nv sv .nsl dead q⟩) g G M l d L D rv mr now safe nv sv .nsl mc [] [] dead q ∧ Keep (fun x => x = g.nat) σ (σ.upd g ⟨0, .ex, gmCells d l now safe nv sv .nsl dead q⟩) := by
  have k : Keep (fun x => x = g.nat) σ (σ.upd g ⟨0, .ex, gmCells d l now safe nv sv .nsl dead q⟩) := Keep.upd ho h.blk rfl
  have hN : ∀ x, x = g.nat → G x := fun x e => by rw [e]; exact h.gg
  refine ⟨⟨blk_upd_same _ _, h.wl.keepG ho k hN (fun x e => by rw [e]; exact h.n1) (Gr.refl σ G) (fun x hx => h.wl.gl x hx), h.now.move ho k hN (Gr.refl σ G), h.safe.move ho k hN (Gr.refl σ G), GrAt.nil _ _ _, fun j c hj => by simp at hj, h.gg, h.gc, h.n1, h.n2, h.n3⟩, k⟩
theorem GmAt.more (h : GmAt σ g G M l d L D rv mr now safe nv sv cv mc cs cc dead q) (ho : Ok σ) {c : Cl} {w x : AVal} {mx : Nat} (hw : IsAt σ G w c.recs) (hx : SlAt σ x 3 1 [.int .i64 (c.kind : Int), .int .i64 (c.i : Int), w] mx) (hn : cs.length ≤ 100000) :
    ∃ v σ1 σ2 G2 mc2 cc2, appendA 3 40 cv x σ = some (v, σ1) ∧ σ1.blk g = some ⟨0, .ex, gmCells d l now safe nv sv cv dead q⟩ ∧ σ2 = σ1.upd g ⟨0, .ex, gmCells d l now safe nv sv v dead q⟩ ∧ cellsOf v = some [v] ∧ GmAt σ2 g G2 M l d L D rv mr now safe nv sv v mc2 (cs ++ [c]) cc2 dead q ∧ Keep (fun y => y = mc ∨ y = g.nat) σ σ2 ∧ Gr σ G G2 ∧ Keep (fun y => y = mc) σ σ1 := by
  obtain ⟨v, σ1, mc2, a1, g1, k1, l1⟩ := append_gr ho h.cg hx.slLen (hx.slRead (Nat.le_refl 1)) (by show ([_, _, _] : List AVal).length = 1 * 3; rfl) (bytes := 40) (by omega)
  have b1 := k1.old _ _ h.blk (fun e => h.n3 e.symm)
  have hgl := h.wl.gl
  have hmcl := hgl _ h.gc
  have hggl := hgl _ h.gg
  have n1 := k1.next
  have k2 : Keep (fun y => y = g.nat) σ1 (σ1.upd g ⟨0, .ex, gmCells d l now safe nv sv v dead q⟩) := Keep.upd k1.ok b1 rfl
  have k12 : Keep (fun y => y = mc ∨ y = g.nat) σ (σ1.upd g ⟨0, .ex, gmCells d l now safe nv sv v dead q⟩) := (k1.mono fun x e => .inl e).trans (k2.mono fun x e => .inr e)
  have hN : ∀ y, (y = mc ∨ y = g.nat) → G y := fun y e => by
    rcases e with e | e
    · rw [e]; exact h.gc
    · rw [e]; exact h.gg
  have hm2 : mc2 ≠ g.nat := by
    rcases l1 with e | e
    · rw [e]; exact h.n3
    · omega
  have gr : Gr σ G (fun y => G y ∨ y = mc2) := ⟨fun y hy => .inl hy, fun y hy hg => by
    rcases hg with hg | hg
    · exact hg
    · rcases l1 with e | e
      · rw [hg, e]; exact h.gc
      · omega⟩
  have hnx : (σ1.upd g ⟨0, .ex, gmCells d l now safe nv sv v dead q⟩).next = σ1.next := rfl
  have hl2 : ∀ y, (G y ∨ y = mc2) → y < (σ1.upd g ⟨0, .ex, gmCells d l now safe nv sv v dead q⟩).next.nat := fun y hy => by
    rw [hnx]
    rcases hy with hy | hy
    · have := hgl y hy; omega
    · rcases l1 with e | e <;> omega
  refine ⟨v, σ1, _, fun y => G y ∨ y = mc2, mc2, cc ++ ([.int .i64 (c.kind : Int), .int .i64 (c.i : Int), w] : List AVal).take (1 * 3), a1, b1, rfl, g1.sl.cells, ⟨blk_upd_same _ _, h.wl.keepG ho k12 hN (fun y e => ?_) gr hl2, h.now.move ho k12 hN gr, h.safe.move ho k12 hN gr, ?_, fun j c' hj => ?_, .inl h.gg, .inr rfl, h.n1, fun hM => ?_, hm2⟩, k12, gr, k1⟩
  · rcases e with e | e
    · rw [e]; exact h.n2
    · rw [e]; exact h.n1
  · have := g1.keep (M := fun y => y = g.nat) hm2 k2
    rw [List.length_append]
    exact this
  · have hlen : cc.length = cs.length * 3 := h.cg.1
    by_cases hjl : j < cs.length
    · rw [List.getElem?_append_left hjl] at hj
      obtain ⟨w', a, b⟩ := h.ce j c' hj
      refine ⟨w', ?_, b.move ho k12 hN gr⟩
      have hle : (j + 1) * 3 ≤ cs.length * 3 := Nat.mul_le_mul_right _ hjl
      rw [List.drop_append_of_le_length (by omega), List.take_append_of_le_length (by rw [List.length_drop]; omega)]
      exact a
    · have hj' : j = cs.length := by
        have := (List.getElem?_eq_some_iff.1 hj).1
        rw [List.length_append, List.length_singleton] at this
        omega
      subst hj'
      rw [List.getElem?_append_right (Nat.le_refl _), Nat.sub_self] at hj
      cases hj
      refine ⟨w, ?_, hw.move ho k12 hN gr⟩
      rw [← hlen, List.drop_left]; rfl
  · rcases l1 with e | e
    · rw [e] at hM; exact h.n2 hM
    · have := h.wl.lt _ hM; omega
end
end Go.Am
