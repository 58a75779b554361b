/-
  What the functions do, as conditions over the evaluator. Conditions: none.
-/
import Derived.Test.YtdolmkdbpnlegaaGreatDoorS0
import Derived.Lib.AtoiAllCases
import Derived.Lib.ItoaMem
namespace Go.Am
section
variable {tab : Nat → Option PFn} {σ : S} {Q : AVal → S → Prop}
theorem SameO_of {o : Option AVal} {v : AVal} (h : o = some v) (hs : same v v = true) : SameO o v = true := by rw [h]; exact hs
theorem same_int (k : IntKind) (n : Int) : same (.int k n) (.int k n) = true := by
  show (match keq k k with | true => ieq n n | false => false) = true
  rw [keq_iff.2 rfl]; exact ieq_iff.2 rfl
theorem Sure_of {b : Bool} {A : Prop} (h : b = true) (k : A) : Sure b A := ⟨h, k⟩
theorem kind_c (h : Hs tab) {w : List Nat} (hQ : Q (.tup [.int .i64 (kindOf w), .int .i64 ((fieldsOf (kindOf w)).length : Int)]) σ) : WF tab 21 [.str w] σ Q := by
  refine f21_wf h.ht.t21 ?_
  unfold f21
  refine Som_of (bin_eql_str _ _ _) ?_
  refine WIf_dec (fun hk => ?_) (fun h1 => ?_)
  · have e1 : kindOf w = 1 := by rw [hk]; decide
    rw [e1] at hQ
    rw [Ret_2 rfl rfl]; exact hQ
  refine Som_of (bin_eql_str _ _ _) ?_
  refine WIf_dec (fun hk => ?_) (fun h3 => ?_)
  · have e1 : kindOf w = 3 := by rw [hk]; decide
    rw [e1] at hQ
    rw [Ret_2 rfl rfl]; exact hQ
  refine Som_of (bin_eql_str _ _ _) ?_
  refine WIf_dec (fun hk => ?_) (fun h2 => ?_)
  · have e1 : kindOf w = 2 := by rw [hk]; decide
    rw [e1] at hQ
    rw [Ret_2 rfl rfl]; exact hQ
  refine Som_of (bin_eql_str _ _ _) ?_
  refine WIf_dec (fun hk => ?_) (fun h7 => ?_)
  · have e1 : kindOf w = 7 := by rw [hk]; decide
    rw [e1] at hQ
    rw [Ret_2 rfl rfl]; exact hQ
  refine Som_of (bin_eql_str _ _ _) ?_
  refine WIf_dec (fun hk => ?_) (fun h4 => ?_)
  · have e1 : kindOf w = 4 := by rw [hk]; decide
    rw [e1] at hQ
    rw [Ret_2 rfl rfl]; exact hQ
  refine Som_of (bin_eql_str _ _ _) ?_
  refine WIf_dec (fun hk => ?_) (fun h5 => ?_)
  · have e1 : kindOf w = 5 := by rw [hk]; decide
    rw [e1] at hQ
    rw [Ret_2 rfl rfl]; exact hQ
  refine Som_of (bin_eql_str _ _ _) ?_
  refine WIf_dec (fun hk => ?_) (fun h6 => ?_)
  · have e1 : kindOf w = 6 := by rw [hk]; decide
    rw [e1] at hQ
    rw [Ret_2 rfl rfl]; exact hQ
  refine Som_of (bin_eql_str _ _ _) ?_
  refine WIf_dec (fun hk => ?_) (fun h8 => ?_)
  · have e1 : kindOf w = 8 := by rw [hk]; decide
    rw [e1] at hQ
    rw [Ret_2 rfl rfl]; exact hQ
  refine Som_of (bin_eql_str _ _ _) ?_
  refine WIf_dec (fun hk => ?_) (fun h12 => ?_)
  · have e1 : kindOf w = 12 := by rw [hk]; decide
    rw [e1] at hQ
    rw [Ret_2 rfl rfl]; exact hQ
  refine Som_of (bin_eql_str _ _ _) ?_
  refine WIf_dec (fun hk => ?_) (fun h10 => ?_)
  · have e1 : kindOf w = 10 := by rw [hk]; decide
    rw [e1] at hQ
    rw [Ret_2 rfl rfl]; exact hQ
  refine Som_of (bin_eql_str _ _ _) ?_
  refine WIf_dec (fun hk => ?_) (fun h11 => ?_)
  · have e1 : kindOf w = 11 := by rw [hk]; decide
    rw [e1] at hQ
    rw [Ret_2 rfl rfl]; exact hQ
  have e1 : kindOf w = 0 := by
    unfold kindOf
    rw [if_neg (show ¬ w = wordOf 1 from h1), if_neg (show ¬ w = wordOf 2 from h2), if_neg (show ¬ w = wordOf 3 from h3), if_neg (show ¬ w = wordOf 4 from h4), if_neg (show ¬ w = wordOf 5 from h5), if_neg (show ¬ w = wordOf 6 from h6),
      if_neg (show ¬ w = wordOf 7 from h7), if_neg (show ¬ w = wordOf 8 from h8), if_neg (show ¬ w = wordOf 10 from h10), if_neg (show ¬ w = wordOf 11 from h11), if_neg (show ¬ w = wordOf 12 from h12)]
  rw [e1] at hQ
  rw [Ret_2 rfl rfl]; exact hQ
def cntOf (w : List Nat) : Int := if kOf w = 0 then -1 else if kOf w = 3 then 6 else ((placesOf (kOf w)).length : Int)
theorem count_mid {w : List Nat} {E : En} {b : Bool} (h4 : E 4 = .bool b) (hE3 : E 3 = .str w) (hb : b = decide (w = calledOf 7 ∨ w = calledOf 2 ∨ w = calledOf 4 ∨ w = calledOf 6)) (hQ : Q (.int .i64 (cntOf w)) σ) : f34.p0 (WF tab) Q E σ := by
  unfold f34.p0
  rw [h4, hE3]
  cases b with
  | true =>
    rw [WIf_true]
    have e1 : cntOf w = 1 := by
      rcases of_decide_eq_true hb.symm with e | e | e | e <;> (rw [e]; decide)
    rw [e1] at hQ
    rw [Ret_1 rfl]; exact hQ
  | false =>
    rw [WIf_false]
    have hn := of_decide_eq_false hb.symm
    refine Som_of (bin_eql_str _ _ _) ?_
    refine WIf_dec (fun hk => ?_) (fun h5 => ?_)
    · have e1 : cntOf w = 2 := by rw [hk]; decide
      rw [e1] at hQ
      rw [Ret_1 rfl]; exact hQ
    refine Som_of (bin_eql_str _ _ _) ?_
    refine WIf_dec (fun hk => ?_) (fun h3 => ?_)
    · have e1 : cntOf w = 6 := by rw [hk]; decide
      rw [e1] at hQ
      rw [Ret_1 rfl]; exact hQ
    refine Som_of (bin_eql_str _ _ _) ?_
    refine WIf_dec (fun hk => ?_) (fun h1 => ?_)
    · have e1 : cntOf w = 10 := by rw [hk]; decide
      rw [e1] at hQ
      rw [Ret_1 rfl]; exact hQ
    have e1 : cntOf w = -1 := by
      have : kOf w = 0 := by
        unfold kOf
        rw [if_neg (show ¬ w = calledOf 1 from h1), if_neg (fun e => hn (.inr (.inl e))), if_neg (show ¬ w = calledOf 3 from h3), if_neg (fun e => hn (.inr (.inr (.inl e)))), if_neg (show ¬ w = calledOf 5 from h5), if_neg (fun e => hn (.inr (.inr (.inr e)))), if_neg (fun e => hn (.inl e))]
      unfold cntOf
      rw [this, if_pos rfl]
    rw [e1] at hQ
    rw [Ret_1 rfl]; exact hQ
theorem count_c (h : Hs tab) {w : List Nat} (hQ : Q (.int .i64 (cntOf w)) σ) : WF tab 34 [.str w] σ Q := by
  refine f34_wf h.ht.t34 ?_
  unfold f34
  refine Som_of (bin_eql_str _ _ _) ?_
  by_cases h7 : w = calledOf 7
  · rw [decide_eq_true (show w = [113, 117, 101, 114, 121] from h7), WIf_true]
    exact f34.p0_of (count_mid (b := true) rfl rfl (decide_eq_true (.inl h7)).symm hQ)
  rw [decide_eq_false (show ¬ w = [113, 117, 101, 114, 121] from h7), WIf_false]
  refine Som_of (bin_eql_str _ _ _) ?_
  by_cases h2 : w = calledOf 2
  · rw [decide_eq_true (show w = [99, 97, 110, 99, 101, 108] from h2), WIf_true]
    exact f34.p0_of (count_mid (b := true) rfl rfl (decide_eq_true (.inr (.inl h2))).symm hQ)
  rw [decide_eq_false (show ¬ w = [99, 97, 110, 99, 101, 108] from h2), WIf_false]
  refine Som_of (bin_eql_str _ _ _) ?_
  by_cases h4 : w = calledOf 4
  · rw [decide_eq_true (show w = [114, 101, 116, 105, 114, 101] from h4), WIf_true]
    exact f34.p0_of (count_mid (b := true) rfl rfl (decide_eq_true (.inr (.inr (.inl h4)))).symm hQ)
  rw [decide_eq_false (show ¬ w = [114, 101, 116, 105, 114, 101] from h4), WIf_false]
  refine Som_of (bin_eql_str _ _ _) ?_
  by_cases h6 : w = calledOf 6
  · rw [decide_eq_true (show w = [114, 101, 112, 108, 97, 110] from h6)]
    exact f34.p0_of (count_mid (b := true) rfl rfl (decide_eq_true (.inr (.inr (.inr h6)))).symm hQ)
  rw [decide_eq_false (show ¬ w = [114, 101, 112, 108, 97, 110] from h6)]
  exact f34.p0_of (count_mid (b := false) rfl rfl (decide_eq_false (by rintro (e | e | e | e) <;> contradiction)).symm hQ)
theorem InSl.get {v : AVal} {ns : List Int} {m k : Nat} {n : Int} (h : InSl σ v ns m) (hk : ns[k]? = some n) : ∃ p, vIxSl 1 v (.int .i64 (k : Int)) = some p ∧ vLoad1 p σ = some (.int .i64 n) := by
  have hlt : k < ns.length := (List.getElem?_eq_some_iff.1 hk).1
  obtain ⟨p, h1, h2⟩ := SlAt.get1 h hlt
  refine ⟨p, h1, h2.trans ?_⟩
  rw [List.getElem?_map, hk]; rfl
theorem site_c (h : Hs tab) (ho : Ok σ) {v : AVal} {a b c d : Int} {m : Nat} (hv : InSl σ v [a, b, c, d] m) (hQ : ∀ σ', Keep (fun _ => False) σ σ' → Q (.agg [.int .i64 a, .int .i64 b, .int .i64 c, .int .i64 d]) σ') : WF tab 35 [v] σ Q := by
  refine f35_wf h.ht.t35 ?_
  unfold f35
  refine Ala_of (b := ⟨0, .ex, [.int .i64 0, .int .i64 0, .int .i64 0, .int .i64 0]⟩) (mk := fun p => .ptr p 0) rfl ?_
  have k1 := Keep.new (M := fun _ => False) ho ⟨0, .ex, [.int .i64 0, .int .i64 0, .int .i64 0, .int .i64 0]⟩
  have b2 : (σ.new ⟨0, .ex, [.int .i64 0, .int .i64 0, .int .i64 0, .int .i64 0]⟩).blk σ.next = some ⟨0, .ex, [.int .i64 0, .int .i64 0, .int .i64 0, .int .i64 0]⟩ := by rw [blk_new, if_pos rfl]; rfl
  have kb := Keep.bump k1.ok 15 (M := fun _ => False)
  have k02 := k1.trans kb
  have b3 := kb.old _ _ b2 (fun e => e)
  generalize hσ2 : (σ.new ⟨0, .ex, [.int .i64 0, .int .i64 0, .int .i64 0, .int .i64 0]⟩).bumpT 15 = σ2 at kb k02 b3
  have hv2 : InSl σ2 v [a, b, c, d] m := SlAt.keep hv (fun _ e => e) k02
  obtain ⟨p0, g0, l0⟩ := hv2.get (k := 0) rfl
  obtain ⟨p1, g1, l1⟩ := hv2.get (k := 1) rfl
  obtain ⟨p2, g2, l2⟩ := hv2.get (k := 2) rfl
  obtain ⟨p3, g3, l3⟩ := hv2.get (k := 3) rfl
  refine Som_of g0 ?_
  refine Som_of l0 ?_
  refine Som_of g1 ?_
  refine Som_of l1 ?_
  refine Som_of g2 ?_
  refine Som_of l2 ?_
  refine Som_of (v := .agg [.int .i64 b, .int .i64 c]) rfl ?_
  refine Som_of g3 ?_
  refine Som_of l3 ?_
  refine Som_of (v := .agg [.int .i64 a, .int .i64 b, .int .i64 c, .int .i64 d]) rfl ?_
  refine Eff_of (stAll b3 rfl rfl (by omega)) ?_
  rw [ldAll (n := 4) (blk_upd_same _ _) rfl, Ret_1 rfl]
  exact hQ _ (k02.then ho (Keep.upd k02.ok b3 (c := ⟨0, .ex, [.int .i64 a, .int .i64 b, .int .i64 c, .int .i64 d]⟩) rfl) fun x hx e => by have : x = σ.next.nat := e; omega)
theorem two_of {α : Type} {l : List α} (h : l.length = 2) : ∃ a b, l = [a, b] := by
  match l, h with
  | [a, b], _ => exact ⟨a, b, rfl⟩
theorem last_of {α : Type} {l : List α} (h : l ≠ []) : l.getLast? = some (l.getLast h) := List.getLast?_eq_some_getLast h
theorem kOf_ne {w : List Nat} (h : kOf w ≠ 0) : w = calledOf (kOf w) := by
  unfold kOf at h ⊢
  by_cases h1 : w = calledOf 1
  · subst h1; decide
  by_cases h2 : w = calledOf 2
  · subst h2; decide
  by_cases h3 : w = calledOf 3
  · subst h3; decide
  by_cases h4 : w = calledOf 4
  · subst h4; decide
  by_cases h5 : w = calledOf 5
  · subst h5; decide
  by_cases h6 : w = calledOf 6
  · subst h6; decide
  by_cases h7 : w = calledOf 7
  · subst h7; decide
  rw [if_neg h1, if_neg h2, if_neg h3, if_neg h4, if_neg h5, if_neg h6, if_neg h7] at h
  exact absurd rfl h
theorem numsOf_init {ws : List (List Nat)} {l : List Nat} {ns : List Int} {n : Int} (h : numsOf (ws ++ [l]) = some (ns ++ [n])) : numsOf ws = some ns ∧ numOf l = some n := by
  cases hw : numsOf ws with
  | none =>
    have : numsOf (ws ++ [l]) = none := by
      clear h
      induction ws with
      | nil => cases hw
      | cons x ws ih =>
        simp only [List.cons_append, numsOf] at hw ⊢
        cases hx : numOf x with
        | none => rfl
        | some y =>
          rw [hx] at hw
          cases hws : numsOf ws with
          | none => rw [ih hws]
          | some z => rw [hws] at hw; cases hw
    rw [this] at h; cases h
  | some ms =>
    cases hl : numOf l with
    | none => rw [numsOf_none (by simp) hl] at h; cases h
    | some k =>
      rw [numsOf_snoc hw hl] at h
      have := Option.some.inj h
      obtain ⟨e1, e2⟩ := List.append_inj' this rfl
      cases e2
      exact ⟨by rw [e1], rfl⟩
theorem numOf_0 : numOf [48] = some 0 := numOf_iff.2 ⟨by rw [show (0 : Int) = ((0 : Nat) : Int) from rfl, itoaN_nonneg, decN_zero], by omega, by omega⟩
theorem numOf_1 : numOf [49] = some 1 := numOf_iff.2 ⟨by rw [show (1 : Int) = ((1 : Nat) : Int) from rfl, itoaN_nonneg, decN_lt (by omega)], by omega, by omega⟩
theorem numOf_inj {a b : List Nat} {n : Int} (h : numOf a = some n) (k : numOf b = some n) : a = b := by rw [← (numOf_iff.1 h).1, ← (numOf_iff.1 k).1]
theorem fill_no {ws : List (List Nat)} {ps : List Nat} {cs : List AVal} (h : ws.length ≠ ps.length ∨ numsOf ws = none) : fill ws ps cs = none := by
  unfold fill
  rcases h with h | h
  · rw [if_neg h]
  · rw [h]; split <;> rfl
theorem snoc_of {ws : List (List Nat)} {l : List Nat} (h : ws.getLast? = some l) : ws = ws.dropLast ++ [l] := by
  have hne : ws ≠ [] := by intro e; subst e; cases h
  have h1 := List.dropLast_concat_getLast hne
  rw [last_of hne] at h
  cases h; exact h1.symm
theorem cmdK_no {k : Int} {ws : List (List Nat)} (h : (ws.length : Int) ≠ (if k = 3 then 6 else ((placesOf k).length : Int)) ∨ numsOf ws = none) : cmdK k ws = none := by
  unfold cmdK
  by_cases h3 : k = 3
  · rw [if_pos h3]
    rw [if_pos h3] at h
    cases hl : ws.getLast? with
    | none => rfl
    | some l =>
      simp only
      split
      · rename_i hl01
        refine fill_no ?_
        rcases h with h | h
        · left
          rw [List.length_dropLast]
          show ws.length - 1 ≠ 5
          omega
        · right
          have hs := snoc_of hl
          obtain ⟨n, hn⟩ : ∃ n, numOf l = some n := by
            rcases hl01 with rfl | rfl
            · exact ⟨0, numOf_0⟩
            · exact ⟨1, numOf_1⟩
          cases hd : numsOf ws.dropLast with
          | none => rfl
          | some ns => rw [hs, numsOf_snoc hd hn] at h; cases h
      · rfl
  · rw [if_neg h3]
    rw [if_neg h3] at h
    exact fill_no (h.imp (fun e => by omega) id)
theorem cmdK_3 {ws : List (List Nat)} {a b c d e f : Int} (h : numsOf ws = some [a, b, c, d, e, f]) :
    cmdK 3 ws = if f = 0 ∨ f = 1 then some ((putAll (kc 3) [11, 12, 13, 14, 15] [a, b, c, d, e]).set 16 (.bool (decide (f = 1)))) else none := by
  have hlen := numsOf_len h
  have hne : ws ≠ [] := by intro e; subst e; simp at hlen
  have hl : ws.getLast? = some (ws.getLast hne) := last_of hne
  have hs := snoc_of hl
  generalize ws.getLast hne = l at hl hs
  have h2 : numsOf (ws.dropLast ++ [l]) = some ([a, b, c, d, e] ++ [f]) := by rw [← hs]; exact h
  obtain ⟨g1, g2⟩ := numsOf_init h2
  unfold cmdK
  rw [if_pos rfl, hl]
  simp only
  have h0 : l = [48] ↔ f = 0 := ⟨fun e => by subst e; rw [numOf_0] at g2; exact (Option.some.inj g2).symm, fun e => by subst e; exact numOf_inj g2 numOf_0⟩
  have h1 : l = [49] ↔ f = 1 := ⟨fun e => by subst e; rw [numOf_1] at g2; exact (Option.some.inj g2).symm, fun e => by subst e; exact numOf_inj g2 numOf_1⟩
  have hdl : ws.dropLast.length = (placesOf 3).length := by rw [List.length_dropLast, ← hlen]; rfl
  by_cases hf : f = 0 ∨ f = 1
  · rw [if_pos hf, if_pos (hf.imp h0.2 h1.2)]
    unfold fill
    rw [if_pos hdl, g1]
    by_cases hf1 : f = 1
    · rw [decide_eq_true (h1.2 hf1), decide_eq_true hf1]; rfl
    · rw [decide_eq_false (fun e => hf1 (h1.1 e)), decide_eq_false hf1]; rfl
  · rw [if_neg hf, if_neg (fun e => hf (e.imp h0.1 h1.1))]
theorem cmdK_n {k : Int} {ws : List (List Nat)} {ns : List Int} (h3 : k ≠ 3) (hl : ws.length = (placesOf k).length) (h : numsOf ws = some ns) : cmdK k ws = some (putAll (kc k) (placesOf k) ns) := by
  unfold cmdK fill
  rw [if_neg h3, if_pos hl, h]
theorem command_c (h : Hs tab) (ho : Ok σ) {wv : AVal} {ws : List (List Nat)} {mw : Nat} (hw : StSl σ wv ws mw) (hl : ws.length ≤ 100000)
    (hQ : ∀ c b σ', c.length = 19 → (b = true → cmdOf ws = some c) → (b = false → cmdOf ws = none) → Keep (fun _ => False) σ σ' → Q (.tup [.agg c, .bool b]) σ') : WF tab 20 [wv] σ Q := by
  refine f20_wf h.ht.t20 ?_
  unfold f20
  refine Ala_of (b := ⟨0, .ex, zero19⟩) (mk := fun p => .ptr p 0) rfl ?_
  have k1 := Keep.new (M := fun _ => False) ho ⟨0, .ex, zero19⟩
  generalize hσ1 : σ.new ⟨0, .ex, zero19⟩ = σ1 at k1
  have hn1 : σ1.next.nat = σ.next.nat + 1 := by rw [← hσ1, next_new, succ_nat]
  have b2 : σ1.blk σ.next = some ⟨0, .ex, zero19⟩ := by rw [← hσ1, blk_new, if_pos rfl]; rfl
  have out : ∀ (c : List AVal) (b : Bool) (σ' : S), c.length = 19 → (b = true → cmdOf ws = some c) → (b = false → cmdOf ws = none) → Keep (fun _ => False) σ1 σ' →
      Eff (storeW 19 (.ptr σ.next 0) (.agg c) σ') fun _ σ9 => Ret [vLoadN 19 (.ptr σ.next 0) σ9, some (.bool b)] σ9 Q := by
    intro c b σ' hc ht hf k
    refine put_end k.ok rfl (k.old _ _ b2 fun e => e) rfl hc (by omega) fun σ'' k'' => hQ c b σ'' hc ht hf ?_
    exact (k1.trans k).then ho k'' fun x hx e => by omega
  have hw1 := SlAt.keep hw (fun _ e => e) k1
  refine Som_of hw1.len ?_
  refine Som_of (bin_eql _ _ _ _) ?_
  cases ws with
  | nil =>
    rw [decide_eq_true (by rfl)]
    refine Sn_of rfl ?_
    refine Sn_of rfl ?_
    refine Sn_of rfl ?_
    refine GE_n rfl ?_
    refine Sn_of rfl ?_
    refine Som_of (vPick_true _ _) ?_
    rw [WIf_true]
    refine Som_of (v := .agg zero19) rfl ?_
    exact out zero19 false σ1 rfl (fun e => by cases e) (fun _ => rfl) (Keep.refl k1.ok)
  | cons w ws =>
    rw [decide_eq_false (by simp; omega)]
    have hcmd : cmdOf (w :: ws) = if kOf w = 0 then none else cmdK (kOf w) ws := rfl
    obtain ⟨p, g1, g2⟩ := StSl.head hw1
    refine Sq_of rfl rfl ?_
    refine Sq_of rfl g1 ?_
    refine Sq_of rfl g2 ?_
    refine GE_t rfl ?_
    refine count_c h ?_
    refine Sq_of rfl (bin_lss _ _ _ _) ?_
    refine Som_of (vPick_false _ _) ?_
    have hkr : kOf w = 0 ∨ (1 ≤ kOf w ∧ kOf w ≤ 7) := by
      unfold kOf
      repeat' split
      all_goals omega
    refine WIf_dec (fun hneg => ?_) (fun hneg => ?_)
    · have h0 : kOf w = 0 := by
        rcases hkr with e | e
        · exact e
        · exfalso
          unfold cntOf at hneg
          rw [if_neg (by omega)] at hneg
          split at hneg <;> omega
      refine Som_of (v := .agg zero19) rfl ?_
      exact out zero19 false σ1 rfl (fun e => by cases e) (fun _ => by rw [hcmd, if_pos h0]) (Keep.refl k1.ok)
    · have hk0 : kOf w ≠ 0 := by
        intro e
        unfold cntOf at hneg
        rw [if_pos e] at hneg
        omega
      have hk := hkr.resolve_left hk0
      rw [if_neg hk0] at hcmd
      have hcnt : cntOf w = if kOf w = 3 then 6 else ((placesOf (kOf w)).length : Int) := by unfold cntOf; rw [if_neg hk0]
      obtain ⟨rv, g3, g4⟩ := StSl.tail hw1
      refine Som_of g3 ?_
      refine Som_of g1 ?_
      have kb := Keep.bump k1.ok 12 (M := fun _ => False)
      have hwb : StSl (σ1.bumpT 12) wv (w :: ws) mw := SlAt.keep hw1 (fun _ e => e) kb
      obtain ⟨p', g1', g2'⟩ := StSl.head hwb
      have hpp : p' = p := Option.some.inj (g1'.symm.trans g1)
      rw [hpp] at g2'
      refine Som_of g2' ?_
      refine count_c h ?_
      refine rnums_c h kb.ok (SlAt.keep g4 (fun _ e => e) kb) (by simp at hl; omega) (fun v m σ4 ns hlen hns hv hv1 hm k4 => ?_) (fun σ4 hno k4 => ?_)
      · refine Som_of rfl ?_
        refine Som_of rfl ?_
        refine Som_of (un_not _) ?_
        show WIf (.bool false) _ _
        rw [WIf_false]
        have k14 := kb.trans k4
        have hw4 : StSl σ4 wv (w :: ws) mw := SlAt.keep hw1 (fun _ e => e) k14
        obtain ⟨p'', g1'', g2''⟩ := StSl.head hw4
        refine Som_of g1'' ?_
        refine Som_of g2'' ?_
        have hnl := numsOf_len hns
        have hwk : w = calledOf (kOf w) := kOf_ne hk0
        have hcase : kOf w = 7 ∨ kOf w = 2 ∨ kOf w = 4 ∨ kOf w = 6 ∨ kOf w = 5 ∨ kOf w = 3 ∨ kOf w = 1 := by omega
        generalize kOf w = k at hcmd hcnt hwk hcase
        subst hwk
        rw [hcnt] at hlen
        rcases hcase with rfl | rfl | rfl | rfl | rfl | rfl | rfl
        · obtain ⟨n0, rfl⟩ : ∃ n0, ns = [n0] := by
            have : ns.length = 1 := by rw [hnl]; have : (ws.length : Int) = 1 := hlen; omega
            exact List.length_eq_one_iff.1 this
          refine Som_of (v := .bool true) rfl ?_
          rw [WIf_true]
          obtain ⟨q0, u0, l0⟩ := hv.get (k := 0) rfl
          refine Som_of u0 ?_
          refine Som_of l0 ?_
          refine Som_of (v := .agg (putAll (kc 7) (placesOf 7) [n0])) rfl ?_
          exact out _ true σ4 rfl (fun _ => hcmd.trans (cmdK_n (by decide) (by have : (ws.length : Int) = 1 := hlen; show ws.length = 1; omega) hns)) (fun e => by cases e) k14
        · obtain ⟨n0, rfl⟩ : ∃ n0, ns = [n0] := by
            have : ns.length = 1 := by rw [hnl]; have : (ws.length : Int) = 1 := hlen; omega
            exact List.length_eq_one_iff.1 this
          refine Som_of (v := .bool false) rfl ?_
          rw [WIf_false]
          refine Som_of (v := .bool true) rfl ?_
          rw [WIf_true]
          obtain ⟨q0, u0, l0⟩ := hv.get (k := 0) rfl
          refine Som_of u0 ?_
          refine Som_of l0 ?_
          refine Som_of (v := .agg (putAll (kc 2) (placesOf 2) [n0])) rfl ?_
          exact out _ true σ4 rfl (fun _ => hcmd.trans (cmdK_n (by decide) (by have : (ws.length : Int) = 1 := hlen; show ws.length = 1; omega) hns)) (fun e => by cases e) k14
        · obtain ⟨n0, rfl⟩ : ∃ n0, ns = [n0] := by
            have : ns.length = 1 := by rw [hnl]; have : (ws.length : Int) = 1 := hlen; omega
            exact List.length_eq_one_iff.1 this
          refine Som_of (v := .bool false) rfl ?_
          rw [WIf_false]
          refine Som_of (v := .bool false) rfl ?_
          rw [WIf_false]
          refine Som_of (v := .bool true) rfl ?_
          rw [WIf_true]
          obtain ⟨q0, u0, l0⟩ := hv.get (k := 0) rfl
          refine Som_of u0 ?_
          refine Som_of l0 ?_
          refine Som_of (v := .agg (putAll (kc 4) (placesOf 4) [n0])) rfl ?_
          exact out _ true σ4 rfl (fun _ => hcmd.trans (cmdK_n (by decide) (by have : (ws.length : Int) = 1 := hlen; show ws.length = 1; omega) hns)) (fun e => by cases e) k14
        · obtain ⟨n0, rfl⟩ : ∃ n0, ns = [n0] := by
            have : ns.length = 1 := by rw [hnl]; have : (ws.length : Int) = 1 := hlen; omega
            exact List.length_eq_one_iff.1 this
          refine Som_of (v := .bool false) rfl ?_
          rw [WIf_false]
          refine Som_of (v := .bool false) rfl ?_
          rw [WIf_false]
          refine Som_of (v := .bool false) rfl ?_
          rw [WIf_false]
          refine Som_of (v := .bool true) rfl ?_
          rw [WIf_true]
          obtain ⟨q0, u0, l0⟩ := hv.get (k := 0) rfl
          refine Som_of u0 ?_
          refine Som_of l0 ?_
          refine Som_of (v := .agg (putAll (kc 6) (placesOf 6) [n0])) rfl ?_
          exact out _ true σ4 rfl (fun _ => hcmd.trans (cmdK_n (by decide) (by have : (ws.length : Int) = 1 := hlen; show ws.length = 1; omega) hns)) (fun e => by cases e) k14
        · obtain ⟨n0, n1, rfl⟩ : ∃ n0 n1, ns = [n0, n1] := by
            have : ns.length = 2 := by rw [hnl]; have : (ws.length : Int) = 2 := hlen; omega
            exact two_of this
          refine Som_of (v := .bool false) rfl ?_
          rw [WIf_false]
          refine Som_of (v := .bool false) rfl ?_
          rw [WIf_false]
          refine Som_of (v := .bool false) rfl ?_
          rw [WIf_false]
          refine Som_of (v := .bool false) rfl ?_
          rw [WIf_false]
          refine Som_of (v := .bool true) rfl ?_
          rw [WIf_true]
          have kb2 := Keep.bump k4.ok 9 (M := fun _ => False)
          have hvb : InSl (σ4.bumpT 9) v [n0, n1] m := SlAt.keep hv (fun _ e => e) kb2
          obtain ⟨q0, u0, l0⟩ := hvb.get (k := 0) rfl
          obtain ⟨q1, u1, l1⟩ := hvb.get (k := 1) rfl
          refine Som_of u0 ?_
          refine Som_of l0 ?_
          refine Som_of u1 ?_
          refine Som_of l1 ?_
          refine Som_of (v := .agg (putAll (kc 5) (placesOf 5) [n0, n1])) rfl ?_
          exact out _ true _ rfl (fun _ => hcmd.trans (cmdK_n (by decide) (by have : (ws.length : Int) = 2 := hlen; show ws.length = 2; omega) hns)) (fun e => by cases e) (k14.trans kb2)
        · obtain ⟨n0, n1, n2, n3, n4, n5, rfl⟩ : ∃ n0 n1 n2 n3 n4 n5, ns = [n0, n1, n2, n3, n4, n5] := by
            have h6 : ns.length = 6 := by rw [hnl]; have : (ws.length : Int) = 6 := hlen; omega
            match ns, h6 with
            | [a, b, c, d, e, f], _ => exact ⟨a, b, c, d, e, f, rfl⟩
          refine Som_of (v := .bool false) rfl ?_
          rw [WIf_false]
          refine Som_of (v := .bool false) rfl ?_
          rw [WIf_false]
          refine Som_of (v := .bool false) rfl ?_
          rw [WIf_false]
          refine Som_of (v := .bool false) rfl ?_
          rw [WIf_false]
          refine Som_of (v := .bool false) rfl ?_
          rw [WIf_false]
          refine Som_of (v := .bool true) rfl ?_
          rw [WIf_true]
          have kb2 := Keep.bump k4.ok 23 (M := fun _ => False)
          have hvb : InSl (σ4.bumpT 23) v [n0, n1, n2, n3, n4, n5] m := SlAt.keep hv (fun _ e => e) kb2
          obtain ⟨q0, u0, l0⟩ := hvb.get (k := 0) rfl
          obtain ⟨q1, u1, l1⟩ := hvb.get (k := 1) rfl
          obtain ⟨q2, u2, l2⟩ := hvb.get (k := 2) rfl
          obtain ⟨q3, u3, l3⟩ := hvb.get (k := 3) rfl
          obtain ⟨q4, u4, l4⟩ := hvb.get (k := 4) rfl
          obtain ⟨q5, u5, l5⟩ := hvb.get (k := 5) rfl
          refine Som_of u0 ?_
          refine Som_of l0 ?_
          refine Som_of u1 ?_
          refine Som_of l1 ?_
          refine Som_of u2 ?_
          refine Som_of l2 ?_
          refine Som_of u3 ?_
          refine Som_of l3 ?_
          refine Som_of u4 ?_
          refine Som_of l4 ?_
          refine Som_of (v := .agg [.int .i64 n3, .int .i64 n4]) rfl ?_
          refine Som_of u5 ?_
          refine Som_of l5 ?_
          refine Som_of (bin_eql _ _ _ _) ?_
          refine Som_of (v := .agg [.int .i64 n0, .int .i64 n1, .int .i64 n2, .int .i64 n3, .int .i64 n4, .bool (decide (n5 = 1))]) rfl ?_
          refine Alb_of (b := ⟨0, .ex, [.int .i64 0, .int .i64 0, .int .i64 0, .int .i64 0, .int .i64 0, .bool false]⟩) (mk := fun p => .ptr p 0) rfl ?_
          obtain ⟨kd, _, _⟩ := kb2.layD ⟨0, .ex, [.int .i64 0, .int .i64 0, .int .i64 0, .int .i64 0, .int .i64 0, .bool false]⟩ (Unused_plus (i := 21) (n := 23) k4.ok) (by rw [plusT_nat]; omega) (by rw [next_bump, plusT_nat]; omega)
          have b6 : ((σ4.bumpT 23).lay (Pos.plusT 21 σ4.next) (Blk.named ⟨0, .ex, [.int .i64 0, .int .i64 0, .int .i64 0, .int .i64 0, .int .i64 0, .bool false]⟩ (Pos.plusT 21 σ4.next))).blk (Pos.plusT 21 σ4.next) = some ⟨0, .ex, [.int .i64 0, .int .i64 0, .int .i64 0, .int .i64 0, .int .i64 0, .bool false]⟩ := by rw [blk_lay, if_pos rfl]; rfl
          generalize hσ5 : (σ4.bumpT 23).lay (Pos.plusT 21 σ4.next) (Blk.named ⟨0, .ex, [.int .i64 0, .int .i64 0, .int .i64 0, .int .i64 0, .int .i64 0, .bool false]⟩ (Pos.plusT 21 σ4.next)) = σ5 at kd b6
          refine Eff_of (stAll b6 rfl rfl (by omega)) ?_
          have ku := Keep.upd kd.ok b6 (c := ⟨0, .ex, [.int .i64 n0, .int .i64 n1, .int .i64 n2, .int .i64 n3, .int .i64 n4, .bool (decide (n5 = 1))]⟩) rfl
          have ku4 : Keep (fun _ => False) σ4 _ := kd.then k4.ok ku fun x hx e => by have : x = (Pos.plusT 21 σ4.next).nat := e; rw [plusT_nat] at this; omega
          have b6u := blk_upd_same (σ := σ5) (Pos.plusT 21 σ4.next) ⟨0, .ex, [.int .i64 n0, .int .i64 n1, .int .i64 n2, .int .i64 n3, .int .i64 n4, .bool (decide (n5 = 1))]⟩
          have kb3 := Keep.bump ku.ok 14 (M := fun _ => False)
          have b6b := kb3.old _ _ b6u (fun e => e)
          have k46 := ku4.trans kb3
          generalize hσ6 : (σ5.upd (Pos.plusT 21 σ4.next) ⟨0, .ex, [.int .i64 n0, .int .i64 n1, .int .i64 n2, .int .i64 n3, .int .i64 n4, .bool (decide (n5 = 1))]⟩).bumpT 14 = σ6 at kb3 b6b k46
          refine Som_of (ldAll (n := 6) b6b rfl) ?_
          refine Som_of (v := .agg ((putAll (kc 3) [11, 12, 13, 14, 15] [n0, n1, n2, n3, n4]).set 16 (.bool (decide (n5 = 1))))) rfl ?_
          have hv6 : InSl σ6 v [n0, n1, n2, n3, n4, n5] m := SlAt.keep hv (fun _ e => e) k46
          obtain ⟨r5, w5, x5⟩ := hv6.get (k := 5) rfl
          refine Som_of w5 ?_
          refine Som_of x5 ?_
          refine Som_of (bin_eql _ _ _ _) ?_
          have h3 := cmdK_3 hns
          have k16 := k14.trans k46
          have b26 := k16.old _ _ b2 (fun e => e)
          have ks := Keep.upd k46.ok b26 (c := ⟨0, .ex, (putAll (kc 3) [11, 12, 13, 14, 15] [n0, n1, n2, n3, n4]).set 16 (.bool (decide (n5 = 1)))⟩) rfl
          have ks : Keep (fun x => x = σ.next.nat) σ6 _ := ks
          have fin : ∀ b : Bool, (b = true → cmdOf (calledOf 3 :: ws) = some ((putAll (kc 3) [11, 12, 13, 14, 15] [n0, n1, n2, n3, n4]).set 16 (.bool (decide (n5 = 1))))) → (b = false → cmdOf (calledOf 3 :: ws) = none) →
              Ret [vLoadN 19 (.ptr σ.next 0) (σ6.upd σ.next ⟨0, .ex, (putAll (kc 3) [11, 12, 13, 14, 15] [n0, n1, n2, n3, n4]).set 16 (.bool (decide (n5 = 1)))⟩), some (.bool b)] (σ6.upd σ.next ⟨0, .ex, (putAll (kc 3) [11, 12, 13, 14, 15] [n0, n1, n2, n3, n4]).set 16 (.bool (decide (n5 = 1)))⟩) Q := by
            intro b ht hf
            rw [ldAll (n := 19) (blk_upd_same _ _) rfl, Ret_2 rfl rfl]
            exact hQ _ b _ rfl ht hf ((k1.trans k16).then ho ks fun x hx e => by omega)
          by_cases h50 : n5 = 0
          · rw [decide_eq_true h50]
            refine Sn_of rfl ?_
            refine Sn_of rfl ?_
            refine Sn_of rfl ?_
            refine Sn_of rfl ?_
            refine Som_of (vPick_true _ _) ?_
            refine Eff_of (stAll b26 rfl rfl (by omega)) ?_
            refine Sure_of rfl ?_
            exact fin true (fun _ => by rw [hcmd, h3, if_pos (.inl h50)]) (fun e => by cases e)
          · rw [decide_eq_false h50]
            refine Sq_of rfl rfl ?_
            refine Sq_of rfl w5 ?_
            refine Sq_of rfl x5 ?_
            refine Sq_of rfl (bin_eql _ _ _ _) ?_
            refine Som_of (vPick_false _ _) ?_
            refine Eff_of (stAll b26 rfl rfl (by omega)) ?_
            have hv7 : InSl _ v [n0, n1, n2, n3, n4, n5] m := SlAt.keep hv6 (fun _ e => by have := k1.next; have := kb.next; omega) ks
            obtain ⟨r7, w7, x7⟩ := hv7.get (k := 5) rfl
            have hr7 : r7 = r5 := Option.some.inj (w7.symm.trans w5)
            rw [hr7] at x7
            refine Sure_of (by rw [SameO_of x7 (same_int _ _)]; rfl) ?_
            by_cases h51 : n5 = 1
            · rw [decide_eq_true h51]
              rw [decide_eq_true h51] at fin
              exact fin true (fun _ => by rw [hcmd, h3, if_pos (.inr h51), decide_eq_true h51]) (fun e => by cases e)
            · rw [decide_eq_false h51]
              rw [decide_eq_false h51] at fin
              exact fin false (fun e => by cases e) (fun _ => by rw [hcmd, h3, if_neg (fun e => e.elim h50 h51)])
        · obtain ⟨n0, n1, n2, n3, n4, n5, n6, n7, n8, n9, rfl⟩ : ∃ n0 n1 n2 n3 n4 n5 n6 n7 n8 n9, ns = [n0, n1, n2, n3, n4, n5, n6, n7, n8, n9] := by
            have h10 : ns.length = 10 := by rw [hnl]; have : (ws.length : Int) = 10 := hlen; omega
            match ns, h10 with
            | [a, b, c, d, e, f, g, h, i, j], _ => exact ⟨a, b, c, d, e, f, g, h, i, j, rfl⟩
          refine Som_of (v := .bool false) rfl ?_
          rw [WIf_false]
          refine Som_of (v := .bool false) rfl ?_
          rw [WIf_false]
          refine Som_of (v := .bool false) rfl ?_
          rw [WIf_false]
          refine Som_of (v := .bool false) rfl ?_
          rw [WIf_false]
          refine Som_of (v := .bool false) rfl ?_
          rw [WIf_false]
          refine Som_of (v := .bool false) rfl ?_
          rw [WIf_false]
          have kb2 := Keep.bump k4.ok 15 (M := fun _ => False)
          have hvb : InSl (σ4.bumpT 15) v [n0, n1, n2, n3, n4, n5, n6, n7, n8, n9] m := SlAt.keep hv (fun _ e => e) kb2
          obtain ⟨q0, u0, l0⟩ := hvb.get (k := 0) rfl
          obtain ⟨q1, u1, l1⟩ := hvb.get (k := 1) rfl
          refine Som_of u0 ?_
          refine Som_of l0 ?_
          refine Som_of u1 ?_
          refine Som_of l1 ?_
          obtain ⟨va, ca, da⟩ := SlAt.cutLH hvb (lo := 2) (hi := 6) (by omega) (by simp)
          obtain ⟨vb, cb, db⟩ := SlAt.cutLH hvb (lo := 6) (hi := 10) (by omega) (by simp)
          have da : InSl (σ4.bumpT 15) va [n2, n3, n4, n5] m := da
          have db : InSl (σ4.bumpT 15) vb [n6, n7, n8, n9] m := db
          refine Som_of ca ?_
          refine Som_of cb ?_
          refine site_c h kb2.ok da fun σ5 k5 => ?_
          have hv5 : InSl σ5 v [n0, n1, n2, n3, n4, n5, n6, n7, n8, n9] m := SlAt.keep hvb (fun _ e => e) k5
          obtain ⟨r0, w0, x0⟩ := hv5.get (k := 0) rfl
          obtain ⟨r1, w1, x1⟩ := hv5.get (k := 1) rfl
          rw [Option.some.inj (w0.symm.trans u0)] at x0
          rw [Option.some.inj (w1.symm.trans u1)] at x1
          refine Sure_of (SameO_of x0 (same_int _ _)) ?_
          refine Sure_of (SameO_of x1 (same_int _ _)) ?_
          refine site_c h k5.ok (SlAt.keep db (fun _ e => e) k5) fun σ6 k6 => ?_
          have hv6 : InSl σ6 v [n0, n1, n2, n3, n4, n5, n6, n7, n8, n9] m := SlAt.keep hv5 (fun _ e => e) k6
          obtain ⟨s0, y0, z0⟩ := hv6.get (k := 0) rfl
          obtain ⟨s1, y1, z1⟩ := hv6.get (k := 1) rfl
          rw [Option.some.inj (y0.symm.trans u0)] at z0
          rw [Option.some.inj (y1.symm.trans u1)] at z1
          refine Sure_of (SameO_of z0 (same_int _ _)) ?_
          refine Sure_of (SameO_of z1 (same_int _ _)) ?_
          refine Som_of (v := .agg [.int .i64 n0, .int .i64 n1, .int .i64 n2, .int .i64 n3, .int .i64 n4, .int .i64 n5, .int .i64 n6, .int .i64 n7, .int .i64 n8, .int .i64 n9]) rfl ?_
          refine Alb_of (b := ⟨0, .ex, [.int .i64 0, .int .i64 0, .int .i64 0, .int .i64 0, .int .i64 0, .int .i64 0, .int .i64 0, .int .i64 0, .int .i64 0, .int .i64 0]⟩) (mk := fun p => .ptr p 0) rfl ?_
          have k46 : Keep (fun _ => False) σ4 σ6 := (kb2.trans k5).trans k6
          have hun : Unused σ6 (Pos.plusT 13 σ4.next) := k6.unused _ (by have := k5.next; rw [plusT_nat]; have := next_bump (σ := σ4) 15; omega) (k5.unused _ (by rw [plusT_nat, next_bump]; omega) (Unused_plus (i := 13) (n := 15) k4.ok))
          obtain ⟨kd, _, _⟩ := k46.layD ⟨0, .ex, [.int .i64 0, .int .i64 0, .int .i64 0, .int .i64 0, .int .i64 0, .int .i64 0, .int .i64 0, .int .i64 0, .int .i64 0, .int .i64 0]⟩ hun (by rw [plusT_nat]; omega) (by rw [plusT_nat]; have := k5.next; have := k6.next; have := next_bump (σ := σ4) 15; omega)
          have b7 : (σ6.lay (Pos.plusT 13 σ4.next) (Blk.named ⟨0, .ex, [.int .i64 0, .int .i64 0, .int .i64 0, .int .i64 0, .int .i64 0, .int .i64 0, .int .i64 0, .int .i64 0, .int .i64 0, .int .i64 0]⟩ (Pos.plusT 13 σ4.next))).blk (Pos.plusT 13 σ4.next) = some ⟨0, .ex, [.int .i64 0, .int .i64 0, .int .i64 0, .int .i64 0, .int .i64 0, .int .i64 0, .int .i64 0, .int .i64 0, .int .i64 0, .int .i64 0]⟩ := by rw [blk_lay, if_pos rfl]; rfl
          generalize hσ7 : σ6.lay (Pos.plusT 13 σ4.next) (Blk.named ⟨0, .ex, [.int .i64 0, .int .i64 0, .int .i64 0, .int .i64 0, .int .i64 0, .int .i64 0, .int .i64 0, .int .i64 0, .int .i64 0, .int .i64 0]⟩ (Pos.plusT 13 σ4.next)) = σ7 at kd b7
          refine Eff_of (stAll b7 rfl rfl (by omega)) ?_
          have ku := Keep.upd kd.ok b7 (c := ⟨0, .ex, [.int .i64 n0, .int .i64 n1, .int .i64 n2, .int .i64 n3, .int .i64 n4, .int .i64 n5, .int .i64 n6, .int .i64 n7, .int .i64 n8, .int .i64 n9]⟩) rfl
          have ku4 : Keep (fun _ => False) σ4 _ := kd.then k4.ok ku fun x hx e => by have : x = (Pos.plusT 13 σ4.next).nat := e; rw [plusT_nat] at this; omega
          refine Som_of (ldAll (n := 10) (blk_upd_same _ _) rfl) ?_
          refine Som_of (v := .agg (putAll (kc 1) (placesOf 1) [n0, n1, n2, n3, n4, n5, n6, n7, n8, n9])) rfl ?_
          exact out _ true _ rfl (fun _ => hcmd.trans (cmdK_n (by decide) (by have : (ws.length : Int) = 10 := hlen; show ws.length = 10; omega) hns)) (fun e => by cases e) (k14.trans ku4)
      · refine Som_of (v := .nsl) rfl ?_
        refine Som_of (v := .bool false) rfl ?_
        refine Som_of (un_not _) ?_
        show WIf (.bool true) _ _
        rw [WIf_true]
        refine Som_of (v := .agg zero19) rfl ?_
        refine out zero19 false σ4 rfl (fun e => by cases e) (fun _ => hcmd.trans (cmdK_no ?_)) (kb.trans k4)
        rw [hcnt] at hno
        exact hno
end
end Go.Am
namespace Go.Am
section
variable {tab : Nat → Option PFn} {σ : S} {Q : AVal → S → Prop}
theorem numOf_nil : numOf [] = none := rfl
theorem nil_nums {ws : List (List Nat)} (h : [] ∈ ws) : numsOf ws = none := numsOf_none h numOf_nil
theorem nil_cmd {ws : List (List Nat)} (h : [] ∈ ws) : cmdOf ws = none := by
  cases ws with
  | nil => rfl
  | cons x r =>
    show (if kOf x = 0 then none else cmdK (kOf x) r) = none
    split
    · rfl
    · rename_i h0
      rcases List.mem_cons.1 h with e | e
      · rw [← e] at h0; exact absurd (by decide) h0
      · exact cmdK_no (.inr (nil_nums e))
theorem nil_step {w : List Nat} {ws : List (List Nat)} (h : [] ∈ w :: ws) : stepOf w ws = none := by
  unfold stepOf
  rcases List.mem_cons.1 h with e | e
  · rw [← e, if_neg (by decide), if_pos (by decide)]
  · split
    · unfold callOf
      split
      · rfl
      · by_cases h2 : [] ∈ ws.take 2
        · rw [nil_nums h2]
        · have h3 : [] ∈ ws.drop 2 := by
            have := (List.take_append_drop 2 ws).symm ▸ e
            exact (List.mem_append.1 this).resolve_left h2
          rw [nil_cmd h3]
          cases numsOf (ws.take 2) <;> rfl
    · split
      · rfl
      · exact fill_no (.inr (nil_nums e))
theorem build1 {zs c : List AVal} {o n : Nat} (hc : c.length = n) (hz : o + n ≤ zs.length) : vBuild zs [(o, n, .agg c)] = some (.agg (zs.take o ++ c ++ zs.drop (o + n))) := by
  unfold vBuild fillA
  show andThen (test (Nat.beq (lenN c) n) (andThen (putN o c zs) fun cells => fillA cells [])) _ = _
  rw [lenN_eq, hc, Nat.beq_refl, test_tt, putN_of (by omega), andThen_s, hc]
  rfl
theorem hmint (ho : Ok σ) {v : AVal} {n : Int} {ns : List Int} {m : Nat} (h : InSl σ v (n :: ns) m) : m < σ.next.nat := by
  obtain ⟨h0, h⟩ := h
  cases v with
  | nsl => have h : (n :: ns).length = 0 := h; simp at h
  | sl b o len cap =>
    obtain ⟨_, _, h3⟩ := h
    obtain ⟨blk, g1, g2, _⟩ := h3 (by simp)
    rw [← g2]; exact ho.ow_lt g1
  | slu b o len z =>
    obtain ⟨_, _, h3⟩ := h
    obtain ⟨blk, g1, g2, _⟩ := h3 (by simp)
    rw [← g2]; exact ho.ow_lt g1
  | _ => exact h.elim
theorem rparse_end {E : En} {p2 p14 : Pos} {z cs : List AVal} (ho : Ok σ) (h2 : E 2 = .ptr p2 0) (h14 : E 14 = .ptr p14 0) (b2 : σ.blk p2 = some ⟨0, .ex, z⟩) (hz : z.length = 25) (b14 : σ.blk p14 = some ⟨0, .ex, cs⟩) (hcs : cs.length = 25)
    (hQ : ∀ σ', Keep (fun x => x = p2.nat) σ σ' → Q (.tup [.agg cs, .int .i64 0]) σ') : f7.p0 (WF tab) Q E σ := by
  unfold f7.p0
  rw [h14, h2]
  refine Som_of (ldAll (n := 25) b14 hcs) ?_
  exact put_end ho rfl b2 hz hcs (by omega) hQ
theorem rParse_c (h : Hs tab) (ho : Ok σ) {s : List Nat} (hQ : ∀ σ', Keep (fun _ => False) σ σ' → Q (parseV (parseOf s)) σ') : WF tab 7 [.str s] σ Q := by
  refine f7_wf h.ht.t7 ?_
  unfold f7
  refine Ala_of (b := ⟨0, .ex, zero25⟩) (mk := fun p => .ptr p 0) rfl ?_
  have k1 := Keep.new (M := fun _ => False) ho ⟨0, .ex, zero25⟩
  generalize hσ1 : σ.new ⟨0, .ex, zero25⟩ = σ1 at k1
  have hn1 : σ1.next.nat = σ.next.nat + 1 := by rw [← hσ1, next_new, succ_nat]
  have b2 : σ1.blk σ.next = some ⟨0, .ex, zero25⟩ := by rw [← hσ1, blk_new, if_pos rfl]; rfl
  have fin : ∀ σ', Keep (fun x => x = σ.next.nat) σ1 σ' → Keep (fun _ => False) σ σ' := fun σ' k => k1.then ho k fun x hx e => by omega
  refine Som_of (vLenStr_str _) ?_
  refine Som_of (bin_gtr _ _ _ _) ?_
  refine WIf_dec (fun hlong => ?_) (fun hlong => ?_)
  · refine Som_of (v := .agg zero25) rfl ?_
    refine put_end k1.ok rfl b2 rfl rfl (by omega) fun σ' k' => ?_
    have hq := hQ σ' (fin σ' k')
    have e1 : parseOf s = (zero25, 2) := by unfold parseOf; rw [if_pos (by omega)]
    rw [e1] at hq; exact hq
  have hcount : (splitA 32 s).length ≤ 401 := by rw [splitA_len]; have := countN_le 32 s; omega
  have hparse : parseOf s = (match splitA 32 s with
      | [] => (zero25, 4)
      | w :: ws => match stepOf w ws with
        | some cs => (cs, 0)
        | none => (zero25, 4)) := by
    unfold parseOf; rw [if_neg (by omega)]
    rfl
  -- refused
  have bad : ∀ σ', Keep (fun _ => False) σ1 σ' → (∀ w ws, splitA 32 s = w :: ws → stepOf w ws = none) →
      Som (vBuild zero25 []) fun t => Eff (storeW 25 (.ptr σ.next 0) t σ') fun _ σ9 => Ret [vLoadN 25 (.ptr σ.next 0) σ9, some (.int .i64 4)] σ9 Q := by
    intro σ' k' hn
    refine Som_of (v := .agg zero25) rfl ?_
    refine put_end k'.ok rfl (k'.old _ _ b2 fun e => e) rfl rfl (by omega) fun σ'' k'' => ?_
    have hq := hQ σ'' (fin σ'' ((k'.mono fun x e => e.elim).trans k''))
    have e1 : parseOf s = (zero25, 4) := by
      rw [hparse]
      cases hs : splitA 32 s with
      | nil => rfl
      | cons w ws => simp only; rw [hn w ws hs]
    rw [e1] at hq; exact hq
  have good : ∀ w ws cs, splitA 32 s = w :: ws → stepOf w ws = some cs → parseOf s = (cs, 0) := by
    intro w ws cs hs hst
    rw [hparse, hs]
    simp only
    rw [hst]
  refine words_c h k1.ok (by omega) (fun v m σ2 hwo hsl hv hm k2 => ?_) (fun σ2 hwo k2 => ?_)
  · refine Som_of rfl ?_
    refine Som_of rfl ?_
    refine Som_of (un_not _) ?_
    show WIf (.bool false) _ _
    rw [WIf_false]
    have b22 := k2.old _ _ b2 (fun e => e)
    cases hs : splitA 32 s with
    | nil => exact absurd hs (splitA_ne 32 s)
    | cons w ws =>
      rw [hs] at hsl hcount
      have hlw : ws.length ≤ 1000 := by simp at hcount; omega
      obtain ⟨p, g1, g2⟩ := StSl.head hsl
      refine Som_of g1 ?_
      refine Som_of g2 ?_
      refine Som_of (bin_eql_str _ _ _) ?_
      have hmine := hmown k2.ok hsl
      refine WIf_dec (fun hc => ?_) (fun hc => ?_)
      · have hso : stepOf w ws = callOf ws := by unfold stepOf; rw [if_pos (show w = callW from hc)]
        have badc : callOf ws = none → ∀ w' ws', splitA 32 s = w' :: ws' → stepOf w' ws' = none := by
          intro hn w' ws' e
          rw [hs] at e; cases e
          rw [hso, hn]
        refine Som_of hsl.len ?_
        refine Som_of (bin_lss _ _ _ _) ?_
        refine WIf_dec (fun h4 => ?_) (fun h4 => ?_)
        · refine bad σ2 k2 (badc ?_)
          have h3 : ws.length < 3 := by simp at h4; omega
          unfold callOf
          split
          · rfl
          · have : ws.drop 2 = [] := List.drop_eq_nil_of_le (by omega)
            rw [this]
            cases numsOf (ws.take 2) <;> rfl
        · have h3 : 3 ≤ ws.length := by simp at h4; omega
          obtain ⟨va, ca, da⟩ := SlAt.cutLH hsl (lo := 1) (hi := 3) (by omega) (by simp; omega)
          have ea : (((w :: ws).map AVal.str).drop (1 * 1)).take ((3 - 1) * 1) = (ws.take 2).map .str := by simp
          rw [ea] at da
          have da : StSl σ2 va (ws.take 2) m := by
            show SlAt σ2 va 1 (ws.take 2).length _ m
            rw [List.length_take, Nat.min_eq_left (by omega)]; exact da
          refine Som_of ca ?_
          obtain ⟨vb, cb, db⟩ := StSl.dropN hsl (n := 3) (by simp; omega)
          have db : StSl σ2 vb (ws.drop 2) m := db
          have ht2 : (ws.take 2).length = 2 := by rw [List.length_take]; omega
          -- behind the numbers
          have rest : ∀ (t38 : AVal) (t39 : AVal) (f : Bool) (σ3 : S), t38 = .tup [t39, .bool f] → Keep (fun _ => False) σ2 σ3 → (f = false → numsOf (ws.take 2) = none) → (f = true → ∃ n0 n1 m3, numsOf (ws.take 2) = some [n0, n1] ∧ InSl σ3 t39 [n0, n1] m3) →
              Som (vExtract 0 t38) fun t39 => Som (vExtract 1 t38) fun t40 => Som (vSlSl 1 v (some (.int .i64 3)) none none) fun t43 => WF tab 20 [t43] σ3 fun t44 σ4 =>
              Som (vExtract 0 t44) fun t45 => Som (vExtract 1 t44) fun t46 => Ala (aAllocV zero19) σ4 fun t8 σ5 => Eff (storeW 19 t8 t45 σ5) fun _ σ6 =>
              Som (unA .not t40) fun t48 => Som (gq1 (isB t48 false) (some t46)) fun t50 => Som (gq1 (isB t48 false) (unA .not t50)) fun t51 => Som (vPick t48 (.bool true) t51) fun t52 => WIf t52 (
              Som (vBuild zero25 []) fun t53 => Eff (storeW 25 (.ptr σ.next 0) t53 σ6) fun _ σ7 => Ret [vLoadN 25 (.ptr σ.next 0) σ7, some (.int .i64 4)] σ7 Q) (
              Som (vIxSl 1 t39 (.int .i64 0)) fun t55 => Som (vLoad1 t55 (σ6.bumpT 11)) fun t56 => Som (vIxSl 1 t39 (.int .i64 1)) fun t58 => Som (vLoad1 t58 (σ6.bumpT 11)) fun t59 => Som (vLoadN 19 t8 (σ6.bumpT 11)) fun t60 =>
              Som (vBuild (.int .i64 0 :: .int .i64 0 :: zero19) [(0, 1, t59), (2, 19, t60)]) fun t61 => Som (vBuild zero25 [(0, 1, (.int .i64 9)), (1, 1, t56), (4, 21, t61)]) fun t62 =>
              Eff (storeW 25 (.ptr σ.next 0) t62 (σ6.bumpT 11)) fun _ σ7 => Ret [vLoadN 25 (.ptr σ.next 0) σ7, some (.int .i64 0)] σ7 Q) := by
            intro t38 t39 f σ3 he k3 hf ht
            subst he
            refine Som_of rfl ?_
            refine Som_of rfl ?_
            refine Som_of cb ?_
            refine command_c h k3.ok (SlAt.keep db (fun _ e => e) k3) (by rw [List.length_drop]; omega) fun c b σ4 hcl hbt hbf k4 => ?_
            refine Som_of rfl ?_
            refine Som_of rfl ?_
            refine Ala_of (b := ⟨0, .ex, zero19⟩) (mk := fun p => .ptr p 0) rfl ?_
            have k5 := Keep.new (M := fun _ => False) k4.ok ⟨0, .ex, zero19⟩
            have b8 : (σ4.new ⟨0, .ex, zero19⟩).blk σ4.next = some ⟨0, .ex, zero19⟩ := by rw [blk_new, if_pos rfl]; rfl
            refine Eff_of (stAll b8 hcl rfl (by omega)) ?_
            have k6 := Keep.upd k5.ok b8 (c := ⟨0, .ex, c⟩) rfl
            have k46 : Keep (fun _ => False) σ4 _ := k5.then k4.ok k6 fun x hx e => by have : x = σ4.next.nat := e; omega
            have b8' := blk_upd_same (σ := σ4.new ⟨0, .ex, zero19⟩) σ4.next ⟨0, .ex, c⟩
            generalize hσ6 : (σ4.new ⟨0, .ex, zero19⟩).upd σ4.next ⟨0, .ex, c⟩ = σ6 at k6 k46 b8'
            have k36 := k4.trans k46
            have k16 := (k2.trans k3).trans k36
            have hlen2 : ¬ ws.length < 2 := by omega
            refine Som_of (un_not _) ?_
            cases f with
            | false =>
              have hn : callOf ws = none := by unfold callOf; rw [if_neg hlen2, hf rfl]
              show Som (gq1 (isB (.bool true) false) _) _
              refine Sn_of rfl ?_
              refine Sn_of rfl ?_
              refine Som_of (v := .bool true) rfl ?_
              rw [WIf_true]
              exact bad σ6 k16 (badc hn)
            | true =>
              obtain ⟨n0, n1, m3, hns, hin⟩ := ht rfl
              show Som (gq1 (isB (.bool false) false) _) _
              refine Sq_of rfl rfl ?_
              refine Sq_of rfl (un_not _) ?_
              refine Som_of (vPick_false _ _) ?_
              cases b with
              | false =>
                have hn : callOf ws = none := by unfold callOf; rw [if_neg hlen2, hns, hbf rfl]
                show WIf (.bool true) _ _
                rw [WIf_true]
                exact bad σ6 k16 (badc hn)
              | true =>
                have hn : callOf ws = some ((putAll (sc 9) [1, 4] [n0, n1]).take 6 ++ c) := by unfold callOf; rw [if_neg hlen2, hns, hbt rfl]
                show WIf (.bool false) _ _
                rw [WIf_false]
                have kb := Keep.bump k36.ok 11 (M := fun _ => False)
                have hin6 : InSl (σ6.bumpT 11) t39 [n0, n1] m3 := SlAt.keep hin (fun _ e => e) (k36.trans kb)
                obtain ⟨q0, u0, l0⟩ := hin6.get (k := 0) rfl
                obtain ⟨q1, u1, l1⟩ := hin6.get (k := 1) rfl
                refine Som_of u0 ?_
                refine Som_of l0 ?_
                refine Som_of u1 ?_
                refine Som_of l1 ?_
                refine Som_of (ldAll (n := 19) (kb.old _ _ b8' fun e => e) hcl) ?_
                refine Som_of (v := .agg ([.int .i64 n1, .int .i64 0] ++ c)) ?_ ?_
                · show vBuild (.int .i64 n1 :: .int .i64 0 :: zero19) [(2, 19, .agg c)] = _
                  rw [build1 hcl (by show 2 + 19 ≤ 21; omega)]; simp [zero19]
                refine Som_of (v := .agg ([.int .i64 9, .int .i64 n0, .int .i64 0, .int .i64 0, .int .i64 n1, .int .i64 0] ++ c)) ?_ ?_
                · show vBuild (.int .i64 9 :: .int .i64 n0 :: zero25.drop 2) [(4, 21, .agg ([.int .i64 n1, .int .i64 0] ++ c))] = _
                  rw [build1 (by simp [hcl]) (by show 4 + 21 ≤ 25; omega)]; simp [zero25]
                have hl25 : ([AVal.int .i64 9, .int .i64 n0, .int .i64 0, .int .i64 0, .int .i64 n1, .int .i64 0] ++ c).length = 25 := by simp [hcl]
                have k1b := k16.trans kb
                refine put_end kb.ok rfl (k1b.old _ _ b2 fun e => e) rfl hl25 (by omega) fun σ'' k'' => ?_
                have hq := hQ σ'' (fin σ'' ((k1b.mono fun x e => e.elim).trans k''))
                rw [good w ws _ hs (hso.trans hn)] at hq
                exact hq
          refine rnums_c h k2.ok da (by omega) (fun vn mn σ3 ns hlen hns hvn hv1 hm3 k3 => ?_) (fun σ3 hno k3 => ?_)
          · obtain ⟨n0, n1, rfl⟩ : ∃ n0 n1, ns = [n0, n1] := by
              have : ns.length = 2 := by rw [numsOf_len hns, ht2]
              exact two_of this
            exact rest _ vn true σ3 rfl k3 (fun e => by cases e) (fun _ => ⟨n0, n1, mn, hns, hvn⟩)
          · exact rest _ .nsl false σ3 rfl k3 (fun _ => hno.resolve_left (fun e => e (by rw [ht2]; rfl))) (fun e => by cases e)
      · have hso : stepOf w ws = kindV w ws := by unfold stepOf kindV; rw [if_neg (show ¬ w = callW from hc)]
        have badk : kindV w ws = none → ∀ w' ws', splitA 32 s = w' :: ws' → stepOf w' ws' = none := by
          intro hn w' ws' e
          rw [hs] at e; cases e
          rw [hso, hn]
        refine Som_of g1 ?_
        refine Som_of g2 ?_
        refine kind_c h ?_
        refine Som_of rfl ?_
        refine Som_of rfl ?_
        obtain ⟨rv, g3, g4⟩ := StSl.tail hsl
        refine Som_of g3 ?_
        refine rnums_c h k2.ok g4 (by omega) (fun vn mn σ4 ns hlen hns hvn hv1 hm4 k4 => ?_) (fun σ4 hno k4 => ?_)
        · refine Som_of rfl ?_
          refine Som_of rfl ?_
          have k14 := k2.trans k4
          refine Som_of (bin_eql _ _ _ _) ?_
          by_cases h0 : kindOf w = 0
          · rw [decide_eq_true h0]
            refine Sn_of rfl ?_
            refine Sn_of rfl ?_
            refine Som_of (vPick_true _ _) ?_
            rw [WIf_true]
            exact bad σ4 k14 (badk (by unfold kindV; rw [if_pos h0]))
          · rw [decide_eq_false h0]
            refine Sq_of rfl rfl ?_
            refine Sq_of rfl (un_not _) ?_
            refine Som_of (vPick_false _ _) ?_
            show WIf (.bool false) _ _
            rw [WIf_false]
            obtain ⟨r1, r2, r3, r4⟩ := kindOf_ne h0
            have hlen' : ws.length = (fieldsOf (kindOf w)).length := by omega
            have hkv : kindV w ws = some (putAll (sc (kindOf w)) (fieldsOf (kindOf w)) ns) := by
              unfold kindV fill
              rw [if_neg h0, if_pos hlen', hns]
            have hnl := numsOf_len hns
            have fin2 : ∀ (E : En) (σ8 : S) (p14 : Pos), E 2 = .ptr σ.next 0 → E 14 = .ptr p14 0 → Keep (fun _ => False) σ1 σ8 → σ8.blk p14 = some ⟨0, .ex, putAll (sc (kindOf w)) (fieldsOf (kindOf w)) ns⟩ → f7.p0 (WF tab) Q E σ8 := by
              intro E σ8 p14 q2 q14 k8 b14
              refine rparse_end k8.ok q2 q14 (k8.old _ _ b2 fun e => e) rfl b14 (by rw [putAll_len]; rfl) fun σ'' k'' => ?_
              have hq := hQ σ'' (fin σ'' ((k8.mono fun x e => e.elim).trans k''))
              rw [good w ws _ hs (hso.trans hkv)] at hq
              exact hq
            clear hkv
            have hk9 : kindOf w ≠ 9 := fun e => by rw [e] at r3; exact r4 (r3.symm.trans (by decide))
            generalize kindOf w = k at hlen' fin2 r1 r2 hk9
            have hcase : (k = 1 ∨ k = 2 ∨ k = 3 ∨ k = 7) ∨ (k = 4 ∨ k = 5) ∨ (k = 6 ∨ k = 8 ∨ k = 12) ∨ (k = 10 ∨ k = 11) := by omega
            have alloc : ∀ (n0 : Int) (cs : List AVal), cs.length = 25 → Keep (fun _ => False) σ4 ((σ4.new ⟨0, .ex, zero25⟩).upd σ4.next ⟨0, .ex, cs⟩) := by
              intro n0 cs hcs
              have ka := Keep.new (M := fun _ => False) k4.ok ⟨0, .ex, zero25⟩
              have ba : (σ4.new ⟨0, .ex, zero25⟩).blk σ4.next = some ⟨0, .ex, zero25⟩ := by rw [blk_new, if_pos rfl]; rfl
              exact ka.then k4.ok (Keep.upd ka.ok ba (c := ⟨0, .ex, cs⟩) rfl) fun x hx e => by have : x = σ4.next.nat := e; omega
            have ba : (σ4.new ⟨0, .ex, zero25⟩).blk σ4.next = some ⟨0, .ex, zero25⟩ := by rw [blk_new, if_pos rfl]; rfl
            have hne4 : σ.next.nat < σ4.next.nat := by have := k14.next; omega
            rcases hcase with hk | hk | hk | hk
            · have hf : fieldsOf k = [1, 2, 3] := by rcases hk with rfl | rfl | rfl | rfl <;> rfl
              rw [hf] at hlen' fin2 ⊢
              obtain ⟨n0, n1, n2, rfl⟩ : ∃ n0 n1 n2, ns = [n0, n1, n2] := by
                have : ns.length = 3 := hnl.trans hlen'
                match ns, this with
                | [a, b, c], _ => exact ⟨a, b, c, rfl⟩
              obtain ⟨q0, u0, l0⟩ := hvn.get (k := 0) rfl
              refine Som_of u0 ?_
              refine Som_of l0 ?_
              refine Som_of (v := .agg ((sc k).set 1 (.int .i64 n0))) rfl ?_
              refine Ala_of (b := ⟨0, .ex, zero25⟩) (mk := fun p => .ptr p 0) rfl ?_
              refine Eff_of (stAll ba rfl rfl (by omega)) ?_
              have ka := alloc n0 ((sc k).set 1 (.int .i64 n0)) rfl
              have b14 := blk_upd_same (σ := σ4.new ⟨0, .ex, zero25⟩) σ4.next ⟨0, .ex, (sc k).set 1 (.int .i64 n0)⟩
              generalize hσ6 : (σ4.new ⟨0, .ex, zero25⟩).upd σ4.next ⟨0, .ex, (sc k).set 1 (.int .i64 n0)⟩ = σ6 at ka b14
              refine Som_of (v := .bool true) rfl ?_
              rw [WIf_true]
              have kb := Keep.bump ka.ok 10 (M := fun _ => False)
              have k4b := ka.trans kb
              have b14b := kb.old _ _ b14 (fun e => e)
              have hvb : InSl (σ6.bumpT 10) vn [n0, n1, n2] mn := SlAt.keep hvn (fun _ e => e) k4b
              generalize hσ7 : σ6.bumpT 10 = σ7 at kb k4b b14b hvb
              obtain ⟨q1, u1, l1⟩ := hvb.get (k := 1) rfl
              obtain ⟨q2, u2, l2⟩ := hvb.get (k := 2) rfl
              refine Som_of u1 ?_
              refine Som_of l1 ?_
              refine Som_of u2 ?_
              refine Som_of l2 ?_
              refine Som_of (vFieldAddr_ptr _ _ _) ?_
              refine Eff_of (store1_of b14b (by show 0 + 2 < 25; omega) rfl) ?_
              have ku := Keep.upd k4b.ok b14b (c := ⟨0, .ex, ((sc k).set 1 (.int .i64 n0)).set (0 + 2) (.int .i64 n1)⟩) rfl
              have ku : Keep (fun x => x = σ4.next.nat) σ7 _ := ku
              have b14u := blk_upd_same (σ := σ7) σ4.next ⟨0, .ex, ((sc k).set 1 (.int .i64 n0)).set (0 + 2) (.int .i64 n1)⟩
              have hmn := hmint k4.ok hvn
              have hvu : InSl _ vn [n0, n1, n2] mn := SlAt.keep hvb (fun _ e => by omega) ku
              obtain ⟨q3, u3, l3⟩ := hvu.get (k := 2) rfl
              rw [Option.some.inj (u3.symm.trans u2)] at l3
              refine Sure_of (SameO_of l3 (same_int _ _)) ?_
              refine Som_of (vFieldAddr_ptr _ _ _) ?_
              refine Eff_of (store1_of b14u (by show 0 + 3 < 25; omega) rfl) ?_
              have kv := Keep.upd ku.ok b14u (c := ⟨0, .ex, (((sc k).set 1 (.int .i64 n0)).set (0 + 2) (.int .i64 n1)).set (0 + 3) (.int .i64 n2)⟩) rfl
              have kv : Keep (fun x => x = σ4.next.nat) _ _ := kv
              refine f7.p0_of (fin2 _ _ σ4.next rfl rfl ?_ (blk_upd_same _ _))
              exact k14.trans (k4b.then k4.ok (ku.trans kv) fun x hx e => by omega)
            · have hf : fieldsOf k = [1, 2] := by rcases hk with rfl | rfl <;> rfl
              rw [hf] at hlen' fin2 ⊢
              obtain ⟨n0, n1, rfl⟩ : ∃ n0 n1, ns = [n0, n1] := two_of (hnl.trans hlen')
              obtain ⟨q0, u0, l0⟩ := hvn.get (k := 0) rfl
              refine Som_of u0 ?_
              refine Som_of l0 ?_
              refine Som_of (v := .agg ((sc k).set 1 (.int .i64 n0))) rfl ?_
              refine Ala_of (b := ⟨0, .ex, zero25⟩) (mk := fun p => .ptr p 0) rfl ?_
              refine Eff_of (stAll ba rfl rfl (by omega)) ?_
              have ka := alloc n0 ((sc k).set 1 (.int .i64 n0)) rfl
              have b14 := blk_upd_same (σ := σ4.new ⟨0, .ex, zero25⟩) σ4.next ⟨0, .ex, (sc k).set 1 (.int .i64 n0)⟩
              generalize hσ6 : (σ4.new ⟨0, .ex, zero25⟩).upd σ4.next ⟨0, .ex, (sc k).set 1 (.int .i64 n0)⟩ = σ6 at ka b14
              refine Som_of (v := .bool false) rfl ?_
              rw [WIf_false]
              have hvb : InSl σ6 vn [n0, n1] mn := SlAt.keep hvn (fun _ e => e) ka
              obtain ⟨q1, u1, l1⟩ := hvb.get (k := 1) rfl
              have tail : ∀ (Ef : AVal → AVal → AVal → En), (∀ t108 t109 t110, Ef t108 t109 t110 2 = .ptr σ.next 0 ∧ Ef t108 t109 t110 14 = .ptr σ4.next 0) →
                  Som (vIxSl 1 vn (.int .i64 1)) fun t108 => Som (vLoad1 t108 σ6) fun t109 => Som (vFieldAddr 2 (.ptr σ4.next 0)) fun t110 => Eff (storeW 1 t110 t109 σ6) fun _ σ7 => f7.J0 (WF tab) Q (Ef t108 t109 t110) σ7 := by
                intro Ef hE
                refine Som_of u1 ?_
                refine Som_of l1 ?_
                refine Som_of (vFieldAddr_ptr _ _ _) ?_
                refine Eff_of (store1_of b14 (by show 0 + 2 < 25; omega) rfl) ?_
                have ku := Keep.upd ka.ok b14 (c := ⟨0, .ex, ((sc k).set 1 (.int .i64 n0)).set (0 + 2) (.int .i64 n1)⟩) rfl
                have ku : Keep (fun x => x = σ4.next.nat) σ6 _ := ku
                refine f7.p0_of (fin2 _ _ σ4.next (hE _ _ _).1 (hE _ _ _).2 ?_ (blk_upd_same _ _))
                exact k14.trans (ka.then k4.ok ku fun x hx e => by omega)
              refine Som_of (bin_eql _ _ _ _) ?_
              by_cases hk4 : k = 4
              · rw [decide_eq_true hk4]
                refine Sn_of rfl ?_
                refine Sn_of rfl ?_
                refine Som_of (vPick_true _ _) ?_
                rw [WIf_true]
                exact tail _ (fun _ _ _ => ⟨rfl, rfl⟩)
              · rw [decide_eq_false hk4]
                refine Sq_of rfl rfl ?_
                refine Sq_of rfl (bin_eql _ _ _ _) ?_
                rw [decide_eq_true (by omega)]
                refine Som_of (vPick_false _ _) ?_
                rw [WIf_true]
                exact tail _ (fun _ _ _ => ⟨rfl, rfl⟩)
            · have hf : fieldsOf k = [1, 3] := by rcases hk with rfl | rfl | rfl <;> rfl
              rw [hf] at hlen' fin2 ⊢
              obtain ⟨n0, n1, rfl⟩ : ∃ n0 n1, ns = [n0, n1] := two_of (hnl.trans hlen')
              obtain ⟨q0, u0, l0⟩ := hvn.get (k := 0) rfl
              refine Som_of u0 ?_
              refine Som_of l0 ?_
              refine Som_of (v := .agg ((sc k).set 1 (.int .i64 n0))) rfl ?_
              refine Ala_of (b := ⟨0, .ex, zero25⟩) (mk := fun p => .ptr p 0) rfl ?_
              refine Eff_of (stAll ba rfl rfl (by omega)) ?_
              have ka := alloc n0 ((sc k).set 1 (.int .i64 n0)) rfl
              have b14 := blk_upd_same (σ := σ4.new ⟨0, .ex, zero25⟩) σ4.next ⟨0, .ex, (sc k).set 1 (.int .i64 n0)⟩
              generalize hσ6 : (σ4.new ⟨0, .ex, zero25⟩).upd σ4.next ⟨0, .ex, (sc k).set 1 (.int .i64 n0)⟩ = σ6 at ka b14
              refine Som_of (v := .bool false) rfl ?_
              rw [WIf_false]
              have hvb : InSl σ6 vn [n0, n1] mn := SlAt.keep hvn (fun _ e => e) ka
              obtain ⟨q1, u1, l1⟩ := hvb.get (k := 1) rfl
              refine Som_of (bin_eql _ _ _ _) ?_
              rw [decide_eq_false (by omega)]
              refine Sq_of rfl rfl ?_
              refine Sq_of rfl (bin_eql _ _ _ _) ?_
              rw [decide_eq_false (by omega)]
              refine Som_of (vPick_false _ _) ?_
              rw [WIf_false]
              refine Som_of (v := .bool true) rfl ?_
              rw [WIf_true]
              refine Som_of u1 ?_
              refine Som_of l1 ?_
              refine Som_of (vFieldAddr_ptr _ _ _) ?_
              refine Eff_of (store1_of b14 (by show 0 + 3 < 25; omega) rfl) ?_
              have ku := Keep.upd ka.ok b14 (c := ⟨0, .ex, ((sc k).set 1 (.int .i64 n0)).set (0 + 3) (.int .i64 n1)⟩) rfl
              have ku : Keep (fun x => x = σ4.next.nat) σ6 _ := ku
              refine f7.p0_of (fin2 _ _ σ4.next rfl rfl ?_ (blk_upd_same _ _))
              exact k14.trans (ka.then k4.ok ku fun x hx e => by omega)
            · have hf : fieldsOf k = [1] := by rcases hk with rfl | rfl <;> rfl
              rw [hf] at hlen' fin2 ⊢
              obtain ⟨n0, rfl⟩ : ∃ n0, ns = [n0] := List.length_eq_one_iff.1 (hnl.trans hlen')
              obtain ⟨q0, u0, l0⟩ := hvn.get (k := 0) rfl
              refine Som_of u0 ?_
              refine Som_of l0 ?_
              refine Som_of (v := .agg ((sc k).set 1 (.int .i64 n0))) rfl ?_
              refine Ala_of (b := ⟨0, .ex, zero25⟩) (mk := fun p => .ptr p 0) rfl ?_
              refine Eff_of (stAll ba rfl rfl (by omega)) ?_
              have ka := alloc n0 ((sc k).set 1 (.int .i64 n0)) rfl
              refine Som_of (v := .bool false) rfl ?_
              rw [WIf_false]
              refine Som_of (bin_eql _ _ _ _) ?_
              rw [decide_eq_false (by omega)]
              refine Sq_of rfl rfl ?_
              refine Sq_of rfl (bin_eql _ _ _ _) ?_
              rw [decide_eq_false (by omega)]
              refine Som_of (vPick_false _ _) ?_
              rw [WIf_false]
              refine Som_of (v := .bool false) rfl ?_
              rw [WIf_false]
              exact f7.p0_of (fin2 _ _ σ4.next rfl rfl (k14.trans ka) (blk_upd_same _ _))
        · refine Som_of (v := .nsl) rfl ?_
          refine Som_of (v := .bool false) rfl ?_
          have k14 := k2.trans k4
          have hn : kindV w ws = none := by
            unfold kindV
            split
            · rfl
            · exact fill_no (hno.imp (fun e => by omega) id)
          refine Som_of (bin_eql _ _ _ _) ?_
          by_cases h0 : kindOf w = 0
          · rw [decide_eq_true h0]
            refine Sn_of rfl ?_
            refine Sn_of rfl ?_
            refine Som_of (vPick_true _ _) ?_
            rw [WIf_true]
            exact bad σ4 k14 (badk hn)
          · rw [decide_eq_false h0]
            refine Sq_of rfl rfl ?_
            refine Sq_of rfl (un_not _) ?_
            refine Som_of (vPick_false _ _) ?_
            show WIf (.bool true) _ _
            rw [WIf_true]
            exact bad σ4 k14 (badk hn)
  · refine Som_of (v := .nsl) rfl ?_
    refine Som_of (v := .bool false) rfl ?_
    refine Som_of (un_not _) ?_
    show WIf (.bool true) _ _
    rw [WIf_true]
    refine bad σ2 k2 fun w ws e => nil_step ?_
    unfold wordsOf at hwo
    rw [← e]
    split at hwo
    · assumption
    · cases hwo
end
end Go.Am
namespace Go.Am
section
variable {tab : Nat → Option PFn} {σ : S} {Q : AVal → S → Prop}
def Fits : List CK → List AVal → Prop
  | [], [] => True
  | .i :: ks, .int _ _ :: cs => Fits ks cs
  | .b :: ks, .bool _ :: cs => Fits ks cs
  | _, _ => False
theorem Fits.len {ks : List CK} {cs : List AVal} (h : Fits ks cs) : cs.length = ks.length := by
  induction ks generalizing cs with
  | nil => cases cs with
    | nil => rfl
    | cons => exact h.elim
  | cons k ks ih =>
    cases cs with
    | nil => cases k <;> exact h.elim
    | cons c cs =>
      cases k with
      | i => cases c <;> first | exact h.elim | (have := ih h; simp [this])
      | b => cases c <;> first | exact h.elim | (have := ih h; simp [this])
      | s => cases c <;> exact h.elim
theorem Fits.eq {ks : List CK} {cs : List AVal} (h : Fits ks cs) : eqCells ks cs cs = some true := by
  induction ks generalizing cs with
  | nil => rfl
  | cons k ks ih =>
    cases cs with
    | nil => cases k <;> exact h.elim
    | cons c cs =>
      cases k with
      | i =>
        cases c with
        | int q n =>
          show andThen (test (keq q q) (some (ieq n n))) (fun b => match b with | true => eqCells ks cs cs | false => some false) = _
          rw [keq_iff.2 rfl, ieq_iff.2 rfl]
          exact ih h
        | _ => exact h.elim
      | b =>
        cases c with
        | bool b =>
          show andThen (some (beqB b b)) (fun b => match b with | true => eqCells ks cs cs | false => some false) = _
          rw [show beqB b b = true by cases b <;> rfl]
          exact ih h
        | _ => exact h.elim
      | s => cases c <;> exact h.elim
theorem eqAgg_self {ks : List CK} {cs : List AVal} (h : Fits ks cs) : vEqAgg ks false (.agg cs) (.agg cs) = some (.bool true) := by
  show test (Nat.beq (lenN cs) (lenC ks)) (test (Nat.beq (lenN cs) (lenC ks)) (andThen (eqCells ks cs cs) fun r => outB r)) = _
  rw [lenN_eq, lenC_eq, h.len, Nat.beq_refl, test_tt, test_tt, h.eq]; rfl
theorem Fits.setI {ks : List CK} {cs : List AVal} {p : Nat} {n : Int} (h : Fits ks cs) (hp : ks[p]? = some .i) : Fits ks (cs.set p (.int .i64 n)) := by
  induction ks generalizing cs p with
  | nil => cases hp
  | cons k ks ih =>
    cases cs with
    | nil => cases k <;> exact h.elim
    | cons c cs =>
      cases p with
      | zero =>
        have hk : k = .i := by simpa using hp
        subst hk
        cases c <;> first | exact h.elim | exact h
      | succ p =>
        have hp : ks[p]? = some .i := by simpa using hp
        cases k with
        | i => cases c <;> first | exact h.elim | exact ih h hp
        | b => cases c <;> first | exact h.elim | exact ih h hp
        | s => cases c <;> exact h.elim
theorem Fits.setB {ks : List CK} {cs : List AVal} {p : Nat} {b : Bool} (h : Fits ks cs) (hp : ks[p]? = some .b) : Fits ks (cs.set p (.bool b)) := by
  induction ks generalizing cs p with
  | nil => cases hp
  | cons k ks ih =>
    cases cs with
    | nil => cases k <;> exact h.elim
    | cons c cs =>
      cases p with
      | zero =>
        have hk : k = .b := by simpa using hp
        subst hk
        cases c <;> first | exact h.elim | exact h
      | succ p =>
        have hp : ks[p]? = some .b := by simpa using hp
        cases k with
        | i => cases c <;> first | exact h.elim | exact ih h hp
        | b => cases c <;> first | exact h.elim | exact ih h hp
        | s => cases c <;> exact h.elim
theorem Fits.putAll {ks : List CK} {cs : List AVal} {ps : List Nat} {ns : List Int} (h : Fits ks cs) (hp : ∀ p ∈ ps, ks[p]? = some .i) : Fits ks (Am.putAll cs ps ns) := by
  induction ps generalizing cs ns with
  | nil => exact h
  | cons p ps ih =>
    cases ns with
    | nil => exact h
    | cons n ns => exact ih (h.setI (hp p List.mem_cons_self)) (fun q hq => hp q (List.mem_cons_of_mem _ hq))
theorem Fits.app {k1 k2 : List CK} {a b : List AVal} (h : Fits k1 a) (k : Fits k2 b) : Fits (k1 ++ k2) (a ++ b) := by
  induction k1 generalizing a with
  | nil => cases a with
    | nil => exact k
    | cons => exact h.elim
  | cons x k1 ih =>
    cases a with
    | nil => cases x <;> exact h.elim
    | cons c a =>
      cases x with
      | i => cases c <;> first | exact h.elim | exact ih h
      | b => cases c <;> first | exact h.elim | exact ih h
      | s => cases c <;> exact h.elim
theorem Fits.fill {ks : List CK} {cs c : List AVal} {ws : List (List Nat)} {ps : List Nat} (h : Fits ks cs) (hp : ∀ p ∈ ps, ks[p]? = some .i) (hf : fill ws ps cs = some c) : Fits ks c := by
  unfold Am.fill at hf
  split at hf
  · split at hf
    · cases hf; exact h.putAll hp
    · cases hf
  · cases hf
def ks19 : List CK := [.i, .i, .i, .i, .i, .i, .i, .i, .i, .i, .i, .i, .i, .i, .i, .i, .b, .i, .i]
def ks25 : List CK := [.i, .i, .i, .i, .i, .i] ++ ks19
def isI : Option CK → Bool
  | some .i => true
  | _ => false
theorem isI_eq {o : Option CK} (h : isI o = true) : o = some .i := by
  cases o with
  | none => cases h
  | some c => cases c <;> first | rfl | cases h
theorem places_i {k : Int} : ∀ p ∈ placesOf k, ks19[p]? = some .i := by
  intro o ho
  refine isI_eq ?_
  unfold placesOf at ho
  repeat' split at ho
  all_goals revert o; decide
theorem fields_i {k : Int} : ∀ p ∈ fieldsOf k, ks25[p]? = some .i := by
  intro o ho
  refine isI_eq ?_
  unfold fieldsOf at ho
  repeat' split at ho
  all_goals revert o; decide
theorem cmdOf_fits {ws : List (List Nat)} {c : List AVal} (h : cmdOf ws = some c) : Fits ks19 c := by
  cases ws with
  | nil => cases h
  | cons w ws =>
    have h : (if kOf w = 0 then none else cmdK (kOf w) ws) = some c := h
    split at h
    · cases h
    · unfold cmdK at h
      split at h
      · split at h
        · cases h
        · split at h
          · exact Fits.fill (cs := (kc 3).set 16 _) (by exact (trivial : Fits ks19 ((kc 3).set 16 (.bool _)))) places_i h
          · cases h
      · exact Fits.fill (cs := kc _) (by exact (trivial : Fits ks19 (kc _))) places_i h
theorem callOf_fits {ws : List (List Nat)} {c : List AVal} (h : callOf ws = some c) : Fits ks25 c := by
  unfold callOf at h
  split at h
  · cases h
  · split at h
    · cases h
    · rename_i ns hns
      split at h
      · cases h
      · rename_i c' hc
        cases h
        refine Fits.app ?_ (cmdOf_fits hc)
        have h25 : Fits ks25 (putAll (sc 9) [1, 4] ns) := Fits.putAll (trivial : Fits ks25 (sc 9)) (fun p hp => isI_eq (by revert p; decide))
        match ns with
        | [] => exact (trivial : Fits [CK.i, .i, .i, .i, .i, .i] ((sc 9).take 6))
        | [n0] => exact (trivial : Fits [CK.i, .i, .i, .i, .i, .i] (((sc 9).set 1 (.int .i64 n0)).take 6))
        | n0 :: n1 :: _ => exact (trivial : Fits [CK.i, .i, .i, .i, .i, .i] ((((sc 9).set 1 (.int .i64 n0)).set 4 (.int .i64 n1)).take 6))
theorem parseOf_fits (s : List Nat) : Fits ks25 (parseOf s).1 := by
  unfold parseOf
  split
  · exact (trivial : Fits ks25 zero25)
  · split
    · exact (trivial : Fits ks25 zero25)
    · rename_i w ws _
      cases hst : stepOf w ws with
      | none => exact (trivial : Fits ks25 zero25)
      | some cs =>
        show Fits ks25 cs
        unfold stepOf at hst
        split at hst
        · exact callOf_fits hst
        · split at hst
          · cases hst
          · exact Fits.fill (cs := sc _) (by exact (trivial : Fits ks25 (sc _))) fields_i hst
def Runs (tab : Nat → Option PFn) (f : Nat) : Prop := ∀ (σ : S) (Q : AVal → S → Prop), Q (.bool true) σ → WF tab f [] σ Q
theorem parses_c (h : Hs tab) (hr : Runs tab 8) (ho : Ok σ) {s : List Nat} (hQ : ∀ σ', Q (.bool true) σ') : WF tab 3 [.str s] σ Q := by
  refine f3_wf h.ht.t3 ?_
  unfold f3
  have hf := parseOf_fits s
  have hl : (parseOf s).1.length = 25 := hf.len
  refine Parse_c h ho fun σ1 k1 => ?_
  refine Som_of (v := .agg (parseOf s).1) rfl ?_
  refine Som_of (v := .int .i64 (parseOf s).2) rfl ?_
  refine Ala_of (b := ⟨0, .ex, zero25⟩) (mk := fun p => .ptr p 0) rfl ?_
  have k2 := Keep.new (M := fun _ => False) k1.ok ⟨0, .ex, zero25⟩
  have b3 : (σ1.new ⟨0, .ex, zero25⟩).blk σ1.next = some ⟨0, .ex, zero25⟩ := by rw [blk_new, if_pos rfl]; rfl
  refine Eff_of (stAll b3 hl rfl (by omega)) ?_
  have k3 := Keep.upd k2.ok b3 (c := ⟨0, .ex, (parseOf s).1⟩) rfl
  have b3' := blk_upd_same (σ := σ1.new ⟨0, .ex, zero25⟩) σ1.next ⟨0, .ex, (parseOf s).1⟩
  generalize hσ3 : (σ1.new ⟨0, .ex, zero25⟩).upd σ1.next ⟨0, .ex, (parseOf s).1⟩ = σ3 at k3 b3'
  refine rParse_c h k3.ok fun σ4 k4 => ?_
  refine Som_of (v := .agg (parseOf s).1) rfl ?_
  refine Som_of (v := .int .i64 (parseOf s).2) rfl ?_
  refine Ala_of (b := ⟨0, .ex, zero25⟩) (mk := fun p => .ptr p 0) rfl ?_
  have k5 := Keep.new (M := fun _ => False) k4.ok ⟨0, .ex, zero25⟩
  have b5 : (σ4.new ⟨0, .ex, zero25⟩).blk σ4.next = some ⟨0, .ex, zero25⟩ := by rw [blk_new, if_pos rfl]; rfl
  refine Eff_of (stAll b5 hl rfl (by omega)) ?_
  have k6 := Keep.upd k5.ok b5 (c := ⟨0, .ex, (parseOf s).1⟩) rfl
  have k46 : Keep (fun _ => False) σ4 _ := k5.then k4.ok k6 fun x hx e => by have : x = σ4.next.nat := e; omega
  refine Som_of (ldAll (n := 25) ((k4.trans k46).old _ _ b3' fun e => e) hl) ?_
  refine Som_of (ldAll (n := 25) (blk_upd_same _ _) hl) ?_
  refine Som_of (v := .bool true) (eqAgg_self hf) ?_
  refine Sq_of rfl rfl ?_
  refine Sq_of rfl rfl ?_
  refine Sq_of rfl (bin_eql _ _ _ _) ?_
  rw [decide_eq_true rfl]
  refine Som_of (vPick_true _ _) ?_
  refine GE_t rfl ?_
  refine hr _ _ ?_
  refine Som_of (vPick_true _ _) ?_
  rw [Ret_1 rfl]
  exact hQ _
end
end Go.Am
namespace Go.Am
section
variable {tab : Nat → Option PFn} {σ : S} {Q : AVal → S → Prop}
abbrev iv (n : Int) : AVal := .int .i64 n
def InR (n : Int) : Prop := -9223372036854775808 ≤ n ∧ n ≤ 9223372036854775807
structure Cm where
  k : Int
  o0 : Int
  o1 : Int
  o2 : Int
  o3 : Int
  o4 : Int
  o5 : Int
  o6 : Int
  o7 : Int
  o8 : Int
  o9 : Int
  d0 : Int
  d1 : Int
  d2 : Int
  d3 : Int
  d4 : Int
  r : Bool
  i : Int
  n : Int
namespace Cm
variable (c : Cm)
def ord : List Int := [c.o0, c.o1, c.o2, c.o3, c.o4, c.o5, c.o6, c.o7, c.o8, c.o9]
def drv : List Int := [c.d0, c.d1, c.d2, c.d3, c.d4]
def cells : List AVal := [iv c.k, iv c.o0, iv c.o1, iv c.o2, iv c.o3, iv c.o4, iv c.o5, iv c.o6, iv c.o7, iv c.o8, iv c.o9, iv c.d0, iv c.d1, iv c.d2, iv c.d3, iv c.d4, .bool c.r, iv c.i, iv c.n]
def oCells : List AVal := [iv c.o0, iv c.o1, iv c.o2, iv c.o3, iv c.o4, iv c.o5, iv c.o6, iv c.o7, iv c.o8, iv c.o9]
def dCells : List AVal := [iv c.d0, iv c.d1, iv c.d2, iv c.d3, iv c.d4, .bool c.r]
def Ok : Prop := InR c.k ∧ (∀ n ∈ c.ord, InR n) ∧ (∀ n ∈ c.drv, InR n) ∧ InR c.i ∧ InR c.n
end Cm
structure Sp where
  k : Int
  a : Int
  b : Int
  n : Int
  s : Int
  q : Int
  c : Cm
namespace Sp
variable (s : Sp)
def cells : List AVal := [iv s.k, iv s.a, iv s.b, iv s.n, iv s.s, iv s.q] ++ s.c.cells
def Ok : Prop := InR s.k ∧ InR s.a ∧ InR s.b ∧ InR s.n ∧ InR s.s ∧ InR s.q ∧ s.c.Ok
end Sp
structure Ev where
  k : Int
  nd : Int
  s : Int
  q : Int
  c : Cm
  w : Int
  st : Int
  d : Int
  t : Int
namespace Ev
variable (e : Ev)
def cells : List AVal := [iv e.k, iv e.nd, iv e.s, iv e.q] ++ e.c.cells ++ [iv e.w, iv e.st, iv e.d, iv e.t]
def Ok : Prop := InR e.nd ∧ InR e.s ∧ InR e.q ∧ e.c.Ok ∧ InR e.w ∧ InR e.st ∧ InR e.d ∧ InR e.t
end Ev
noncomputable def saidOf (w : List Nat) : List Int → List Nat
  | [] => w
  | n :: ns => saidOf (w ++ 32 :: itoaN n) ns
theorem saidOf_app (w : List Nat) (a b : List Int) : saidOf w (a ++ b) = saidOf (saidOf w a) b := by
  induction a generalizing w with
  | nil => rfl
  | cons n a ih => exact ih _
theorem saidOf_pre (v w : List Nat) (ns : List Int) : saidOf (v ++ w) ns = v ++ saidOf w ns := by
  induction ns generalizing w with
  | nil => rfl
  | cons n ns ih => unfold saidOf; rw [List.append_assoc, ih]
theorem itoaN_len {n : Int} (h : InR n) : (itoaN n).length ≤ 20 := by
  obtain ⟨h1, h2⟩ := h
  rcases Int.lt_or_le n 0 with hn | hn
  · obtain ⟨u, rfl⟩ : ∃ u : Nat, n = -(u : Int) := ⟨n.natAbs, by omega⟩
    rw [itoaN_neg u (by omega)]
    have := decN_len (u := u) (k := 19) (by omega) (by omega)
    simp; omega
  · obtain ⟨u, rfl⟩ := Int.eq_ofNat_of_zero_le hn
    rw [itoaN_nonneg]
    have := decN_len (u := u) (k := 19) (by omega) (by omega)
    omega
theorem saidOf_len {ns : List Int} (h : ∀ n ∈ ns, InR n) (w : List Nat) : (saidOf w ns).length ≤ w.length + 21 * ns.length := by
  induction ns generalizing w with
  | nil => simp [saidOf]
  | cons n ns ih =>
    have h1 := ih (fun x hx => h x (List.mem_cons_of_mem _ hx)) (w ++ 32 :: itoaN n)
    have h2 := itoaN_len (h n List.mem_cons_self)
    simp only [saidOf, List.length_cons, List.length_append] at h1 ⊢
    omega
theorem saidOf_ne {w : List Nat} (h : w ≠ []) (ns : List Int) : saidOf w ns ≠ [] := by
  induction ns generalizing w with
  | nil => exact h
  | cons n ns ih => exact ih (by simp)
theorem bin_add_str (tk : TK) {a b : List Nat} (h : a.length + b.length ≤ 1099511627776) : binA .add tk (.str a) (.str b) = some (.str (a ++ b)) := by
  show addS a b = _
  unfold addS
  rw [lenS_eq, lenS_eq, show Nat.add a.length b.length = a.length + b.length from rfl, Nat.ble_eq_true_of_le h]
  show forceNats (a ++ b) (fun s => some (AVal.str s)) = _
  rw [forceNats_eq]
def Pts (σ : S) (cs : List AVal) (ns : List Int) : Prop := ∀ (i : Nat) (n : Int), ns[i]? = some n → ∃ (b : Pos) (o : Nat) (blk : Blk), cs[i]? = some (AVal.ptr b o) ∧ σ.blk b = some blk ∧ blk.cells[o]? = some (iv n)
theorem Pts.nil {cs : List AVal} : Pts σ cs [] := fun i n h => by cases h
theorem Pts.cons {cs : List AVal} {ns : List Int} {b : Pos} {o : Nat} {n : Int} {blk : Blk} (hb : σ.blk b = some blk) (ho : blk.cells[o]? = some (iv n)) (h : Pts σ cs ns) : Pts σ (AVal.ptr b o :: cs) (n :: ns) := by
  intro i m hm
  cases i with
  | zero => cases hm; exact ⟨b, o, blk, rfl, hb, ho⟩
  | succ i => exact h i m hm
theorem join_loop (h : Hs tab) {v : AVal} {ns : List Int} {cs : List AVal} {m : Nat} (hs : SlAt σ v 1 ns.length cs m) (hp : Pts σ cs ns) (hr : ∀ n ∈ ns, InR n) (hl : ns.length ≤ 1000) :
    ∀ (d i : Nat) (acc : List Nat) (E : En), i + d = ns.length → E 0 = .str acc → E 7 = v → E 8 = iv (ns.length : Int) → E 9 = iv (i : Int) → acc.length ≤ 1000 + 21 * i → Q (.str (saidOf acc (ns.drop i))) σ → f25.L0 (WF tab) Q E σ := by
  intro d
  induction d with
  | zero =>
    intro i acc E hd h0 h7 h8 h9 ha hQ
    refine f25.p0_of ?_
    unfold f25.p0
    rw [h9, h8, h0]
    refine Som_of (bin_lss _ _ _ _) ?_
    refine WIf_f (by omega) ?_
    rw [List.drop_of_length_le (by omega)] at hQ
    rw [Ret_1 rfl]; exact hQ
  | succ d ih =>
    intro i acc E hd h0 h7 h8 h9 ha hQ
    refine f25.p0_of ?_
    unfold f25.p0
    rw [h9, h8, h7, h0]
    have hlt : i < ns.length := by omega
    refine Som_of (bin_lss _ _ _ _) ?_
    refine WIf_t (by omega) ?_
    obtain ⟨p, g1, g2⟩ := hs.get1 hlt
    obtain ⟨b, o, blk, g3, g4, g5⟩ := hp i ns[i] (List.getElem?_eq_getElem hlt)
    have hin := hr _ (List.getElem_mem hlt)
    refine Som_of g1 ?_
    refine Som_of (g2.trans g3) ?_
    refine Som_of (vNilck_ptr _ _) ?_
    refine Som_of ((load1_of g4).trans g5) ?_
    refine itoa_c h hin.1 hin.2 ?_
    have hil := itoaN_len hin
    refine Som_of (bin_add_str _ (by simp; omega)) ?_
    refine Som_of (bin_add_str _ (by simp; omega)) ?_
    refine Som_of (bin_add _ _ _ _) ?_
    refine ih (i + 1) (acc ++ 32 :: itoaN ns[i]) _ (by omega) rfl h7 h8 ?_ (by simp; omega) ?_
    · show AVal.int .i64 (IntKind.i64.wrap ((i : Int) + 1)) = _
      rw [wrap_i64_in (by omega) (by omega)]; rfl
    · rw [List.drop_eq_getElem_cons hlt] at hQ
      exact hQ
theorem join_c (h : Hs tab) {v : AVal} {w : List Nat} {ns : List Int} {cs : List AVal} {m : Nat} (hs : SlAt σ v 1 ns.length cs m) (hp : Pts σ cs ns) (hr : ∀ n ∈ ns, InR n) (hl : ns.length ≤ 1000) (hw : w.length ≤ 1000)
    (hQ : Q (.str (saidOf w ns)) σ) : WF tab 25 [.str w, v] σ Q := by
  refine f25_wf h.ht.t25 ?_
  unfold f25
  refine Som_of hs.len ?_
  exact join_loop h hs hp hr hl ns.length 0 w _ (by omega) rfl rfl rfl rfl (by omega) hQ
theorem said_loop (h : Hs tab) {v : AVal} {ns : List Int} {m : Nat} (hs : InSl σ v ns m) (hr : ∀ n ∈ ns, InR n) (hl : ns.length ≤ 1000) :
    ∀ (d i : Nat) (acc : List Nat) (E : En), i + d = ns.length → E 0 = .str acc → E 1 = v → E 5 = iv (i : Int) → acc.length ≤ 1000 + 21 * i → Q (.str (saidOf acc (ns.drop i))) σ → f28.L0 (WF tab) Q E σ := by
  intro d
  induction d with
  | zero =>
    intro i acc E hd h0 h1 h5 ha hQ
    refine f28.p0_of ?_
    unfold f28.p0
    rw [h5, h1, h0]
    refine Som_of hs.len ?_
    refine Som_of (bin_lss _ _ _ _) ?_
    refine WIf_f (by omega) ?_
    rw [List.drop_of_length_le (by omega)] at hQ
    rw [Ret_1 rfl]; exact hQ
  | succ d ih =>
    intro i acc E hd h0 h1 h5 ha hQ
    refine f28.p0_of ?_
    unfold f28.p0
    rw [h5, h1, h0]
    have hlt : i < ns.length := by omega
    refine Som_of hs.len ?_
    refine Som_of (bin_lss _ _ _ _) ?_
    refine WIf_t (by omega) ?_
    have hin := hr _ (List.getElem_mem hlt)
    refine Som_of (bin_add_str _ (by simp; omega)) ?_
    obtain ⟨p, g1, g2⟩ := InSl.get hs (List.getElem?_eq_getElem hlt)
    refine Som_of g1 ?_
    refine Som_of g2 ?_
    refine itoa_c h hin.1 hin.2 ?_
    have hil := itoaN_len hin
    refine Som_of (bin_add_str _ (by simp; omega)) ?_
    refine Som_of (bin_add _ _ _ _) ?_
    refine ih (i + 1) (acc ++ 32 :: itoaN ns[i]) _ (by omega) ?_ h1 ?_ (by simp; omega) ?_
    · show AVal.str (acc ++ [32] ++ itoaN ns[i]) = _
      rw [List.append_assoc]; rfl
    · show AVal.int .i64 (IntKind.i64.wrap ((i : Int) + 1)) = _
      rw [wrap_i64_in (by omega) (by omega)]; rfl
    · rw [List.drop_eq_getElem_cons hlt] at hQ
      exact hQ
theorem said_c (h : Hs tab) {v : AVal} {w : List Nat} {ns : List Int} {m : Nat} (hs : InSl σ v ns m) (hr : ∀ n ∈ ns, InR n) (hl : ns.length ≤ 1000) (hw : w.length ≤ 1000)
    (hQ : Q (.str (saidOf w ns)) σ) : WF tab 28 [.str w, v] σ Q := by
  refine f28_wf h.ht.t28 ?_
  unfold f28
  exact said_loop h hs hr hl ns.length 0 w _ (by omega) rfl rfl rfl (by omega) hQ
end
end Go.Am
namespace Go.Am
section
variable {tab : Nat → Option PFn} {σ : S} {Q : AVal → S → Prop}
def Fit : List CK → List AVal → Prop
  | [], [] => True
  | .i :: ks, .int .i64 _ :: cs => Fit ks cs
  | .b :: ks, .bool _ :: cs => Fit ks cs
  | _, _ => False
theorem Fit.len {ks : List CK} {cs : List AVal} (h : Fit ks cs) : cs.length = ks.length := by
  induction ks generalizing cs with
  | nil => cases cs with
    | nil => rfl
    | cons => exact h.elim
  | cons k ks ih =>
    cases cs with
    | nil => cases k <;> exact h.elim
    | cons c cs =>
      cases k with
      | i =>
        cases c with
        | int q n => cases q <;> first | exact h.elim | (have := ih h; simp [this])
        | _ => exact h.elim
      | b => cases c <;> first | exact h.elim | (have := ih h; simp [this])
      | s => cases c <;> exact h.elim
theorem Fit.dec {ks : List CK} {a b : List AVal} (ha : Fit ks a) (hb : Fit ks b) : ∃ r : Bool, eqCells ks a b = some r ∧ (r = true ↔ a = b) := by
  induction ks generalizing a b with
  | nil =>
    cases a with
    | nil => cases b with
      | nil => exact ⟨true, rfl, by simp⟩
      | cons => exact hb.elim
    | cons => exact ha.elim
  | cons k ks ih =>
    cases a with
    | nil => cases k <;> exact ha.elim
    | cons x a =>
      cases b with
      | nil => cases k <;> exact hb.elim
      | cons y b =>
        cases k with
        | i =>
          cases x with
          | int q n =>
            cases y with
            | int p m =>
              cases q <;> first | exact ha.elim | skip
              cases p <;> first | exact hb.elim | skip
              obtain ⟨r, h1, h2⟩ := ih ha hb
              by_cases e : n = m
              · subst e
                refine ⟨r, ?_, by rw [h2]; simp⟩
                show andThen (test (keq .i64 .i64) (some (ieq n n))) (fun b' => match b' with | true => eqCells ks a b | false => some false) = _
                rw [keq_iff.2 rfl, ieq_iff.2 rfl]
                exact h1
              · refine ⟨false, ?_, by simp [e]⟩
                show andThen (test (keq .i64 .i64) (some (ieq n m))) (fun b' => match b' with | true => eqCells ks a b | false => some false) = _
                have hf : ieq n m = false := by
                  cases hx : ieq n m with
                  | false => rfl
                  | true => exact absurd (ieq_iff.1 hx) e
                rw [keq_iff.2 rfl, hf]; rfl
            | _ => exact hb.elim
          | _ => exact ha.elim
        | b =>
          cases x with
          | bool p =>
            cases y with
            | bool q =>
              obtain ⟨r, h1, h2⟩ := ih ha hb
              by_cases e : p = q
              · subst e
                refine ⟨r, ?_, by rw [h2]; simp⟩
                show andThen (some (beqB p p)) (fun b' => match b' with | true => eqCells ks a b | false => some false) = _
                rw [show beqB p p = true by cases p <;> rfl]
                exact h1
              · refine ⟨false, ?_, by simp [e]⟩
                show andThen (some (beqB p q)) (fun b' => match b' with | true => eqCells ks a b | false => some false) = _
                rw [show beqB p q = false by cases p <;> cases q <;> first | rfl | exact absurd rfl e]; rfl
            | _ => exact hb.elim
          | _ => exact ha.elim
        | s => cases x <;> exact ha.elim
theorem eqAgg_dec {ks : List CK} {a b : List AVal} (ha : Fit ks a) (hb : Fit ks b) (neg : Bool) : ∃ r : Bool, vEqAgg ks neg (.agg a) (.agg b) = some (.bool (neg != r)) ∧ (r = true ↔ a = b) := by
  obtain ⟨r, h1, h2⟩ := ha.dec hb
  refine ⟨r, ?_, h2⟩
  show test (Nat.beq (lenN a) (lenC ks)) (test (Nat.beq (lenN b) (lenC ks)) (andThen (eqCells ks a b) fun r => match neg with | true => outB (notB r) | false => outB r)) = _
  rw [lenN_eq, lenN_eq, lenC_eq, ha.len, hb.len, Nat.beq_refl, test_tt, test_tt, h1]
  cases neg <;> cases r <;> rfl
theorem fit_cells (c : Cm) : Fit ks19 c.cells := trivial
theorem fit_sp (s : Sp) : Fit ks25 s.cells := trivial
def Cm.right (c : Cm) : Bool :=
  decide (1 ≤ c.k ∧ c.k ≤ 7) && (decide (c.k = 1) || decide (c.ord = [0, 0, 0, 0, 0, 0, 0, 0, 0, 0])) && (decide (c.k = 3) || (decide (c.drv = [0, 0, 0, 0, 0]) && !c.r)) &&
    (decide (c.k = 2 ∨ c.k = 4 ∨ c.k = 5 ∨ c.k = 7) || decide (c.i = 0)) && (decide (c.k = 5 ∨ c.k = 6) || decide (c.n = 0))
def namedV (k : Int) : AVal := .tup [.bool (decide (k = 1)), .bool (decide (k = 3)), .bool (decide (k = 2 ∨ k = 4 ∨ k = 5 ∨ k = 7)), .bool (decide (k = 5 ∨ k = 6)), .bool (decide (1 ≤ k ∧ k ≤ 7))]
theorem named_c (h : Hs tab) {k : Int} (hQ : Q (namedV k) σ) : WF tab 42 [iv k] σ Q := by
  refine f42_wf h.ht.t42 ?_
  unfold f42
  unfold namedV at hQ
  have hcase : k = 1 ∨ k = 2 ∨ k = 4 ∨ k = 7 ∨ k = 3 ∨ k = 5 ∨ k = 6 ∨ (k < 1 ∨ 7 < k) := by omega
  refine Som_of (bin_eql _ _ _ _) ?_
  rcases hcase with rfl | hk
  · refine WIf_t (by decide) ?_
    exact hQ
  refine WIf_f (by omega) ?_
  refine Som_of (bin_eql _ _ _ _) ?_
  rcases hk with rfl | hk
  · refine WIf_t (by decide) ?_
    refine f42.p0_of ?_
    unfold f42.p0
    refine WIf_t (p := (2 : Int) = 2) (by decide) ?_
    exact hQ
  refine WIf_f (by omega) ?_
  refine Som_of (bin_eql _ _ _ _) ?_
  rcases hk with rfl | hk
  · refine WIf_t (by decide) ?_
    refine f42.p0_of ?_
    unfold f42.p0
    refine WIf_t (p := (4 : Int) = 4) (by decide) ?_
    exact hQ
  refine WIf_f (by omega) ?_
  refine Som_of (bin_eql _ _ _ _) ?_
  refine f42.p0_of ?_
  unfold f42.p0
  rcases hk with rfl | hk
  · refine WIf_t (p := (7 : Int) = 7) (by decide) ?_
    exact hQ
  refine WIf_f (p := k = 7) (by omega) ?_
  refine Som_of (bin_eql _ _ k _) ?_
  rcases hk with rfl | hk
  · refine WIf_t (by decide) ?_
    exact hQ
  refine WIf_f (by omega) ?_
  refine Som_of (bin_eql _ _ k _) ?_
  rcases hk with rfl | hk
  · refine WIf_t (by decide) ?_
    exact hQ
  refine WIf_f (by omega) ?_
  refine Som_of (bin_eql _ _ k _) ?_
  rcases hk with rfl | hk
  · refine WIf_t (by decide) ?_
    exact hQ
  refine WIf_f (by omega) ?_
  refine (show Q (.tup [.bool false, .bool false, .bool false, .bool false, .bool false]) σ from ?_)
  rw [decide_eq_false (by omega : ¬ k = 1), decide_eq_false (by omega : ¬ k = 3), decide_eq_false (by omega : ¬ (k = 2 ∨ k = 4 ∨ k = 5 ∨ k = 7)), decide_eq_false (by omega : ¬ (k = 5 ∨ k = 6)), decide_eq_false (by omega : ¬ (1 ≤ k ∧ k ≤ 7))] at hQ
  exact hQ
end
end Go.Am
namespace Go.Am
section
variable {tab : Nat → Option PFn} {σ : S} {Q : AVal → S → Prop}
theorem and_or4 {K : AVal → Prop} {a o r : Bool} {A1 A3 : Option AVal} {A2 : AVal → Option AVal} {A4 : AVal → AVal → Option AVal} {v1 v2 v3 : AVal} (h1 : A1 = some v1) (h2 : A2 v1 = some v2) (h3 : A3 = some v3) (h4 : A4 v2 v3 = some (.bool r)) (k : K (.bool (a && (o || r)))) :
    Som (gq1 (isB (.bool a) true) (some (.bool o))) fun t19 => Som (gq1 (isB (.bool a) true) (some t19)) fun t20 => Som (gq1 (isB t20 false) A1) fun t21 => Som (gq1 (isB t20 false) (A2 t21)) fun t22 => Som (gq1 (isB t20 false) A3) fun t23 =>
      Som (gq1 (isB t20 false) (A4 t22 t23)) fun t24 => Som (gq1 (isB (.bool a) true) (vPick t20 (.bool true) t24)) fun t25 => Som (vPick (.bool a) t25 (.bool false)) K := by
  cases a with
  | false => exact Sn_of rfl (Sn_of rfl (Sn_of rfl (Sn_of rfl (Sn_of rfl (Sn_of rfl (Sn_of rfl (Som_of rfl k)))))))
  | true =>
    cases o with
    | true => exact Sq_of rfl rfl (Sq_of rfl rfl (Sn_of rfl (Sn_of rfl (Sn_of rfl (Sn_of rfl (Sq_of rfl rfl (Som_of rfl k)))))))
    | false => exact Sq_of rfl rfl (Sq_of rfl rfl (Sq_of rfl h1 (Sq_of rfl h2 (Sq_of rfl h3 (Sq_of rfl h4 (Sq_of rfl rfl (Som_of rfl k)))))))
theorem and_or3 {K : AVal → Prop} {a o r : Bool} {A1 : Option AVal} {A2 A3 : AVal → Option AVal} {v1 v2 : AVal} (h1 : A1 = some v1) (h2 : A2 v1 = some v2) (h3 : A3 v2 = some (.bool r)) (k : K (.bool (a && (o || r)))) :
    Som (gq1 (isB (.bool a) true) (some (.bool o))) fun t19 => Som (gq1 (isB (.bool a) true) (some t19)) fun t20 => Som (gq1 (isB t20 false) A1) fun t21 => Som (gq1 (isB t20 false) (A2 t21)) fun t22 => Som (gq1 (isB t20 false) (A3 t22)) fun t23 =>
      Som (gq1 (isB (.bool a) true) (vPick t20 (.bool true) t23)) fun t25 => Som (vPick (.bool a) t25 (.bool false)) K := by
  cases a with
  | false => exact Sn_of rfl (Sn_of rfl (Sn_of rfl (Sn_of rfl (Sn_of rfl (Sn_of rfl (Som_of rfl k))))))
  | true =>
    cases o with
    | true => exact Sq_of rfl rfl (Sq_of rfl rfl (Sn_of rfl (Sn_of rfl (Sn_of rfl (Sq_of rfl rfl (Som_of rfl k))))))
    | false => exact Sq_of rfl rfl (Sq_of rfl rfl (Sq_of rfl h1 (Sq_of rfl h2 (Sq_of rfl h3 (Sq_of rfl rfl (Som_of rfl k))))))
theorem boxA (ho : Ok σ) {M : Nat → Prop} (cs : List AVal) : Keep M σ (σ.new ⟨0, .ex, cs⟩) ∧ (σ.new ⟨0, .ex, cs⟩).blk σ.next = some ⟨0, .ex, cs⟩ :=
  ⟨Keep.new ho _, by rw [blk_new, if_pos rfl]; rfl⟩
theorem ldN {p : Pos} {o e n : Nat} {k : Kind} {cs xs : List AVal} (hb : σ.blk p = some ⟨e, k, cs⟩) (hl : o + n ≤ cs.length) (hv : (cs.drop o).take n = xs) : vLoadN n (.ptr p o) σ = some (.agg xs) := by
  show andThen (σ.read p o n) _ = _
  rw [read_of hb hl, andThen_s, ← hv]
theorem beq_of {r : Bool} {p : Prop} [Decidable p] (h : r = true ↔ p) : r = decide p := by
  by_cases hp : p
  · rw [decide_eq_true hp, h.2 hp]
  · rw [decide_eq_false hp]; cases r with
    | false => rfl
    | true => exact absurd (h.1 rfl) hp
theorem Right_c (h : Hs tab) (ho : Ok σ) {c : Cm} (hQ : ∀ σ', Keep (fun _ => False) σ σ' → Q (.bool c.right) σ') : WF tab 24 [.agg c.cells] σ Q := by
  refine f24_wf h.ht.t24 ?_
  unfold f24
  refine Ala_of (b := ⟨0, .ex, c.cells⟩) (mk := fun p => .ptr p 0) rfl ?_
  obtain ⟨k1, b1⟩ := boxA ho (M := fun _ => False) c.cells
  generalize σ.new ⟨0, .ex, c.cells⟩ = σ1 at k1 b1
  generalize σ.next = p1 at b1
  refine Som_of (vFieldAddr_ptr _ _ _) ?_
  refine Som_of ((load1_of b1).trans rfl) ?_
  refine named_c h ?_
  refine Som_of rfl ?_
  refine Som_of rfl ?_
  refine Som_of rfl ?_
  refine Som_of rfl ?_
  refine Som_of rfl ?_
  obtain ⟨r1, e1, i1⟩ := eqAgg_dec (ks := [.i, .i, .i, .i, .i, .i, .i, .i, .i, .i]) (a := c.oCells) (b := [iv 0, iv 0, iv 0, iv 0, iv 0, iv 0, iv 0, iv 0, iv 0, iv 0]) trivial trivial false
  rw [show (false != r1) = r1 by cases r1 <;> rfl] at e1
  obtain ⟨r2, e2, i2⟩ := eqAgg_dec (ks := [.i, .i, .i, .i, .i, .b]) (a := c.dCells) (b := [iv 0, iv 0, iv 0, iv 0, iv 0, .bool false]) trivial trivial false
  rw [show (false != r2) = r2 by cases r2 <;> rfl] at e2
  refine and_or4 (vFieldAddr_ptr _ _ _) (ldN (xs := c.oCells) b1 (Nat.le_of_ble_eq_true rfl) rfl) rfl e1 ?_
  refine and_or4 (vFieldAddr_ptr _ _ _) (ldN (xs := c.dCells) b1 (Nat.le_of_ble_eq_true rfl) rfl) rfl e2 ?_
  refine and_or3 (vFieldAddr_ptr _ _ _) ((load1_of b1).trans rfl) (bin_eql _ _ _ _) ?_
  refine and_or3 (vFieldAddr_ptr _ _ _) ((load1_of b1).trans rfl) (bin_eql _ _ _ _) ?_
  rw [Ret_1 rfl]
  have hr1 : r1 = decide (c.ord = [0, 0, 0, 0, 0, 0, 0, 0, 0, 0]) := beq_of (i1.trans (by simp [Cm.oCells, Cm.ord]))
  have hr2 : r2 = (decide (c.drv = [0, 0, 0, 0, 0]) && !c.r) := by
    refine Bool.eq_iff_iff.2 (i2.trans ?_)
    simp [Cm.dCells, Cm.drv, and_assoc]
  have := hQ σ1 k1
  unfold Cm.right at this
  rw [← hr1, ← hr2] at this
  exact this
theorem kc_eq (k : Int) : kc k = (⟨k, 0, 0, 0, 0, 0, 0, 0, 0, 0, 0, 0, 0, 0, 0, 0, false, 0, 0⟩ : Cm).cells := rfl
theorem rr_end {p1 p3 : Pos} {c x : Cm} (b1 : σ.blk p1 = some ⟨0, .ex, c.cells⟩) (b3 : σ.blk p3 = some ⟨0, .ex, x.cells⟩) (hx : x.cells = kc c.k ↔ c.right = true) (hQ : Q (.bool c.right) σ) :
    Som (vLoadN 19 (.ptr p3 0) σ) fun t27 => Som (vFieldAddr 0 (.ptr p1 0)) fun t28 => Som (vLoad1 t28 σ) fun t29 => Som (vBuild zero19 [(0, 1, t29)]) fun t30 => Som (vEqAgg ks19 false t27 t30) fun t31 => Ret [some t31] σ Q := by
  refine Som_of (ldAll (n := 19) b3 rfl) ?_
  refine Som_of (vFieldAddr_ptr _ _ _) ?_
  refine Som_of ((load1_of b1).trans rfl) ?_
  refine Som_of (v := .agg (kc c.k)) rfl ?_
  obtain ⟨r1, e1, i1⟩ := eqAgg_dec (ks := ks19) (a := x.cells) (b := kc c.k) trivial trivial false
  refine Som_of e1 ?_
  rw [Ret_1 rfl]
  have : (false != r1) = c.right := by
    have h2 := i1.trans hx
    cases r1 <;> cases hc : c.right <;> simp_all
  rw [this]; exact hQ
theorem RRight_c (h : Hs tab) (ho : Ok σ) {c : Cm} (hQ : ∀ σ', Keep (fun _ => False) σ σ' → Q (.bool c.right) σ') : WF tab 44 [.agg c.cells] σ Q := by
  refine f44_wf h.ht.t44 ?_
  unfold f44
  refine Ala_of (b := ⟨0, .ex, c.cells⟩) (mk := fun p => .ptr p 0) rfl ?_
  obtain ⟨k1, b1⟩ := boxA ho (M := fun _ => False) c.cells
  generalize σ.new ⟨0, .ex, c.cells⟩ = σ1 at k1 b1
  have hp1 := k1.ok.lt b1
  generalize σ.next = p1 at b1 hp1
  refine Som_of (ldAll (n := 19) b1 rfl) ?_
  refine Ala_of (b := ⟨0, .ex, zero19⟩) (mk := fun p => .ptr p 0) rfl ?_
  obtain ⟨k2, b2⟩ := boxA k1.ok (M := fun _ => False) zero19
  have b12 := k2.old _ _ b1 fun e => e
  generalize σ1.new ⟨0, .ex, zero19⟩ = σ2 at k2 b2 b12
  generalize hp3 : σ1.next = p3 at b2
  refine Eff_of (stAll b2 rfl rfl (by omega)) ?_
  have k3 := Keep.upd k2.ok b2 (c := ⟨0, .ex, c.cells⟩) rfl
  have hne : p1.nat ≠ p3.nat := by subst hp3; omega
  have b13 := k3.old _ _ b12 hne
  have b33 := blk_upd_same (σ := σ2) p3 ⟨0, .ex, c.cells⟩
  have k03 : Keep (fun x => x = p3.nat) σ _ := ((k1.trans k2).mono fun _ e => e.elim).trans k3
  have hlo : σ.next.nat ≤ p3.nat := by subst hp3; exact k1.next
  generalize σ2.upd p3 ⟨0, .ex, c.cells⟩ = σ3 at b13 b33 k03
  have fin : ∀ σ', Keep (fun x => x = p3.nat) σ3 σ' → Q (.bool c.right) σ' := fun σ' k => hQ σ' (Keep.then ho (Keep.refl ho) (k03.trans k) fun x hx e => by omega)
  have put : ∀ (x : Cm) {τ : S}, τ.blk p3 = some ⟨0, .ex, x.cells⟩ → Keep (fun x => x = p3.nat) σ3 τ → ∀ y : Cm, (τ.upd p3 ⟨0, .ex, y.cells⟩).blk p3 = some ⟨0, .ex, y.cells⟩ ∧ Keep (fun x => x = p3.nat) σ3 (τ.upd p3 ⟨0, .ex, y.cells⟩) ∧ (τ.upd p3 ⟨0, .ex, y.cells⟩).blk p1 = some ⟨0, .ex, c.cells⟩ := by
    intro x τ hx hk y
    have hu := Keep.upd hk.ok hx (c := ⟨0, .ex, y.cells⟩) rfl
    have hu : Keep (fun x => x = p3.nat) τ _ := hu
    have hk2 := hk.trans hu
    exact ⟨blk_upd_same _ _, hk2, hk2.old _ _ b13 hne⟩
  have k33 := Keep.refl (M := fun x => x = p3.nat) k03.ok
  refine Som_of (vFieldAddr_ptr _ _ _) ?_
  refine Som_of ((load1_of b13).trans rfl) ?_
  refine Som_of (bin_eql _ _ _ _) ?_
  refine WIf_dec (fun hk => ?_) (fun hk => ?_)
  · refine Som_of (v := .agg [iv 0, iv 0, iv 0, iv 0, iv 0, iv 0, iv 0, iv 0, iv 0, iv 0]) rfl ?_
    refine Som_of (vFieldAddr_ptr _ _ _) ?_
    refine Eff_of (storeN_of b33 rfl (by omega) (Nat.le_of_ble_eq_true rfl)) ?_
    obtain ⟨g1, g2, g3⟩ := put c b33 k33 { c with o0 := 0, o1 := 0, o2 := 0, o3 := 0, o4 := 0, o5 := 0, o6 := 0, o7 := 0, o8 := 0, o9 := 0 }
    refine rr_end g3 g1 ?_ (fin _ g2)
    rw [kc_eq]
    simp [Cm.cells, Cm.right, Cm.drv, Cm.ord, hk, and_assoc]
  refine Som_of (bin_eql _ _ _ _) ?_
  have mid : ∀ {E : En}, E 1 = .ptr p1 0 → E 3 = .ptr p3 0 → E 11 = .bool true → (c.k = 2 ∨ c.k = 4 ∨ c.k = 7) → f44.p0 (WF tab) Q E σ3 := by
    intro E e1 e3 e11 hk
    unfold f44.p0
    rw [e1, e3, e11, WIf_true]
    refine Som_of (vFieldAddr_ptr _ _ _) ?_
    refine Eff_of (store1_of b33 (Nat.le_of_ble_eq_true rfl) rfl) ?_
    obtain ⟨g1, g2, g3⟩ := put c b33 k33 { c with i := 0 }
    refine rr_end g3 g1 ?_ (fin _ g2)
    rw [kc_eq]
    rcases hk with hk | hk | hk <;> simp [Cm.cells, Cm.right, Cm.drv, Cm.ord, hk, and_assoc]
  refine WIf_dec (fun hk2 => ?_) (fun hk2 => ?_)
  · exact f44.p0_of (mid rfl rfl (congrArg AVal.bool (decide_eq_true hk2)) (.inl hk2))
  refine Som_of (bin_eql _ _ _ _) ?_
  refine WIf_dec (fun hk4 => ?_) (fun hk4 => ?_)
  · exact f44.p0_of (mid rfl rfl (congrArg AVal.bool (decide_eq_true hk4)) (.inr (.inl hk4)))
  refine Som_of (bin_eql _ _ _ _) ?_
  by_cases hk7 : c.k = 7
  · exact f44.p0_of (mid rfl rfl (congrArg AVal.bool (decide_eq_true hk7)) (.inr (.inr hk7)))
  refine f44.p0_of ?_
  unfold f44.p0
  refine WIf_f (p := c.k = 7) hk7 ?_
  refine Som_of (bin_eql _ _ c.k _) ?_
  refine WIf_dec (fun hk3 => ?_) (fun hk3 => ?_)
  · refine Som_of (v := .agg [iv 0, iv 0, iv 0, iv 0, iv 0, .bool false]) rfl ?_
    refine Som_of (vFieldAddr_ptr _ _ _) ?_
    refine Eff_of (storeN_of b33 rfl (by omega) (Nat.le_of_ble_eq_true rfl)) ?_
    obtain ⟨g1, g2, g3⟩ := put c b33 k33 { c with d0 := 0, d1 := 0, d2 := 0, d3 := 0, d4 := 0, r := false }
    refine rr_end g3 g1 ?_ (fin _ g2)
    rw [kc_eq]
    simp [Cm.cells, Cm.right, Cm.drv, Cm.ord, hk3, and_assoc]
  refine Som_of (bin_eql _ _ c.k _) ?_
  refine WIf_dec (fun hk5 => ?_) (fun hk5 => ?_)
  · refine Som_of (vFieldAddr_ptr _ _ _) ?_
    refine Eff_of (store1_of b33 (Nat.le_of_ble_eq_true rfl) rfl) ?_
    obtain ⟨g1, g2, g3⟩ := put c b33 k33 { c with i := 0 }
    refine Som_of (vFieldAddr_ptr _ _ _) ?_
    refine Eff_of (store1_of g1 (Nat.le_of_ble_eq_true rfl) rfl) ?_
    obtain ⟨g1, g2, g3⟩ := put { c with i := 0 } g1 g2 { c with i := 0, n := 0 }
    refine rr_end g3 g1 ?_ (fin _ g2)
    rw [kc_eq]
    simp [Cm.cells, Cm.right, Cm.drv, Cm.ord, hk5, and_assoc]
  refine Som_of (bin_eql _ _ c.k _) ?_
  refine WIf_dec (fun hk6 => ?_) (fun hk6 => ?_)
  · refine Som_of (vFieldAddr_ptr _ _ _) ?_
    refine Eff_of (store1_of b33 (Nat.le_of_ble_eq_true rfl) rfl) ?_
    obtain ⟨g1, g2, g3⟩ := put c b33 k33 { c with n := 0 }
    refine rr_end g3 g1 ?_ (fin _ g2)
    rw [kc_eq]
    simp [Cm.cells, Cm.right, Cm.drv, Cm.ord, hk6, and_assoc]
  rw [Ret_1 rfl]
  have hf : c.right = false := by
    unfold Cm.right
    rw [decide_eq_false (by omega : ¬ (1 ≤ c.k ∧ c.k ≤ 7))]; rfl
  have := fin σ3 k33
  rwa [hf] at this
end
end Go.Am
namespace Go.Am
section
variable {tab : Nat → Option PFn} {σ : S} {Q : AVal → S → Prop}
theorem eql_t {tk : TK} {k : IntKind} {a b : Int} (h : a = b) : binA .eql tk (.int k a) (.int k b) = some (.bool true) := by rw [bin_eql, decide_eq_true h]
theorem eql_f {tk : TK} {k : IntKind} {a b : Int} (h : a ≠ b) : binA .eql tk (.int k a) (.int k b) = some (.bool false) := by rw [bin_eql, decide_eq_false h]
theorem right_kind {c : Cm} (h : c.right = true) : 1 ≤ c.k ∧ c.k ≤ 7 := by
  by_cases hk : 1 ≤ c.k ∧ c.k ≤ 7
  · exact hk
  · unfold Cm.right at h
    rw [decide_eq_false hk] at h
    cases h
def Cm.nums (c : Cm) : List Int :=
  if c.k = 7 then [c.i] else if c.k = 2 then [c.i] else if c.k = 4 then [c.i] else if c.k = 5 then [c.i, c.n] else if c.k = 6 then [c.n] else if c.k = 3 then c.drv else c.ord
def Cm.flag (c : Cm) : Int := if c.r then 1 else 0
def Cm.numsT (c : Cm) : List Int := c.nums ++ (if c.k = 3 then [c.flag] else [])
noncomputable def Cm.words (c : Cm) : List Nat := saidOf (calledOf c.k) c.numsT
noncomputable def Cm.told (c : Cm) : List Nat := if c.right then c.words else []
theorem itoaN_0 : itoaN 0 = [48] := (numOf_iff.1 numOf_0).1
theorem itoaN_1 : itoaN 1 = [49] := (numOf_iff.1 numOf_1).1
theorem words_eq (c : Cm) : c.words = saidOf (calledOf c.k) c.nums ++ (if c.k = 3 then (if c.r then [32, 49] else [32, 48]) else []) := by
  unfold Cm.words Cm.numsT
  by_cases h : c.k = 3
  · rw [if_pos h, if_pos h, saidOf_app]
    unfold Cm.flag
    cases c.r
    · simp [saidOf, itoaN_0]
    · simp [saidOf, itoaN_1]
  · rw [if_neg h, if_neg h, List.append_nil, List.append_nil]
theorem kinds {k : Int} (h : 1 ≤ k ∧ k ≤ 7) : k = 7 ∨ k = 2 ∨ k = 4 ∨ k = 5 ∨ k = 6 ∨ k = 3 ∨ k = 1 := by omega
theorem places_pts {b : Pos} {e : Nat} {c : Cm} (hb : σ.blk b = some ⟨e, .ex, c.cells⟩) (hk : 1 ≤ c.k ∧ c.k ≤ 7) : (placesOf c.k).length = c.nums.length ∧ Pts σ ((placesOf c.k).map (.ptr b)) c.nums := by
  rcases c with ⟨k, o0, o1, o2, o3, o4, o5, o6, o7, o8, o9, d0, d1, d2, d3, d4, r, i, n⟩
  have hk : 1 ≤ k ∧ k ≤ 7 := hk
  rcases kinds hk with rfl | rfl | rfl | rfl | rfl | rfl | rfl
  · exact ⟨rfl, Pts.cons hb rfl Pts.nil⟩
  · exact ⟨rfl, Pts.cons hb rfl Pts.nil⟩
  · exact ⟨rfl, Pts.cons hb rfl Pts.nil⟩
  · exact ⟨rfl, Pts.cons hb rfl (Pts.cons hb rfl Pts.nil)⟩
  · exact ⟨rfl, Pts.cons hb rfl Pts.nil⟩
  · exact ⟨rfl, Pts.cons hb rfl (Pts.cons hb rfl (Pts.cons hb rfl (Pts.cons hb rfl (Pts.cons hb rfl Pts.nil))))⟩
  · exact ⟨rfl, Pts.cons hb rfl (Pts.cons hb rfl (Pts.cons hb rfl (Pts.cons hb rfl (Pts.cons hb rfl (Pts.cons hb rfl (Pts.cons hb rfl (Pts.cons hb rfl (Pts.cons hb rfl (Pts.cons hb rfl Pts.nil)))))))))⟩
theorem nums_in {c : Cm} (hc : c.Ok) : ∀ n ∈ c.nums, InR n := by
  obtain ⟨_, h1, h2, h3, h4⟩ := hc
  intro n hn
  unfold Cm.nums at hn
  repeat' split at hn
  · rw [List.mem_singleton.1 hn]; exact h3
  · rw [List.mem_singleton.1 hn]; exact h3
  · rw [List.mem_singleton.1 hn]; exact h3
  · rcases List.mem_cons.1 hn with rfl | hn
    · exact h3
    · rw [List.mem_singleton.1 hn]; exact h4
  · rw [List.mem_singleton.1 hn]; exact h4
  · exact h2 n hn
  · exact h1 n hn
theorem numsT_in {c : Cm} (hc : c.Ok) : ∀ n ∈ c.numsT, InR n := by
  intro n hn
  rcases List.mem_append.1 hn with hn | hn
  · exact nums_in hc n hn
  · split at hn
    · rw [List.mem_singleton.1 hn]; unfold Cm.flag InR; split <;> omega
    · cases hn
theorem nums_len (c : Cm) : c.nums.length ≤ 10 := by
  unfold Cm.nums Cm.drv Cm.ord
  repeat' split
  all_goals simp
theorem numsT_len (c : Cm) : c.numsT.length ≤ 11 := by
  unfold Cm.numsT
  have := nums_len c
  rw [List.length_append]
  split <;> simp <;> omega
theorem calledOf_len (k : Int) : (calledOf k).length ≤ 8 := by
  unfold calledOf
  repeat' split
  all_goals decide
theorem calledOf_ne {k : Int} (h : 1 ≤ k ∧ k ≤ 7) : calledOf k ≠ [] := by
  rcases kinds h with rfl | rfl | rfl | rfl | rfl | rfl | rfl <;> decide
theorem words_len {c : Cm} (hc : c.Ok) : c.words.length ≤ 239 := by
  have h1 := saidOf_len (numsT_in hc) (calledOf c.k)
  have h2 := numsT_len c
  have h3 := calledOf_len c.k
  unfold Cm.words
  omega
theorem words_ne {c : Cm} (h : 1 ≤ c.k ∧ c.k ≤ 7) : c.words ≠ [] := saidOf_ne (calledOf_ne h) _
theorem spoken_c (h : Hs tab) (ho : Ok σ) {c : Cm} (hc : c.Ok) (hk : 1 ≤ c.k ∧ c.k ≤ 7) (hQ : ∀ σ', Keep (fun _ => False) σ σ' → Q (.str c.words) σ') : WF tab 26 [.agg c.cells] σ Q := by
  refine f26_wf h.ht.t26 ?_
  unfold f26
  refine Ala_of (b := ⟨0, .ex, c.cells⟩) (mk := fun p => .ptr p 0) rfl ?_
  obtain ⟨k1, b1⟩ := boxA ho (M := fun _ => False) c.cells
  generalize σ.new ⟨0, .ex, c.cells⟩ = σ1 at k1 b1
  generalize σ.next = p1 at b1
  refine called_c (k := c.k) h k1.ok b1 hk fun v m σ2 hv hv1 hm k2 => ?_
  have b2 := k2.old _ _ b1 fun e => e
  refine Som_of rfl ?_
  refine Som_of rfl ?_
  obtain ⟨e1, hp⟩ := places_pts b2 hk
  have hl := nums_len c
  have hw := calledOf_len c.k
  have hsl := saidOf_len (nums_in hc) (calledOf c.k)
  refine join_c h (by rw [← e1]; exact hv) hp (nums_in hc) (by omega) (by omega) ?_
  have hQ := hQ σ2 (k1.trans k2)
  rw [words_eq] at hQ
  refine Som_of (vFieldAddr_ptr _ _ _) ?_
  refine Som_of ((load1_of b2).trans rfl) ?_
  by_cases h3 : c.k = 3
  · rw [if_pos h3] at hQ
    refine Som_of (eql_t h3) ?_
    refine Sq_of rfl (vFieldAddr_ptr _ _ _) ?_
    refine Sq_of rfl (vFieldAddr_ptr _ _ _) ?_
    refine Sq_of rfl ((load1_of b2).trans rfl) ?_
    refine Som_of (vPick_true _ _) ?_
    cases hr : c.r with
    | true =>
      rw [hr] at hQ
      rw [WIf_true]
      refine Som_of (bin_add_str _ (by simp; omega)) ?_
      rw [Ret_1 rfl]; exact hQ
    | false =>
      rw [hr] at hQ
      rw [WIf_false]
      refine Som_of (vFieldAddr_ptr _ _ _) ?_
      refine Som_of ((load1_of b2).trans rfl) ?_
      refine Som_of (eql_t h3) ?_
      rw [WIf_true]
      refine Som_of (bin_add_str _ (by simp; omega)) ?_
      rw [Ret_1 rfl]; exact hQ
  · rw [if_neg h3, List.append_nil] at hQ
    refine Som_of (eql_f h3) ?_
    refine Sn_of rfl ?_
    refine Sn_of rfl ?_
    refine Sn_of rfl ?_
    refine Som_of (vPick_false _ _) ?_
    rw [WIf_false]
    refine Som_of (vFieldAddr_ptr _ _ _) ?_
    refine Som_of ((load1_of b2).trans rfl) ?_
    refine Som_of (eql_f h3) ?_
    rw [WIf_false, Ret_1 rfl]; exact hQ
theorem said_end (h : Hs tab) (ho : Ok σ) {c : Cm} {o : Option (Blk × (Pos → AVal))} {w : List Nat} {ns : List Int} {n : Nat} (ho1 : o = some (⟨1, .ex, ns.map (.int .i64)⟩, fun p => .sl p 0 n n)) (hn : ns.length = n)
    (hc : c.Ok) (hw : calledOf c.k = w) (hns : c.numsT = ns) (hQ : ∀ σ', Keep (fun _ => False) σ σ' → Q (.str c.words) σ') :
    Ala o σ fun v σ1 => WF tab 28 [.str w, v] σ1 fun t σ2 => Ret [some t] σ2 Q := by
  refine Ala_sl ho _ ho1 (by simpa using hn) fun p σ' g1 g2 g3 => ?_
  have hin := numsT_in hc
  have hl := numsT_len c
  have hw2 := calledOf_len c.k
  rw [hns] at hin hl
  rw [hw] at hw2
  subst hn
  refine said_c h g1 hin (by omega) (by omega) ?_
  rw [Ret_1 rfl]
  have := hQ σ' g3
  unfold Cm.words at this
  rwa [hw, hns] at this
theorem told_c (h : Hs tab) (ho : Ok σ) {c : Cm} (hc : c.Ok) (hQ : ∀ σ', Keep (fun _ => False) σ σ' → Q (.str c.told) σ') : WF tab 27 [.agg c.cells] σ Q := by
  refine f27_wf h.ht.t27 ?_
  unfold f27
  refine Ala_of (b := ⟨0, .ex, c.cells⟩) (mk := fun p => .ptr p 0) rfl ?_
  obtain ⟨k1, b1⟩ := boxA ho (M := fun _ => False) c.cells
  generalize σ.new ⟨0, .ex, c.cells⟩ = σ1 at k1 b1
  generalize σ.next = p1 at b1
  refine Som_of (ldAll (n := 19) b1 rfl) ?_
  refine RRight_c h k1.ok fun σ2 k2 => ?_
  have b2 := k2.old _ _ b1 fun e => e
  have k02 := k1.trans k2
  refine Som_of (un_not _) ?_
  cases hr : c.right with
  | false =>
    show WIf (.bool true) _ _
    rw [WIf_true, Ret_1 rfl]
    have := hQ σ2 k02
    unfold Cm.told at this
    rw [hr] at this
    exact this
  | true =>
    show WIf (.bool false) _ _
    rw [WIf_false]
    have hQ : ∀ σ', Keep (fun _ => False) σ2 σ' → Q (.str c.words) σ' := fun σ' k => by
      have := hQ σ' (k02.trans k)
      unfold Cm.told at this
      rwa [hr] at this
    have hk := right_kind hr
    clear hr
    refine Som_of (vFieldAddr_ptr _ _ _) ?_
    refine Som_of ((load1_of b2).trans rfl) ?_
    rcases c with ⟨k, o0, o1, o2, o3, o4, o5, o6, o7, o8, o9, d0, d1, d2, d3, d4, r, i, n⟩
    have hk : 1 ≤ k ∧ k ≤ 7 := hk
    have hcase := kinds hk
    rcases hcase with rfl | hcase
    · refine Som_of (eql_t rfl) ?_
      rw [WIf_true]
      refine Som_of (vFieldAddr_ptr _ _ _) ?_
      refine Som_of ((load1_of b2).trans rfl) ?_
      exact said_end h k02.ok (ns := [i]) rfl rfl hc rfl rfl hQ
    refine Som_of (eql_f (a := k) (by omega)) ?_
    rw [WIf_false]
    rcases hcase with rfl | hcase
    · refine Som_of (eql_t rfl) ?_
      rw [WIf_true]
      refine Som_of (vFieldAddr_ptr _ _ _) ?_
      refine Som_of ((load1_of b2).trans rfl) ?_
      exact said_end h k02.ok (ns := [i]) rfl rfl hc rfl rfl hQ
    refine Som_of (eql_f (a := k) (by omega)) ?_
    rw [WIf_false]
    rcases hcase with rfl | hcase
    · refine Som_of (eql_t rfl) ?_
      rw [WIf_true]
      refine Som_of (vFieldAddr_ptr _ _ _) ?_
      refine Som_of ((load1_of b2).trans rfl) ?_
      exact said_end h k02.ok (ns := [i]) rfl rfl hc rfl rfl hQ
    refine Som_of (eql_f (a := k) (by omega)) ?_
    rw [WIf_false]
    by_cases h6 : k = 6
    · subst h6
      refine Som_of (eql_t rfl) ?_
      rw [WIf_true]
      refine Som_of (vFieldAddr_ptr _ _ _) ?_
      refine Som_of ((load1_of b2).trans rfl) ?_
      exact said_end h k02.ok (ns := [n]) rfl rfl hc rfl rfl hQ
    refine Som_of (eql_f (a := k) h6) ?_
    rw [WIf_false]
    by_cases h5 : k = 5
    · subst h5
      refine Som_of (eql_t rfl) ?_
      rw [WIf_true]
      refine Som_of (vFieldAddr_ptr _ _ _) ?_
      refine Som_of ((load1_of b2).trans rfl) ?_
      refine Som_of (vFieldAddr_ptr _ _ _) ?_
      refine Som_of ((load1_of b2).trans rfl) ?_
      exact said_end h k02.ok (ns := [i, n]) rfl rfl hc rfl rfl hQ
    refine Som_of (eql_f (a := k) h5) ?_
    rw [WIf_false]
    by_cases h3 : k = 3
    · subst h3
      refine Som_of (eql_t rfl) ?_
      rw [WIf_true]
      refine Som_of (vFieldAddr_ptr _ _ _) ?_
      refine Som_of (ldN (xs := [iv d0, iv d1, iv d2, iv d3, iv d4, .bool r]) b2 (Nat.le_of_ble_eq_true rfl) rfl) ?_
      refine Ala_of (b := ⟨0, .ex, [iv 0, iv 0, iv 0, iv 0, iv 0, .bool false]⟩) (mk := fun p => .ptr p 0) rfl ?_
      obtain ⟨k3, b3⟩ := boxA k02.ok (M := fun _ => False) [iv 0, iv 0, iv 0, iv 0, iv 0, .bool false]
      have hp3 : σ2.next.nat ≤ σ2.next.nat := Nat.le_refl _
      generalize hq : σ2.next = p3 at b3 hp3
      refine Eff_of (stAll b3 rfl rfl (by omega)) ?_
      have k4 := Keep.upd k3.ok b3 (c := ⟨0, .ex, [iv d0, iv d1, iv d2, iv d3, iv d4, .bool r]⟩) rfl
      have k4 : Keep (fun x => x = p3.nat) _ _ := k4
      have b4 := blk_upd_same (σ := σ2.new ⟨0, .ex, [iv 0, iv 0, iv 0, iv 0, iv 0, .bool false]⟩) p3 ⟨0, .ex, [iv d0, iv d1, iv d2, iv d3, iv d4, .bool r]⟩
      have k24 : Keep (fun _ => False) σ2 _ := Keep.then k02.ok k3 k4 fun x hx e => by subst hq; omega
      generalize (σ2.new ⟨0, .ex, [iv 0, iv 0, iv 0, iv 0, iv 0, .bool false]⟩).upd p3 ⟨0, .ex, [iv d0, iv d1, iv d2, iv d3, iv d4, .bool r]⟩ = σ4 at b4 k24
      refine Som_of (vFieldAddr_ptr _ _ _) ?_
      refine Som_of ((load1_of b4).trans rfl) ?_
      have mid : ∀ {E : En}, E 3 = .ptr p3 0 → E 4 = iv (if r then 1 else 0) → f27.p0 (WF tab) Q E σ4 := by
        intro E e3 e4
        unfold f27.p0
        rw [e3, e4]
        repeat first | refine Som_of (vFieldAddr_ptr _ _ _) ?_ | refine Som_of ((load1_of b4).trans rfl) ?_
        exact said_end h k24.ok (ns := [d0, d1, d2, d3, d4, if r then 1 else 0]) rfl rfl hc rfl rfl fun σ' k => hQ σ' (k24.trans k)
      cases r with
      | true =>
        rw [WIf_true]
        exact f27.p0_of (mid rfl rfl)
      | false =>
        rw [WIf_false]
        exact f27.p0_of (mid rfl rfl)
    · have h1 : k = 1 := by omega
      subst h1
      refine Som_of (eql_f (a := 1) (b := 3) (by decide)) ?_
      rw [WIf_false]
      refine Som_of (vFieldAddr_ptr _ _ _) ?_
      refine Som_of (ldN (xs := [iv o0, iv o1, iv o2, iv o3, iv o4, iv o5, iv o6, iv o7, iv o8, iv o9]) b2 (Nat.le_of_ble_eq_true rfl) rfl) ?_
      refine Ala_of (b := ⟨0, .ex, [iv 0, iv 0, iv 0, iv 0, iv 0, iv 0, iv 0, iv 0, iv 0, iv 0]⟩) (mk := fun p => .ptr p 0) rfl ?_
      obtain ⟨k3, b3⟩ := boxA k02.ok (M := fun _ => False) [iv 0, iv 0, iv 0, iv 0, iv 0, iv 0, iv 0, iv 0, iv 0, iv 0]
      have hp3 : σ2.next.nat ≤ σ2.next.nat := Nat.le_refl _
      generalize hq : σ2.next = p3 at b3 hp3
      refine Eff_of (stAll b3 rfl rfl (by omega)) ?_
      have k4 := Keep.upd k3.ok b3 (c := ⟨0, .ex, [iv o0, iv o1, iv o2, iv o3, iv o4, iv o5, iv o6, iv o7, iv o8, iv o9]⟩) rfl
      have k4 : Keep (fun x => x = p3.nat) _ _ := k4
      have b4 := blk_upd_same (σ := σ2.new ⟨0, .ex, [iv 0, iv 0, iv 0, iv 0, iv 0, iv 0, iv 0, iv 0, iv 0, iv 0]⟩) p3 ⟨0, .ex, [iv o0, iv o1, iv o2, iv o3, iv o4, iv o5, iv o6, iv o7, iv o8, iv o9]⟩
      have k24 : Keep (fun _ => False) σ2 _ := Keep.then k02.ok k3 k4 fun x hx e => by subst hq; omega
      generalize (σ2.new ⟨0, .ex, [iv 0, iv 0, iv 0, iv 0, iv 0, iv 0, iv 0, iv 0, iv 0, iv 0]⟩).upd p3 ⟨0, .ex, [iv o0, iv o1, iv o2, iv o3, iv o4, iv o5, iv o6, iv o7, iv o8, iv o9]⟩ = σ4 at b4 k24
      repeat first | refine Som_of (vFieldAddr_ptr _ _ _) ?_ | refine Som_of ((load1_of b4).trans rfl) ?_
      exact said_end h k24.ok (ns := [o0, o1, o2, o3, o4, o5, o6, o7, o8, o9]) rfl rfl hc rfl rfl fun σ' k => hQ σ' (k24.trans k)
end
end Go.Am
namespace Go.Am
section
variable {tab : Nat → Option PFn} {σ : S} {Q : AVal → S → Prop}
def Cm.zero : Cm := ⟨0, 0, 0, 0, 0, 0, 0, 0, 0, 0, 0, 0, 0, 0, 0, 0, false, 0, 0⟩
def Sp.only (k : Int) : Sp := ⟨k, 0, 0, 0, 0, 0, Cm.zero⟩
def Sp.nums (s : Sp) : List Int :=
  if s.k = 1 then [s.a, s.b, s.n] else if s.k = 3 then [s.a, s.b, s.n] else if s.k = 2 then [s.a, s.b, s.n] else if s.k = 7 then [s.a, s.b, s.n] else if s.k = 4 then [s.a, s.b] else if s.k = 5 then [s.a, s.b] else
  if s.k = 6 then [s.a, s.n] else if s.k = 8 then [s.a, s.n] else if s.k = 12 then [s.a, s.n] else if s.k = 10 then [s.a] else if s.k = 11 then [s.a] else []
def Sp.clear (s : Sp) : Sp :=
  if s.k = 1 then { s with a := 0, b := 0, n := 0 } else if s.k = 3 then { s with a := 0, b := 0, n := 0 } else if s.k = 2 then { s with a := 0, b := 0, n := 0 } else if s.k = 7 then { s with a := 0, b := 0, n := 0 } else
  if s.k = 4 then { s with a := 0, b := 0 } else if s.k = 5 then { s with a := 0, b := 0 } else
  if s.k = 6 then { s with a := 0, n := 0 } else if s.k = 8 then { s with a := 0, n := 0 } else if s.k = 12 then { s with a := 0, n := 0 } else if s.k = 10 then { s with a := 0 } else if s.k = 11 then { s with a := 0 } else s
theorem Cm.cells_inj {c d : Cm} (h : c.cells = d.cells) : c = d := by
  cases c; cases d
  simp [Cm.cells] at h
  simp [h]
theorem Sp.cells_inj {s t : Sp} (h : s.cells = t.cells) : s = t := by
  have h1 : s.cells.take 6 = t.cells.take 6 := by rw [h]
  have h2 : s.c.cells = t.c.cells := by
    have : s.cells.drop 6 = t.cells.drop 6 := by rw [h]
    exact this
  have h2 := Cm.cells_inj h2
  have h1 : [iv s.k, iv s.a, iv s.b, iv s.n, iv s.s, iv s.q] = [iv t.k, iv t.a, iv t.b, iv t.n, iv t.s, iv t.q] := h1
  cases s; cases t
  simp at h1 h2
  simp [h1, h2]
theorem Sp.cells_iff {s t : Sp} : s.cells = t.cells ↔ s = t := ⟨Sp.cells_inj, fun h => by rw [h]⟩
open Classical in
noncomputable def Sp.line (s : Sp) : List Nat :=
  if s.k = 9 then (if s.c.right = true ∧ s.q = 0 ∧ s.b = 0 ∧ s.n = 0 then saidOf callW [s.a, s.s] ++ 32 :: s.c.words else [])
  else if wordOf s.k ≠ [] ∧ s.clear = Sp.only s.k then saidOf (wordOf s.k) s.nums else []
theorem sames_self {l : List AVal} (h : ∀ v ∈ l, same1 v v = true) : sames l l = true := by
  induction l with
  | nil => rfl
  | cons v l ih =>
    show (match same1 v v with | true => sames l l | false => false) = true
    rw [h v List.mem_cons_self]
    exact ih fun w hw => h w (List.mem_cons_of_mem _ hw)
theorem same1_int (n : Int) : same1 (iv n) (iv n) = true := same_int .i64 n
theorem same1_bool (b : Bool) : same1 (.bool b) (.bool b) = true := by cases b <;> rfl
theorem same_cm (c : Cm) : same (.agg c.cells) (.agg c.cells) = true := by
  refine sames_self (l := c.cells) fun v hv => ?_
  simp only [Cm.cells, List.mem_cons, List.not_mem_nil, or_false] at hv
  rcases hv with rfl | rfl | rfl | rfl | rfl | rfl | rfl | rfl | rfl | rfl | rfl | rfl | rfl | rfl | rfl | rfl | rfl | rfl | rfl <;> first | exact same1_int _ | exact same1_bool _
theorem or4 {K : AVal → Prop} {x r : Bool} {A1 : Option AVal} {A2 A3 A4 : AVal → Option AVal} {v1 v2 v3 : AVal} (h1 : A1 = some v1) (h2 : A2 v1 = some v2) (h3 : A3 v2 = some v3) (h4 : A4 v3 = some (.bool r)) (k : K (.bool (x || r))) :
    Som (gq1 (isB (.bool x) false) A1) fun t1 => Som (gq1 (isB (.bool x) false) (A2 t1)) fun t2 => Som (gq1 (isB (.bool x) false) (A3 t2)) fun t3 => Som (gq1 (isB (.bool x) false) (A4 t3)) fun t4 => Som (vPick (.bool x) (.bool true) t4) K := by
  cases x with
  | true => exact Sn_of rfl (Sn_of rfl (Sn_of rfl (Sn_of rfl (Som_of rfl k))))
  | false => exact Sq_of rfl h1 (Sq_of rfl h2 (Sq_of rfl h3 (Sq_of rfl h4 (Som_of rfl k))))
theorem or3 {K : AVal → Prop} {x r : Bool} {A1 : Option AVal} {A2 A3 : AVal → Option AVal} {v1 v2 : AVal} (h1 : A1 = some v1) (h2 : A2 v1 = some v2) (h3 : A3 v2 = some (.bool r)) (k : K (.bool (x || r))) :
    Som (gq1 (isB (.bool x) false) A1) fun t1 => Som (gq1 (isB (.bool x) false) (A2 t1)) fun t2 => Som (gq1 (isB (.bool x) false) (A3 t2)) fun t3 => Som (vPick (.bool x) (.bool true) t3) K := by
  cases x with
  | true => exact Sn_of rfl (Sn_of rfl (Sn_of rfl (Som_of rfl k)))
  | false => exact Sq_of rfl h1 (Sq_of rfl h2 (Sq_of rfl h3 (Som_of rfl k)))
theorem WIf_b {A B : Prop} {b : Bool} (h1 : b = true → A) (h2 : b = false → B) : WIf (.bool b) A B := by
  cases b with
  | true => rw [WIf_true]; exact h1 rfl
  | false => rw [WIf_false]; exact h2 rfl
def clearAll (cs : List AVal) : List Nat → List AVal
  | [] => cs
  | p :: ps => clearAll (cs.set p (iv 0)) ps
theorem clearAll_len {cs : List AVal} {ps : List Nat} : (clearAll cs ps).length = cs.length := by
  induction ps generalizing cs with
  | nil => rfl
  | cons p ps ih => unfold clearAll; rw [ih, List.length_set]
theorem clear_loop {v : AVal} {ps : List Nat} {m : Nat} {p1 : Pos} (hv : PtSl σ v p1 ps m) (hm : m ≠ p1.nat) (hl : ps.length ≤ 1000) (hps : ∀ o ∈ ps, o < 25) {cs0 : List AVal} {line : List Nat}
    (hE : ∀ (E : En) (σ' : S), E 1 = .ptr p1 0 → E 4 = .str line → Ok σ' → Keep (fun x => x = p1.nat) σ σ' → σ'.blk p1 = some ⟨0, .ex, cs0⟩ → f9.J1 (WF tab) Q E σ') :
    ∀ (d i : Nat) (E : En) (σ' : S) (cs : List AVal), i + d = ps.length → E 1 = .ptr p1 0 → E 4 = .str line → E 50 = v → E 51 = iv (ps.length : Int) → E 52 = iv (i : Int) → Ok σ' → Keep (fun x => x = p1.nat) σ σ' →
      σ'.blk p1 = some ⟨0, .ex, cs⟩ → cs.length = 25 → clearAll cs (ps.drop i) = cs0 → f9.L0 (WF tab) Q E σ' := by
  intro d
  induction d with
  | zero =>
    intro i E σ' cs hd h1 h4 h50 h51 h52 ho hk hb hcs hc
    refine f9.p0_of ?_
    unfold f9.p0
    rw [h52, h51]
    refine Som_of (bin_lss _ _ _ _) ?_
    refine WIf_f (by omega) ?_
    rw [List.drop_of_length_le (by omega)] at hc
    exact hE _ _ h1 h4 ho hk (by rw [hb]; exact congrArg (fun c => some (Blk.mk 0 .ex c)) hc)
  | succ d ih =>
    intro i E σ' cs hd h1 h4 h50 h51 h52 ho hk hb hcs hc
    refine f9.p0_of ?_
    unfold f9.p0
    rw [h52, h51, h50]
    have hlt : i < ps.length := by omega
    refine Som_of (bin_lss _ _ _ _) ?_
    refine WIf_t (by omega) ?_
    obtain ⟨p, g1, g2⟩ := (SlAt.keep hv (fun _ => hm) hk).get1 hlt
    have hpi : (ps.map (AVal.ptr p1))[i]? = some (.ptr p1 ps[i]) := by rw [List.getElem?_map, List.getElem?_eq_getElem hlt]; rfl
    refine Som_of g1 ?_
    refine Som_of (g2.trans hpi) ?_
    refine Som_of (vNilck_ptr _ _) ?_
    refine Eff_of (store1_of hb (by rw [hcs]; exact hps _ (List.getElem_mem hlt)) rfl) ?_
    refine Som_of (bin_add _ _ _ _) ?_
    have hu : Keep (fun x => x = p1.nat) σ' _ := Keep.upd ho hb (c := ⟨0, .ex, cs.set ps[i] (.int .i64 0)⟩) rfl
    refine ih (i + 1) _ _ (cs.set ps[i] (iv 0)) (by omega) h1 h4 h50 h51 ?_ hu.ok (hk.trans hu) (blk_upd_same _ _) (by rw [List.length_set]; exact hcs) ?_
    · show AVal.int .i64 (IntKind.i64.wrap ((i : Int) + 1)) = _
      rw [wrap_i64_in (by omega) (by omega)]; rfl
    · rw [List.drop_eq_getElem_cons hlt] at hc
      exact hc
theorem wkinds {k : Int} (h : wordOf k ≠ []) : k = 1 ∨ k = 2 ∨ k = 3 ∨ k = 4 ∨ k = 5 ∨ k = 6 ∨ k = 7 ∨ k = 8 ∨ k = 10 ∨ k = 11 ∨ k = 12 := by
  unfold wordOf at h
  repeat' split at h
  all_goals first | omega | exact absurd rfl h
theorem wordOf_len (k : Int) : (wordOf k).length ≤ 7 := by
  unfold wordOf
  repeat' split
  all_goals decide
theorem snums_in {s : Sp} (h : s.Ok) : ∀ n ∈ s.nums, InR n := by
  obtain ⟨_, ha, hb, hn, _⟩ := h
  intro n hm
  unfold Sp.nums at hm
  repeat' split at hm
  all_goals simp only [List.mem_cons, List.not_mem_nil, or_false] at hm
  all_goals first
    | (rcases hm with rfl | rfl | rfl <;> assumption)
    | (rcases hm with rfl | rfl <;> assumption)
    | (subst hm; assumption)
theorem snums_len (s : Sp) : s.nums.length ≤ 3 := by
  unfold Sp.nums
  repeat' split
  all_goals simp
theorem fields_pts {b : Pos} {e : Nat} {s : Sp} (hb : σ.blk b = some ⟨e, .ex, s.cells⟩) (hk : wordOf s.k ≠ []) :
    (fieldsOf s.k).length = s.nums.length ∧ Pts σ ((fieldsOf s.k).map (.ptr b)) s.nums ∧ clearAll s.cells (fieldsOf s.k) = s.clear.cells ∧ s.clear.k = s.k := by
  rcases s with ⟨k, a, bb, n, s, q, c⟩
  rcases wkinds hk with h | h | h | h | h | h | h | h | h | h | h
  all_goals
    have h : k = _ := h
    subst h
  · exact ⟨rfl, Pts.cons hb rfl (Pts.cons hb rfl (Pts.cons hb rfl Pts.nil)), rfl, rfl⟩
  · exact ⟨rfl, Pts.cons hb rfl (Pts.cons hb rfl (Pts.cons hb rfl Pts.nil)), rfl, rfl⟩
  · exact ⟨rfl, Pts.cons hb rfl (Pts.cons hb rfl (Pts.cons hb rfl Pts.nil)), rfl, rfl⟩
  · exact ⟨rfl, Pts.cons hb rfl (Pts.cons hb rfl Pts.nil), rfl, rfl⟩
  · exact ⟨rfl, Pts.cons hb rfl (Pts.cons hb rfl Pts.nil), rfl, rfl⟩
  · exact ⟨rfl, Pts.cons hb rfl (Pts.cons hb rfl Pts.nil), rfl, rfl⟩
  · exact ⟨rfl, Pts.cons hb rfl (Pts.cons hb rfl (Pts.cons hb rfl Pts.nil)), rfl, rfl⟩
  · exact ⟨rfl, Pts.cons hb rfl (Pts.cons hb rfl Pts.nil), rfl, rfl⟩
  · exact ⟨rfl, Pts.cons hb rfl Pts.nil, rfl, rfl⟩
  · exact ⟨rfl, Pts.cons hb rfl Pts.nil, rfl, rfl⟩
  · exact ⟨rfl, Pts.cons hb rfl (Pts.cons hb rfl Pts.nil), rfl, rfl⟩
theorem only_cells (k : Int) : (Sp.only k).cells = sc k := rfl
theorem Line_c (h : Hs tab) (ho : Ok σ) {s : Sp} (hs : s.Ok) (hQ : ∀ σ', Keep (fun _ => False) σ σ' → Q (.str s.line) σ') : WF tab 9 [.agg s.cells] σ Q := by
  refine f9_wf h.ht.t9 ?_
  unfold f9
  refine Ala_of (b := ⟨0, .ex, s.cells⟩) (mk := fun p => .ptr p 0) rfl ?_
  obtain ⟨k1, b1⟩ := boxA ho (M := fun _ => False) s.cells
  generalize σ.new ⟨0, .ex, s.cells⟩ = σ1 at k1 b1
  have hp1 := k1.ok.lt b1
  have hlo : σ.next.nat ≤ σ.next.nat := Nat.le_refl _
  generalize hp : σ.next = p1 at b1 hp1 hlo
  refine Som_of (vFieldAddr_ptr _ _ _) ?_
  refine Som_of ((load1_of b1).trans rfl) ?_
  unfold Sp.line at hQ
  by_cases h9 : s.k = 9
  · rw [if_pos h9] at hQ
    refine Som_of (eql_t h9) ?_
    rw [WIf_true]
    refine Som_of (vFieldAddr_ptr _ _ _) ?_
    refine Som_of (vFieldAddr_ptr _ _ _) ?_
    refine Som_of (ldN (xs := s.c.cells) b1 (Nat.le_of_ble_eq_true rfl) rfl) ?_
    refine Right_c h k1.ok fun σ2 k2 => ?_
    have b2 := k2.old _ _ b1 fun e => e
    have k02 := k1.trans k2
    refine Som_of (un_not _) ?_
    refine or4 (vFieldAddr_ptr _ _ _) (vFieldAddr_ptr _ _ _) ((load1_of b2).trans rfl) (bin_neq _ _ _ _) ?_
    refine or3 (vFieldAddr_ptr _ _ _) ((load1_of b2).trans rfl) (bin_neq _ _ _ _) ?_
    refine or3 (vFieldAddr_ptr _ _ _) ((load1_of b2).trans rfl) (bin_neq _ _ _ _) ?_
    refine WIf_b (fun hb => ?_) (fun hb => ?_)
    · have hno : ¬ (s.c.right = true ∧ s.q = 0 ∧ s.b = 0 ∧ s.n = 0) := by
        rintro ⟨g1, g2, g3, g4⟩
        rw [g1, g2, g3, g4] at hb
        exact absurd hb (by decide)
      have := hQ σ2 k02
      rw [if_neg hno] at this
      rw [Ret_1 rfl]; exact this
    · simp only [Bool.or_eq_false_iff, decide_eq_false_iff_not, Bool.not_eq_false', Classical.not_not, ne_eq] at hb
      obtain ⟨⟨⟨g1, g2⟩, g3⟩, g4⟩ := hb
      have hyes : s.c.right = true ∧ s.q = 0 ∧ s.b = 0 ∧ s.n = 0 := ⟨g1, g2, g3, g4⟩
      rw [if_pos hyes] at hQ
      refine Som_of (vFieldAddr_ptr _ _ _) ?_
      refine Som_of (vFieldAddr_ptr _ _ _) ?_
      refine Som_of (vFieldAddr_ptr _ _ _) ?_
      refine Som_of (vFieldAddr_ptr _ _ _) ?_
      refine Som_of (vFieldAddr_ptr _ _ _) ?_
      have kb := Keep.bump k02.ok 12 (M := fun _ => False)
      refine Som_of (ldN (xs := s.c.cells) (kb.old _ _ b2 fun e => e) (Nat.le_of_ble_eq_true rfl) rfl) ?_
      refine Alb_sl k02.ok (by decide) [.ptr p1 1, .ptr p1 4] rfl rfl fun p σ3 e1 e2 k3 => ?_
      have b3 := k3.old _ _ b2 fun e => e
      obtain ⟨_, hia, _, _, his, _, hic⟩ := hs
      have hin : ∀ n ∈ [s.a, s.s], InR n := by
        intro n hn
        simp only [List.mem_cons, List.not_mem_nil, or_false] at hn
        rcases hn with rfl | rfl <;> assumption
      have hsl := saidOf_len hin callW
      have hwl := words_len hic
      refine join_c h (w := callW) (ns := [s.a, s.s]) e1 (Pts.cons b3 rfl (Pts.cons b3 rfl Pts.nil)) hin (Nat.le_of_ble_eq_true rfl) (by decide) ?_
      refine Sure_of (SameO_of (ldN (xs := s.c.cells) b3 (Nat.le_of_ble_eq_true rfl) rfl) (same_cm _)) ?_
      have hcl : callW.length = 4 := rfl
      simp only [List.length_cons, List.length_nil] at hsl
      refine Som_of (bin_add_str _ (by simp; omega)) ?_
      refine spoken_c h k3.ok hic (right_kind g1) fun σ4 k4 => ?_
      refine Som_of (bin_add_str _ (by simp; omega)) ?_
      rw [Ret_1 rfl]
      have := hQ σ4 ((k02.trans k3).trans k4)
      rw [List.append_assoc]
      exact this
  · rw [if_neg h9] at hQ
    refine Som_of (eql_f h9) ?_
    rw [WIf_false]
    refine Som_of (vFieldAddr_ptr _ _ _) ?_
    refine Som_of ((load1_of b1).trans rfl) ?_
    refine word_c h ?_
    refine Som_of (bin_eql_str _ _ _) ?_
    refine WIf_dec (fun hw => ?_) (fun hw => ?_)
    · have := hQ σ1 k1
      rw [if_neg (fun e => e.1 hw)] at this
      rw [Ret_1 rfl]; exact this
    · have hwk := wkinds hw
      refine fields_c (k := s.k) h k1.ok b1 hwk ?_
      intro v m σ2 hv hv1 hm k2
      have b2 := k2.old _ _ b1 fun e => e
      obtain ⟨e1, hpt, _, _⟩ := fields_pts b2 hw
      have hnl := snums_len s
      have hwl := wordOf_len s.k
      refine join_c h (ns := s.nums) (by rw [← e1]; exact hv) hpt (snums_in hs) (by omega) (by omega) ?_
      refine fields_c (k := s.k) h k2.ok b2 hwk ?_
      intro v2 m2 σ3 hv2 hv21 hm2 k3
      have b3 := k3.old _ _ b2 fun e => e
      have k03 := (k1.trans k2).trans k3
      obtain ⟨e1, _, hcl, hck⟩ := fields_pts b3 hw
      refine Som_of hv2.len ?_
      have hm21 : m2 ≠ p1.nat := by
        have := k2.next
        omega
      refine clear_loop (cs0 := s.clear.cells) hv2 hm21 (by rw [e1]; omega) (fun o ho => fields_lt o ho) ?_ (fieldsOf s.k).length 0 _ σ3 s.cells (by omega) rfl rfl rfl rfl rfl k3.ok (Keep.refl k3.ok) b3 rfl hcl
      intro E σ4 e1 e4 ho4 k4 b4
      refine f9.p1_of ?_
      unfold f9.p1
      rw [e1, e4]
      have k04 : Keep (fun _ => False) σ σ4 := Keep.then ho k03 k4 fun x hx e => by subst hp; omega
      refine Som_of (ldAll (n := 25) b4 rfl) ?_
      refine Som_of (vFieldAddr_ptr _ _ _) ?_
      refine Som_of ((load1_of b4).trans rfl) ?_
      refine Som_of (v := .agg (sc s.clear.k)) rfl ?_
      obtain ⟨r, g1, g2⟩ := eqAgg_dec (ks := ks25) (a := s.clear.cells) (b := sc s.clear.k) trivial trivial true
      refine Som_of g1 ?_
      rw [← only_cells, Sp.cells_iff, hck] at g2
      have := hQ σ4 k04
      cases r with
      | true =>
        show WIf (.bool false) _ _
        rw [WIf_false, Ret_1 rfl]
        rw [if_pos ⟨hw, g2.1 rfl⟩] at this
        exact this
      | false =>
        show WIf (.bool true) _ _
        rw [WIf_true, Ret_1 rfl]
        rw [if_neg (fun e => by have := g2.2 e.2; cases this)] at this
        exact this
end
end Go.Am
namespace Go.Am
theorem splitA_app (c : Nat) (u b : List Nat) : splitA c (u ++ c :: b) = splitA c u ++ splitA c b := by
  induction u with
  | nil =>
    show (if c = c then [] :: splitA c b else _) = [[]] ++ splitA c b
    rw [if_pos rfl]; rfl
  | cons x u ih =>
    show (if x = c then [] :: splitA c (u ++ c :: b) else match splitA c (u ++ c :: b) with | [] => [[x]] | w :: ws => (x :: w) :: ws) = (if x = c then [] :: splitA c u else match splitA c u with | [] => [[x]] | w :: ws => (x :: w) :: ws) ++ splitA c b
    rw [ih]
    by_cases hx : x = c
    · rw [if_pos hx, if_pos hx]; rfl
    · rw [if_neg hx, if_neg hx]
      cases hs : splitA c u with
      | nil => exact absurd hs (splitA_ne c u)
      | cons w ws => rfl
theorem splitA_one {c : Nat} {u : List Nat} (h : c ∉ u) : splitA c u = [u] := by
  induction u with
  | nil => rfl
  | cons x u ih =>
    show (if x = c then [] :: splitA c u else match splitA c u with | [] => [[x]] | w :: ws => (x :: w) :: ws) = _
    rw [if_neg (fun e => h (by rw [e]; exact List.mem_cons_self)), ih (fun e => h (List.mem_cons_of_mem _ e))]
theorem decN_mem (u : Nat) : ∀ c ∈ decN u, 48 ≤ c ∧ c ≤ 57 := by
  induction u using Nat.strongRecOn with
  | ind u ih =>
    intro c hc
    by_cases h : u < 10
    · rw [decN_lt h] at hc
      rw [List.mem_singleton.1 hc]; omega
    · rw [decN_ge h] at hc
      rcases List.mem_append.1 hc with hc | hc
      · exact ih (u / 10) (by omega) c hc
      · rw [List.mem_singleton.1 hc]; omega
theorem itoaN_no (n : Int) : 32 ∉ itoaN n := by
  intro hm
  rcases Int.lt_or_le n 0 with hn | hn
  · obtain ⟨u, rfl⟩ : ∃ u : Nat, n = -(u : Int) := ⟨n.natAbs, by omega⟩
    rw [itoaN_neg u (by omega)] at hm
    rcases List.mem_cons.1 hm with e | hm
    · cases e
    · have := decN_mem u _ hm; omega
  · obtain ⟨u, rfl⟩ := Int.eq_ofNat_of_zero_le hn
    rw [itoaN_nonneg] at hm
    have := decN_mem u _ hm; omega
theorem saidOf_cons (w : List Nat) (n : Int) (ns : List Int) : saidOf w (n :: ns) = w ++ 32 :: saidOf (itoaN n) ns := by
  show saidOf (w ++ 32 :: itoaN n) ns = _
  rw [saidOf_pre, show 32 :: itoaN n = [32] ++ itoaN n from rfl, saidOf_pre]; rfl
theorem split_said {w : List Nat} (h : 32 ∉ w) (ns : List Int) : splitA 32 (saidOf w ns) = w :: ns.map itoaN := by
  induction ns generalizing w with
  | nil => exact splitA_one h
  | cons n ns ih => rw [saidOf_cons, splitA_app, splitA_one h, ih (itoaN_no n)]; rfl
theorem numOf_itoa {n : Int} (h : InR n) : numOf (itoaN n) = some n := numOf_iff.2 ⟨rfl, h.1, h.2⟩
theorem numsOf_itoa {ns : List Int} (h : ∀ n ∈ ns, InR n) : numsOf (ns.map itoaN) = some ns := by
  induction ns with
  | nil => rfl
  | cons n ns ih =>
    rw [List.map_cons]
    unfold numsOf
    rw [numOf_itoa (h n List.mem_cons_self), ih fun x hx => h x (List.mem_cons_of_mem _ hx)]
theorem fill_itoa {ns : List Int} {ps : List Nat} (h : ∀ n ∈ ns, InR n) (hl : ns.length = ps.length) (cs : List AVal) : fill (ns.map itoaN) ps cs = some (putAll cs ps ns) := by
  unfold fill
  rw [if_pos (by rw [List.length_map]; exact hl), numsOf_itoa h]
theorem parseOf_split {l w : List Nat} {ws : List (List Nat)} {cs : List AVal} (hl : l.length ≤ 400) (h : splitA 32 l = w :: ws) (hs : stepOf w ws = some cs) : parseOf l = (cs, 0) := by
  unfold parseOf
  rw [if_neg (by omega), h]
  simp only
  rw [hs]
theorem word_facts {k : Int} (h : wordOf k ≠ []) : 32 ∉ wordOf k ∧ wordOf k ≠ callW ∧ kindOf (wordOf k) = k := by
  rcases wkinds h with rfl | rfl | rfl | rfl | rfl | rfl | rfl | rfl | rfl | rfl | rfl <;> decide
theorem parse_word {s : Sp} (hs : s.Ok) (hw : wordOf s.k ≠ []) : ∃ x : Sp, parseOf (saidOf (wordOf s.k) s.nums) = (x.cells, 0) ∧ (x = s ↔ s.clear = Sp.only s.k) := by
  have hin := snums_in hs
  have hl := saidOf_len hin (wordOf s.k)
  have hl2 := snums_len s
  have hl3 := wordOf_len s.k
  have hle : (saidOf (wordOf s.k) s.nums).length ≤ 400 := by omega
  have fin : ∀ {ps : List Nat} {z : List AVal} {x : Sp}, fieldsOf s.k = ps → sc s.k = z → s.nums.length = ps.length → putAll z ps s.nums = x.cells → (x = s ↔ s.clear = Sp.only s.k) →
      ∃ x : Sp, parseOf (saidOf (wordOf s.k) s.nums) = (x.cells, 0) ∧ (x = s ↔ s.clear = Sp.only s.k) := by
    intro ps z x h4 h5 h6 h7 h8
    obtain ⟨h1, h2, h3⟩ := word_facts hw
    refine ⟨x, parseOf_split hle (split_said h1 _) ?_, h8⟩
    unfold stepOf
    rw [if_neg h2, h3, h4, h5, fill_itoa hin h6, h7]
    have hk0 : s.k ≠ 0 := by rcases wkinds hw with h | h | h | h | h | h | h | h | h | h | h <;> omega
    rw [if_neg hk0]
  rcases s with ⟨k, a, b, n, s, q, c⟩
  rcases wkinds hw with h | h | h | h | h | h | h | h | h | h | h
  all_goals
    have h : k = _ := h
    subst h
  · exact fin (x := ⟨1, a, b, n, 0, 0, Cm.zero⟩) rfl rfl rfl rfl (by simp [Sp.clear, Sp.only, eq_comm])
  · exact fin (x := ⟨2, a, b, n, 0, 0, Cm.zero⟩) rfl rfl rfl rfl (by simp [Sp.clear, Sp.only, eq_comm])
  · exact fin (x := ⟨3, a, b, n, 0, 0, Cm.zero⟩) rfl rfl rfl rfl (by simp [Sp.clear, Sp.only, eq_comm])
  · exact fin (x := ⟨4, a, b, 0, 0, 0, Cm.zero⟩) rfl rfl rfl rfl (by simp [Sp.clear, Sp.only, eq_comm])
  · exact fin (x := ⟨5, a, b, 0, 0, 0, Cm.zero⟩) rfl rfl rfl rfl (by simp [Sp.clear, Sp.only, eq_comm])
  · exact fin (x := ⟨6, a, 0, n, 0, 0, Cm.zero⟩) rfl rfl rfl rfl (by simp [Sp.clear, Sp.only, eq_comm])
  · exact fin (x := ⟨7, a, b, n, 0, 0, Cm.zero⟩) rfl rfl rfl rfl (by simp [Sp.clear, Sp.only, eq_comm])
  · exact fin (x := ⟨8, a, 0, n, 0, 0, Cm.zero⟩) rfl rfl rfl rfl (by simp [Sp.clear, Sp.only, eq_comm])
  · exact fin (x := ⟨10, a, 0, 0, 0, 0, Cm.zero⟩) rfl rfl rfl rfl (by simp [Sp.clear, Sp.only, eq_comm])
  · exact fin (x := ⟨11, a, 0, 0, 0, 0, Cm.zero⟩) rfl rfl rfl rfl (by simp [Sp.clear, Sp.only, eq_comm])
  · exact fin (x := ⟨12, a, 0, n, 0, 0, Cm.zero⟩) rfl rfl rfl rfl (by simp [Sp.clear, Sp.only, eq_comm])
theorem calledOf_no {k : Int} (h : 1 ≤ k ∧ k ≤ 7) : 32 ∉ calledOf k := by
  rcases kinds h with rfl | rfl | rfl | rfl | rfl | rfl | rfl <;> decide
theorem cmd_words {c : Cm} (hc : c.Ok) (hr : c.right = true) : cmdOf (calledOf c.k :: c.numsT.map itoaN) = some c.cells := by
  have hk := right_kind hr
  have hin := numsT_in hc
  have h0 : kOf (calledOf c.k) = c.k := kOf_eq hk rfl
  show (if kOf (calledOf c.k) = 0 then none else cmdK (kOf (calledOf c.k)) (c.numsT.map itoaN)) = _
  rw [h0, if_neg (by omega)]
  have hn := numsOf_itoa hin
  rcases c with ⟨k, o0, o1, o2, o3, o4, o5, o6, o7, o8, o9, d0, d1, d2, d3, d4, r, i, n⟩
  have hk : 1 ≤ k ∧ k ≤ 7 := hk
  rcases kinds hk with rfl | rfl | rfl | rfl | rfl | rfl | rfl
  · rw [cmdK_n (k := 7) (by decide) rfl hn]
    simp [Cm.right, Cm.ord, Cm.drv] at hr
    simp [hr, Cm.cells, Cm.numsT, Cm.nums, placesOf, putAll, kc, zero19]
  · rw [cmdK_n (k := 2) (by decide) rfl hn]
    simp [Cm.right, Cm.ord, Cm.drv] at hr
    simp [hr, Cm.cells, Cm.numsT, Cm.nums, placesOf, putAll, kc, zero19]
  · rw [cmdK_n (k := 4) (by decide) rfl hn]
    simp [Cm.right, Cm.ord, Cm.drv] at hr
    simp [hr, Cm.cells, Cm.numsT, Cm.nums, placesOf, putAll, kc, zero19]
  · rw [cmdK_n (k := 5) (by decide) rfl hn]
    simp [Cm.right, Cm.ord, Cm.drv] at hr
    simp [hr, Cm.cells, Cm.numsT, Cm.nums, placesOf, putAll, kc, zero19]
  · rw [cmdK_n (k := 6) (by decide) rfl hn]
    simp [Cm.right, Cm.ord, Cm.drv] at hr
    simp [hr, Cm.cells, Cm.numsT, Cm.nums, placesOf, putAll, kc, zero19]
  · have hn : numsOf _ = some [d0, d1, d2, d3, d4, Cm.flag ⟨3, o0, o1, o2, o3, o4, o5, o6, o7, o8, o9, d0, d1, d2, d3, d4, r, i, n⟩] := hn
    rw [cmdK_3 hn]
    simp [Cm.right, Cm.ord, Cm.drv] at hr
    cases r <;> simp [hr, Cm.cells, Cm.flag, putAll, kc, zero19]
  · rw [cmdK_n (k := 1) (by decide) rfl hn]
    simp [Cm.right, Cm.ord, Cm.drv] at hr
    simp [hr, Cm.cells, Cm.numsT, Cm.nums, Cm.ord, placesOf, putAll, kc, zero19]
theorem parse_call {a s : Int} {c : Cm} (ha : InR a) (hs : InR s) (hc : c.Ok) (hr : c.right = true) : parseOf (saidOf callW [a, s] ++ 32 :: c.words) = ((⟨9, a, 0, 0, s, 0, c⟩ : Sp).cells, 0) := by
  have hin : ∀ n ∈ [a, s], InR n := by
    intro n hn
    simp only [List.mem_cons, List.not_mem_nil, or_false] at hn
    rcases hn with rfl | rfl <;> assumption
  have h1 := saidOf_len hin callW
  have h2 := words_len hc
  have h3 : callW.length = 4 := rfl
  simp only [List.length_cons, List.length_nil] at h1
  have hsp : splitA 32 (saidOf callW [a, s] ++ 32 :: c.words) = callW :: (itoaN a :: itoaN s :: calledOf c.k :: c.numsT.map itoaN) := by
    rw [splitA_app, split_said (by decide)]
    unfold Cm.words
    rw [split_said (calledOf_no (right_kind hr))]
    rfl
  refine parseOf_split (by rw [List.length_append, List.length_cons]; omega) hsp ?_
  unfold stepOf
  rw [if_pos rfl]
  unfold callOf
  rw [if_neg (by simp)]
  have hn := numsOf_itoa hin
  have e1 : (itoaN a :: itoaN s :: calledOf c.k :: c.numsT.map itoaN).take 2 = [a, s].map itoaN := rfl
  have e2 : (itoaN a :: itoaN s :: calledOf c.k :: c.numsT.map itoaN).drop 2 = calledOf c.k :: c.numsT.map itoaN := rfl
  rw [e1, e2, hn]
  simp only
  rw [cmd_words hc hr]
  rfl
end Go.Am
namespace Go.Am
section
variable {tab : Nat → Option PFn} {σ : S} {Q : AVal → S → Prop}
theorem said_in (h : Hs tab) (ho : Ok σ) {K : AVal → S → Prop} {o : Option (Blk × (Pos → AVal))} {w : List Nat} {ns : List Int} {n : Nat} (ho1 : o = some (⟨1, .ex, ns.map (.int .i64)⟩, fun p => .sl p 0 n n)) (hn : ns.length = n)
    (hin : ∀ n ∈ ns, InR n) (hl : ns.length ≤ 1000) (hw : w.length ≤ 1000) (hK : ∀ σ', Keep (fun _ => False) σ σ' → K (.str (saidOf w ns)) σ') :
    Ala o σ fun v σ1 => WF tab 28 [.str w, v] σ1 K := by
  refine Ala_sl ho _ ho1 (by simpa using hn) fun p σ' g1 g2 g3 => ?_
  subst hn
  exact said_c h g1 hin hl hw (hK σ' g3)
def kl : List Int := [1, 3, 2, 7, 4, 5, 6, 8, 12, 10, 11]
noncomputable def lookOf (s : Sp) : List Int → List Nat → List Nat
  | [], l => l
  | j :: js, l => lookOf s js (if j = s.k then saidOf (wordOf j) s.nums else l)
theorem lookOf_no {s : Sp} {js : List Int} (h : s.k ∉ js) (l : List Nat) : lookOf s js l = l := by
  induction js generalizing l with
  | nil => rfl
  | cons j js ih =>
    unfold lookOf
    rw [if_neg (fun e => h (by rw [← e]; exact List.mem_cons_self)), ih (fun e => h (List.mem_cons_of_mem _ e))]
theorem lookOf_yes {s : Sp} {js : List Int} (h : s.k ∈ js) (hn : js.Nodup) (l : List Nat) : lookOf s js l = saidOf (wordOf s.k) s.nums := by
  induction js generalizing l with
  | nil => cases h
  | cons j js ih =>
    unfold lookOf
    by_cases e : j = s.k
    · subst e
      rw [if_pos rfl, lookOf_no (List.nodup_cons.1 hn).1]
    · rw [if_neg e]
      exact ih ((List.mem_cons.1 h).resolve_left (fun x => e x.symm)) (List.nodup_cons.1 hn).2 l
theorem kl_word : ∀ j ∈ kl, wordOf j ≠ [] := by decide
theorem kl_of {k : Int} (h : wordOf k ≠ []) : k ∈ kl := by
  rcases wkinds h with rfl | rfl | rfl | rfl | rfl | rfl | rfl | rfl | rfl | rfl | rfl <;> decide
theorem kl_nodup : kl.Nodup := by decide
theorem look_loop (h : Hs tab) {v : AVal} {m : Nat} {p1 : Pos} {s : Sp} (hs : s.Ok) (hv : StSl σ v (kl.map wordOf) m) (b1 : σ.blk p1 = some ⟨0, .ex, s.cells⟩) {lf : List Nat}
    (hE : ∀ (E : En) (σ' : S), E 1 = .ptr p1 0 → E 3 = .str lf → Keep (fun _ => False) σ σ' → f10.J2 (WF tab) Q E σ') :
    ∀ (d i : Nat) (E : En) (σ' : S) (l : List Nat), i + d = 11 → E 1 = .ptr p1 0 → E 3 = .str l → E 30 = v → E 31 = iv 11 → E 32 = iv (i : Int) → Keep (fun _ => False) σ σ' → lookOf s (kl.drop i) l = lf → f10.L1 (WF tab) Q E σ' := by
  intro d
  induction d with
  | zero =>
    intro i E σ' l hd h1 h3 h30 h31 h32 hk hl
    refine f10.p1_of ?_
    unfold f10.p1
    rw [h32, h31]
    refine Som_of (bin_lss _ _ _ _) ?_
    refine WIf_f (by omega) ?_
    rw [List.drop_of_length_le (by show 11 ≤ i; omega)] at hl
    exact hE _ _ h1 (by rw [← hl]; exact h3) hk
  | succ d ih =>
    intro i E σ' l hd h1 h3 h30 h31 h32 hk hl
    refine f10.p1_of ?_
    unfold f10.p1
    rw [h32, h31, h30, h1]
    have hlt : i < kl.length := by show i < 11; omega
    refine Som_of (bin_lss _ _ _ _) ?_
    refine WIf_t (by omega) ?_
    obtain ⟨p, g1, g2⟩ := (SlAt.keep hv (fun _ e => e) hk).get1 (k := i) (by rw [List.length_map]; exact hlt)
    have hpi : ((kl.map wordOf).map AVal.str)[i]? = some (.str (wordOf kl[i])) := by rw [List.getElem?_map, List.getElem?_map, List.getElem?_eq_getElem hlt]; rfl
    refine Som_of g1 ?_
    refine Som_of (g2.trans hpi) ?_
    have hwj := kl_word _ (List.getElem_mem hlt)
    obtain ⟨_, _, hkj⟩ := word_facts hwj
    have hdrop := List.drop_eq_getElem_cons hlt
    generalize kl[i] = j at hwj hkj hdrop
    rw [hdrop] at hl
    have hl : lookOf s (kl.drop (i + 1)) (if j = s.k then saidOf (wordOf j) s.nums else l) = lf := hl
    refine kind_c h ?_
    rw [hkj]
    refine Som_of rfl ?_
    refine Som_of rfl ?_
    refine Som_of (vFieldAddr_ptr _ _ _) ?_
    have b2 := hk.old _ _ b1 fun e => e
    refine Som_of ((load1_of b2).trans rfl) ?_
    refine Som_of (bin_neq _ _ _ _) ?_
    have e32 : IntKind.i64.wrap ((i : Int) + 1) = ((i + 1 : Nat) : Int) := by rw [wrap_i64_in (by omega) (by omega)]; rfl
    refine WIf_dec (fun hne => ?_) (fun he => ?_)
    · rw [if_neg hne] at hl
      refine Som_of (bin_add _ _ _ _) ?_
      exact ih (i + 1) _ σ' l (by omega) h1 h3 h30 h31 (congrArg (AVal.int .i64) e32) hk hl
    · have he : j = s.k := Classical.not_not.1 he
      rw [if_pos he] at hl
      have hin := snums_in hs
      have hwl := wordOf_len j
      have fin : ∀ (E2 : En) (σ2 : S), E2 1 = .ptr p1 0 → E2 3 = .str (saidOf (wordOf j) s.nums) → E2 30 = v → E2 31 = iv 11 → E2 32 = .int .i64 (IntKind.i64.wrap ((i : Int) + 1)) → Keep (fun _ => False) σ' σ2 → f10.L1 (WF tab) Q E2 σ2 := by
        intro E2 σ2 f1 f3 f30 f31 f32 fk
        exact ih (i + 1) E2 σ2 _ (by omega) f1 f3 f30 f31 (f32.trans (congrArg (AVal.int .i64) e32)) (hk.trans fk) hl
      clear ih hl hdrop hpi g2 hkj
      rcases s with ⟨k, a, b, n, s, q, c⟩
      have he : j = k := he
      subst he
      rcases wkinds hwj with rfl | rfl | rfl | rfl | rfl | rfl | rfl | rfl | rfl | rfl | rfl
      · refine Som_of (eql_t rfl) ?_
        rw [WIf_true]
        repeat first | refine Som_of (vFieldAddr_ptr _ _ _) ?_ | refine Som_of ((load1_of b2).trans rfl) ?_
        refine said_in h hk.ok (ns := [a, b, n]) rfl rfl hin (Nat.le_of_ble_eq_true rfl) (by omega) fun σ2 k2 => ?_
        refine Som_of (bin_add _ _ _ _) ?_
        exact fin _ σ2 h1 rfl h30 h31 rfl k2
      · refine Som_of (eql_t rfl) ?_
        rw [WIf_true]
        repeat first | refine Som_of (vFieldAddr_ptr _ _ _) ?_ | refine Som_of ((load1_of b2).trans rfl) ?_
        refine said_in h hk.ok (ns := [a, b, n]) rfl rfl hin (Nat.le_of_ble_eq_true rfl) (by omega) fun σ2 k2 => ?_
        refine Som_of (bin_add _ _ _ _) ?_
        exact fin _ σ2 h1 rfl h30 h31 rfl k2
      · refine Som_of (eql_t rfl) ?_
        rw [WIf_true]
        repeat first | refine Som_of (vFieldAddr_ptr _ _ _) ?_ | refine Som_of ((load1_of b2).trans rfl) ?_
        refine said_in h hk.ok (ns := [a, b, n]) rfl rfl hin (Nat.le_of_ble_eq_true rfl) (by omega) fun σ2 k2 => ?_
        refine Som_of (bin_add _ _ _ _) ?_
        exact fin _ σ2 h1 rfl h30 h31 rfl k2
      · refine Som_of (eql_f (show (2 : Int) ≠ 3 by decide)) ?_
        rw [WIf_false]
        refine Som_of (eql_f (show (2 : Int) ≠ 1 by decide)) ?_
        rw [WIf_false]
        refine Som_of (eql_t rfl) ?_
        refine Sn_of rfl ?_
        refine Sn_of rfl ?_
        refine Som_of (vPick_true _ _) ?_
        rw [WIf_true]
        repeat first | refine Som_of (vFieldAddr_ptr _ _ _) ?_ | refine Som_of ((load1_of b2).trans rfl) ?_
        refine said_in h hk.ok (ns := [a, b]) rfl rfl hin (Nat.le_of_ble_eq_true rfl) (by omega) fun σ2 k2 => ?_
        refine Som_of (bin_add _ _ _ _) ?_
        exact fin _ σ2 h1 rfl h30 h31 rfl k2
      · refine Som_of (eql_f (show (2 : Int) ≠ 3 by decide)) ?_
        rw [WIf_false]
        refine Som_of (eql_f (show (2 : Int) ≠ 1 by decide)) ?_
        rw [WIf_false]
        refine Som_of (eql_f (show (5 : Int) ≠ 4 by decide)) ?_
        refine Sq_of rfl rfl ?_
        refine Sq_of rfl (eql_t rfl) ?_
        refine Som_of (vPick_false _ _) ?_
        rw [WIf_true]
        repeat first | refine Som_of (vFieldAddr_ptr _ _ _) ?_ | refine Som_of ((load1_of b2).trans rfl) ?_
        refine said_in h hk.ok (ns := [a, b]) rfl rfl hin (Nat.le_of_ble_eq_true rfl) (by omega) fun σ2 k2 => ?_
        refine Som_of (bin_add _ _ _ _) ?_
        exact fin _ σ2 h1 rfl h30 h31 rfl k2
      · refine Som_of (eql_f (show (2 : Int) ≠ 3 by decide)) ?_
        rw [WIf_false]
        refine Som_of (eql_f (show (2 : Int) ≠ 1 by decide)) ?_
        rw [WIf_false]
        refine Som_of (eql_f (show (6 : Int) ≠ 4 by decide)) ?_
        refine Sq_of rfl rfl ?_
        refine Sq_of rfl (eql_f (show (6 : Int) ≠ 5 by decide)) ?_
        refine Som_of (vPick_false _ _) ?_
        rw [WIf_false]
        repeat first | refine Som_of (vFieldAddr_ptr _ _ _) ?_ | refine Som_of ((load1_of b2).trans rfl) ?_
        refine said_in h hk.ok (ns := [a, n]) rfl rfl hin (Nat.le_of_ble_eq_true rfl) (by omega) fun σ2 k2 => ?_
        refine Som_of (bin_add _ _ _ _) ?_
        exact fin _ σ2 h1 rfl h30 h31 rfl k2
      · refine Som_of (eql_t rfl) ?_
        rw [WIf_true]
        repeat first | refine Som_of (vFieldAddr_ptr _ _ _) ?_ | refine Som_of ((load1_of b2).trans rfl) ?_
        refine said_in h hk.ok (ns := [a, b, n]) rfl rfl hin (Nat.le_of_ble_eq_true rfl) (by omega) fun σ2 k2 => ?_
        refine Som_of (bin_add _ _ _ _) ?_
        exact fin _ σ2 h1 rfl h30 h31 rfl k2
      · refine Som_of (eql_f (show (2 : Int) ≠ 3 by decide)) ?_
        rw [WIf_false]
        refine Som_of (eql_f (show (2 : Int) ≠ 1 by decide)) ?_
        rw [WIf_false]
        refine Som_of (eql_f (show (8 : Int) ≠ 4 by decide)) ?_
        refine Sq_of rfl rfl ?_
        refine Sq_of rfl (eql_f (show (8 : Int) ≠ 5 by decide)) ?_
        refine Som_of (vPick_false _ _) ?_
        rw [WIf_false]
        repeat first | refine Som_of (vFieldAddr_ptr _ _ _) ?_ | refine Som_of ((load1_of b2).trans rfl) ?_
        refine said_in h hk.ok (ns := [a, n]) rfl rfl hin (Nat.le_of_ble_eq_true rfl) (by omega) fun σ2 k2 => ?_
        refine Som_of (bin_add _ _ _ _) ?_
        exact fin _ σ2 h1 rfl h30 h31 rfl k2
      · refine Som_of (eql_f (show (1 : Int) ≠ 3 by decide)) ?_
        rw [WIf_false]
        refine Som_of (eql_t rfl) ?_
        rw [WIf_true]
        repeat first | refine Som_of (vFieldAddr_ptr _ _ _) ?_ | refine Som_of ((load1_of b2).trans rfl) ?_
        refine said_in h hk.ok (ns := [a]) rfl rfl hin (Nat.le_of_ble_eq_true rfl) (by omega) fun σ2 k2 => ?_
        refine Som_of (bin_add _ _ _ _) ?_
        exact fin _ σ2 h1 rfl h30 h31 rfl k2
      · refine Som_of (eql_f (show (1 : Int) ≠ 3 by decide)) ?_
        rw [WIf_false]
        refine Som_of (eql_t rfl) ?_
        rw [WIf_true]
        repeat first | refine Som_of (vFieldAddr_ptr _ _ _) ?_ | refine Som_of ((load1_of b2).trans rfl) ?_
        refine said_in h hk.ok (ns := [a]) rfl rfl hin (Nat.le_of_ble_eq_true rfl) (by omega) fun σ2 k2 => ?_
        refine Som_of (bin_add _ _ _ _) ?_
        exact fin _ σ2 h1 rfl h30 h31 rfl k2
      · refine Som_of (eql_f (show (2 : Int) ≠ 3 by decide)) ?_
        rw [WIf_false]
        refine Som_of (eql_f (show (2 : Int) ≠ 1 by decide)) ?_
        rw [WIf_false]
        refine Som_of (eql_f (show (12 : Int) ≠ 4 by decide)) ?_
        refine Sq_of rfl rfl ?_
        refine Sq_of rfl (eql_f (show (12 : Int) ≠ 5 by decide)) ?_
        refine Som_of (vPick_false _ _) ?_
        rw [WIf_false]
        repeat first | refine Som_of (vFieldAddr_ptr _ _ _) ?_ | refine Som_of ((load1_of b2).trans rfl) ?_
        refine said_in h hk.ok (ns := [a, n]) rfl rfl hin (Nat.le_of_ble_eq_true rfl) (by omega) fun σ2 k2 => ?_
        refine Som_of (bin_add _ _ _ _) ?_
        exact fin _ σ2 h1 rfl h30 h31 rfl k2
end
end Go.Am
