/-
  What the functions do, as conditions over the evaluator. Conditions: none.
-/
import Derived.Test.YtdolmkdbpnlegaaGreatDoorS0
import Derived.Lib.AtoiAllCases
import Derived.Lib.ItoaMem
namespace Go.Am
section
variable {tab : Nat → Option PFn} {σ : S} {Q : AVal → S → Prop}
theorem SameO_of {o : Option AVal} {v : AVal} (h : o = some v) (hs : same v v = true) : SameO o v = true := by rw [h]; exact hs
theorem same_int (k : IntKind) (n : Int) : same (.int k n) (.int k n) = true := by
  show (match keq k k with | true => ieq n n | false => false) = true
  rw [keq_iff.2 rfl]; exact ieq_iff.2 rfl
theorem Sure_of {b : Bool} {A : Prop} (h : b = true) (k : A) : Sure b A := ⟨h, k⟩
theorem kind_c (h : Hs tab) {w : List Nat} (hQ : Q (.tup [.int .i64 (kindOf w), .int .i64 ((fieldsOf (kindOf w)).length : Int)]) σ) : WF tab 21 [.str w] σ Q := by
  refine f21_wf h.ht.t21 ?_
  unfold f21
  refine Som_of (bin_eql_str _ _ _) ?_
  refine WIf_dec (fun hk => ?_) (fun h1 => ?_)
  · have e1 : kindOf w = 1 := by rw [hk]; decide
    rw [e1] at hQ
    rw [Ret_2 rfl rfl]; exact hQ
  refine Som_of (bin_eql_str _ _ _) ?_
  refine WIf_dec (fun hk => ?_) (fun h3 => ?_)
  · have e1 : kindOf w = 3 := by rw [hk]; decide
    rw [e1] at hQ
    rw [Ret_2 rfl rfl]; exact hQ
  refine Som_of (bin_eql_str _ _ _) ?_
  refine WIf_dec (fun hk => ?_) (fun h2 => ?_)
  · have e1 : kindOf w = 2 := by rw [hk]; decide
    rw [e1] at hQ
    rw [Ret_2 rfl rfl]; exact hQ
  refine Som_of (bin_eql_str _ _ _) ?_
  refine WIf_dec (fun hk => ?_) (fun h7 => ?_)
  · have e1 : kindOf w = 7 := by rw [hk]; decide
    rw [e1] at hQ
    rw [Ret_2 rfl rfl]; exact hQ
  refine Som_of (bin_eql_str _ _ _) ?_
  refine WIf_dec (fun hk => ?_) (fun h4 => ?_)
  · have e1 : kindOf w = 4 := by rw [hk]; decide
    rw [e1] at hQ
    rw [Ret_2 rfl rfl]; exact hQ
  refine Som_of (bin_eql_str _ _ _) ?_
  refine WIf_dec (fun hk => ?_) (fun h5 => ?_)
  · have e1 : kindOf w = 5 := by rw [hk]; decide
    rw [e1] at hQ
    rw [Ret_2 rfl rfl]; exact hQ
  refine Som_of (bin_eql_str _ _ _) ?_
  refine WIf_dec (fun hk => ?_) (fun h6 => ?_)
  · have e1 : kindOf w = 6 := by rw [hk]; decide
    rw [e1] at hQ
    rw [Ret_2 rfl rfl]; exact hQ
  refine Som_of (bin_eql_str _ _ _) ?_
  refine WIf_dec (fun hk => ?_) (fun h8 => ?_)
  · have e1 : kindOf w = 8 := by rw [hk]; decide
    rw [e1] at hQ
    rw [Ret_2 rfl rfl]; exact hQ
  refine Som_of (bin_eql_str _ _ _) ?_
  refine WIf_dec (fun hk => ?_) (fun h12 => ?_)
  · have e1 : kindOf w = 12 := by rw [hk]; decide
    rw [e1] at hQ
    rw [Ret_2 rfl rfl]; exact hQ
  refine Som_of (bin_eql_str _ _ _) ?_
  refine WIf_dec (fun hk => ?_) (fun h10 => ?_)
  · have e1 : kindOf w = 10 := by rw [hk]; decide
    rw [e1] at hQ
    rw [Ret_2 rfl rfl]; exact hQ
  refine Som_of (bin_eql_str _ _ _) ?_
  refine WIf_dec (fun hk => ?_) (fun h11 => ?_)
  · have e1 : kindOf w = 11 := by rw [hk]; decide
    rw [e1] at hQ
    rw [Ret_2 rfl rfl]; exact hQ
  have e1 : kindOf w = 0 := by
    unfold kindOf
    rw [if_neg (show ¬ w = wordOf 1 from h1), if_neg (show ¬ w = wordOf 2 from h2), if_neg (show ¬ w = wordOf 3 from h3), if_neg (show ¬ w = wordOf 4 from h4), if_neg (show ¬ w = wordOf 5 from h5), if_neg (show ¬ w = wordOf 6 from h6),
      if_neg (show ¬ w = wordOf 7 from h7), if_neg (show ¬ w = wordOf 8 from h8), if_neg (show ¬ w = wordOf 10 from h10), if_neg (show ¬ w = wordOf 11 from h11), if_neg (show ¬ w = wordOf 12 from h12)]
  rw [e1] at hQ
  rw [Ret_2 rfl rfl]; exact hQ
def cntOf (w : List Nat) : Int := if kOf w = 0 then -1 else if kOf w = 3 then 6 else ((placesOf (kOf w)).length : Int)
theorem count_mid {w : List Nat} {E : En} {b : Bool} (h4 : E 4 = .bool b) (hE3 : E 3 = .str w) (hb : b = decide (w = calledOf 7 ∨ w = calledOf 2 ∨ w = calledOf 4 ∨ w = calledOf 6)) (hQ : Q (.int .i64 (cntOf w)) σ) : f34.p0 (WF tab) Q E σ := by
  unfold f34.p0
  rw [h4, hE3]
  cases b with
  | true =>
    rw [WIf_true]
    have e1 : cntOf w = 1 := by
      rcases of_decide_eq_true hb.symm with e | e | e | e <;> (rw [e]; decide)
    rw [e1] at hQ
    rw [Ret_1 rfl]; exact hQ
  | false =>
    rw [WIf_false]
    have hn := of_decide_eq_false hb.symm
    refine Som_of (bin_eql_str _ _ _) ?_
    refine WIf_dec (fun hk => ?_) (fun h5 => ?_)
    · have e1 : cntOf w = 2 := by rw [hk]; decide
      rw [e1] at hQ
      rw [Ret_1 rfl]; exact hQ
    refine Som_of (bin_eql_str _ _ _) ?_
    refine WIf_dec (fun hk => ?_) (fun h3 => ?_)
    · have e1 : cntOf w = 6 := by rw [hk]; decide
      rw [e1] at hQ
      rw [Ret_1 rfl]; exact hQ
    refine Som_of (bin_eql_str _ _ _) ?_
    refine WIf_dec (fun hk => ?_) (fun h1 => ?_)
    · have e1 : cntOf w = 10 := by rw [hk]; decide
      rw [e1] at hQ
      rw [Ret_1 rfl]; exact hQ
    have e1 : cntOf w = -1 := by
      have : kOf w = 0 := by
        unfold kOf
        rw [if_neg (show ¬ w = calledOf 1 from h1), if_neg (fun e => hn (.inr (.inl e))), if_neg (show ¬ w = calledOf 3 from h3), if_neg (fun e => hn (.inr (.inr (.inl e)))), if_neg (show ¬ w = calledOf 5 from h5), if_neg (fun e => hn (.inr (.inr (.inr e)))), if_neg (fun e => hn (.inl e))]
      unfold cntOf
      rw [this, if_pos rfl]
    rw [e1] at hQ
    rw [Ret_1 rfl]; exact hQ
theorem count_c (h : Hs tab) {w : List Nat} (hQ : Q (.int .i64 (cntOf w)) σ) : WF tab 34 [.str w] σ Q := by
  refine f34_wf h.ht.t34 ?_
  unfold f34
  refine Som_of (bin_eql_str _ _ _) ?_
  by_cases h7 : w = calledOf 7
  · rw [decide_eq_true (show w = [113, 117, 101, 114, 121] from h7), WIf_true]
    exact f34.p0_of (count_mid (b := true) rfl rfl (decide_eq_true (.inl h7)).symm hQ)
  rw [decide_eq_false (show ¬ w = [113, 117, 101, 114, 121] from h7), WIf_false]
  refine Som_of (bin_eql_str _ _ _) ?_
  by_cases h2 : w = calledOf 2
  · rw [decide_eq_true (show w = [99, 97, 110, 99, 101, 108] from h2), WIf_true]
    exact f34.p0_of (count_mid (b := true) rfl rfl (decide_eq_true (.inr (.inl h2))).symm hQ)
  rw [decide_eq_false (show ¬ w = [99, 97, 110, 99, 101, 108] from h2), WIf_false]
  refine Som_of (bin_eql_str _ _ _) ?_
  by_cases h4 : w = calledOf 4
  · rw [decide_eq_true (show w = [114, 101, 116, 105, 114, 101] from h4), WIf_true]
    exact f34.p0_of (count_mid (b := true) rfl rfl (decide_eq_true (.inr (.inr (.inl h4)))).symm hQ)
  rw [decide_eq_false (show ¬ w = [114, 101, 116, 105, 114, 101] from h4), WIf_false]
  refine Som_of (bin_eql_str _ _ _) ?_
  by_cases h6 : w = calledOf 6
  · rw [decide_eq_true (show w = [114, 101, 112, 108, 97, 110] from h6)]
    exact f34.p0_of (count_mid (b := true) rfl rfl (decide_eq_true (.inr (.inr (.inr h6)))).symm hQ)
  rw [decide_eq_false (show ¬ w = [114, 101, 112, 108, 97, 110] from h6)]
  exact f34.p0_of (count_mid (b := false) rfl rfl (decide_eq_false (by rintro (e | e | e | e) <;> contradiction)).symm hQ)
theorem InSl.get {v : AVal} {ns : List Int} {m k : Nat} {n : Int} (h : InSl σ v ns m) (hk : ns[k]? = some n) : ∃ p, vIxSl 1 v (.int .i64 (k : Int)) = some p ∧ vLoad1 p σ = some (.int .i64 n) := by
  have hlt : k < ns.length := (List.getElem?_eq_some_iff.1 hk).1
  obtain ⟨p, h1, h2⟩ := SlAt.get1 h hlt
  refine ⟨p, h1, h2.trans ?_⟩
  rw [List.getElem?_map, hk]; rfl
theorem site_c (h : Hs tab) (ho : Ok σ) {v : AVal} {a b c d : Int} {m : Nat} (hv : InSl σ v [a, b, c, d] m) (hQ : ∀ σ', Keep (fun _ => False) σ σ' → Q (.agg [.int .i64 a, .int .i64 b, .int .i64 c, .int .i64 d]) σ') : WF tab 35 [v] σ Q := by
  refine f35_wf h.ht.t35 ?_
  unfold f35
  refine Ala_of (b := ⟨0, .ex, [.int .i64 0, .int .i64 0, .int .i64 0, .int .i64 0]⟩) (mk := fun p => .ptr p 0) rfl ?_
  have k1 := Keep.new (M := fun _ => False) ho ⟨0, .ex, [.int .i64 0, .int .i64 0, .int .i64 0, .int .i64 0]⟩
  have b2 : (σ.new ⟨0, .ex, [.int .i64 0, .int .i64 0, .int .i64 0, .int .i64 0]⟩).blk σ.next = some ⟨0, .ex, [.int .i64 0, .int .i64 0, .int .i64 0, .int .i64 0]⟩ := by rw [blk_new, if_pos rfl]; rfl
  have kb := Keep.bump k1.ok 15 (M := fun _ => False)
  have k02 := k1.trans kb
  have b3 := kb.old _ _ b2 (fun e => e)
  generalize hσ2 : (σ.new ⟨0, .ex, [.int .i64 0, .int .i64 0, .int .i64 0, .int .i64 0]⟩).bumpT 15 = σ2 at kb k02 b3
  have hv2 : InSl σ2 v [a, b, c, d] m := SlAt.keep hv (fun _ e => e) k02
  obtain ⟨p0, g0, l0⟩ := hv2.get (k := 0) rfl
  obtain ⟨p1, g1, l1⟩ := hv2.get (k := 1) rfl
  obtain ⟨p2, g2, l2⟩ := hv2.get (k := 2) rfl
  obtain ⟨p3, g3, l3⟩ := hv2.get (k := 3) rfl
  refine Som_of g0 ?_
  refine Som_of l0 ?_
  refine Som_of g1 ?_
  refine Som_of l1 ?_
  refine Som_of g2 ?_
  refine Som_of l2 ?_
  refine Som_of (v := .agg [.int .i64 b, .int .i64 c]) rfl ?_
  refine Som_of g3 ?_
  refine Som_of l3 ?_
  refine Som_of (v := .agg [.int .i64 a, .int .i64 b, .int .i64 c, .int .i64 d]) rfl ?_
  refine Eff_of (stAll b3 rfl rfl (by omega)) ?_
  rw [ldAll (n := 4) (blk_upd_same _ _) rfl, Ret_1 rfl]
  exact hQ _ (k02.then ho (Keep.upd k02.ok b3 (c := ⟨0, .ex, [.int .i64 a, .int .i64 b, .int .i64 c, .int .i64 d]⟩) rfl) fun x hx e => by have : x = σ.next.nat := e; omega)
theorem two_of {α : Type} {l : List α} (h : l.length = 2) : ∃ a b, l = [a, b] := by
  match l, h with
  | [a, b], _ => exact ⟨a, b, rfl⟩
theorem last_of {α : Type} {l : List α} (h : l ≠ []) : l.getLast? = some (l.getLast h) := List.getLast?_eq_some_getLast h
theorem kOf_ne {w : List Nat} (h : kOf w ≠ 0) : w = calledOf (kOf w) := by
  unfold kOf at h ⊢
  by_cases h1 : w = calledOf 1
  · subst h1; decide
  by_cases h2 : w = calledOf 2
  · subst h2; decide
  by_cases h3 : w = calledOf 3
  · subst h3; decide
  by_cases h4 : w = calledOf 4
  · subst h4; decide
  by_cases h5 : w = calledOf 5
  · subst h5; decide
  by_cases h6 : w = calledOf 6
  · subst h6; decide
  by_cases h7 : w = calledOf 7
  · subst h7; decide
  rw [if_neg h1, if_neg h2, if_neg h3, if_neg h4, if_neg h5, if_neg h6, if_neg h7] at h
  exact absurd rfl h
theorem numsOf_init {ws : List (List Nat)} {l : List Nat} {ns : List Int} {n : Int} (h : numsOf (ws ++ [l]) = some (ns ++ [n])) : numsOf ws = some ns ∧ numOf l = some n := by
  cases hw : numsOf ws with
  | none =>
    have : numsOf (ws ++ [l]) = none := by
      clear h
      induction ws with
      | nil => cases hw
      | cons x ws ih =>
        simp only [List.cons_append, numsOf] at hw ⊢
        cases hx : numOf x with
        | none => rfl
        | some y =>
          rw [hx] at hw
          cases hws : numsOf ws with
          | none => rw [ih hws]
          | some z => rw [hws] at hw; cases hw
    rw [this] at h; cases h
  | some ms =>
    cases hl : numOf l with
    | none => rw [numsOf_none (by simp) hl] at h; cases h
    | some k =>
      rw [numsOf_snoc hw hl] at h
      have := Option.some.inj h
      obtain ⟨e1, e2⟩ := List.append_inj' this rfl
      cases e2
      exact ⟨by rw [e1], rfl⟩
theorem numOf_0 : numOf [48] = some 0 := numOf_iff.2 ⟨by rw [show (0 : Int) = ((0 : Nat) : Int) from rfl, itoaN_nonneg, decN_zero], by omega, by omega⟩
theorem numOf_1 : numOf [49] = some 1 := numOf_iff.2 ⟨by rw [show (1 : Int) = ((1 : Nat) : Int) from rfl, itoaN_nonneg, decN_lt (by omega)], by omega, by omega⟩
theorem numOf_inj {a b : List Nat} {n : Int} (h : numOf a = some n) (k : numOf b = some n) : a = b := by rw [← (numOf_iff.1 h).1, ← (numOf_iff.1 k).1]
theorem fill_no {ws : List (List Nat)} {ps : List Nat} {cs : List AVal} (h : ws.length ≠ ps.length ∨ numsOf ws = none) : fill ws ps cs = none := by
  unfold fill
  rcases h with h | h
  · rw [if_neg h]
  · rw [h]; split <;> rfl
theorem snoc_of {ws : List (List Nat)} {l : List Nat} (h : ws.getLast? = some l) : ws = ws.dropLast ++ [l] := by
  have hne : ws ≠ [] := by intro e; subst e; cases h
  have h1 := List.dropLast_concat_getLast hne
  rw [last_of hne] at h
  cases h; exact h1.symm
theorem cmdK_no {k : Int} {ws : List (List Nat)} (h : (ws.length : Int) ≠ (if k = 3 then 6 else ((placesOf k).length : Int)) ∨ numsOf ws = none) : cmdK k ws = none := by
  unfold cmdK
  by_cases h3 : k = 3
  · rw [if_pos h3]
    rw [if_pos h3] at h
    cases hl : ws.getLast? with
    | none => rfl
    | some l =>
      simp only
      split
      · rename_i hl01
        refine fill_no ?_
        rcases h with h | h
        · left
          rw [List.length_dropLast]
          show ws.length - 1 ≠ 5
          omega
        · right
          have hs := snoc_of hl
          obtain ⟨n, hn⟩ : ∃ n, numOf l = some n := by
            rcases hl01 with rfl | rfl
            · exact ⟨0, numOf_0⟩
            · exact ⟨1, numOf_1⟩
          cases hd : numsOf ws.dropLast with
          | none => rfl
          | some ns => rw [hs, numsOf_snoc hd hn] at h; cases h
      · rfl
  · rw [if_neg h3]
    rw [if_neg h3] at h
    exact fill_no (h.imp (fun e => by omega) id)
theorem cmdK_3 {ws : List (List Nat)} {a b c d e f : Int} (h : numsOf ws = some [a, b, c, d, e, f]) :
    cmdK 3 ws = if f = 0 ∨ f = 1 then some ((putAll (kc 3) [11, 12, 13, 14, 15] [a, b, c, d, e]).set 16 (.bool (decide (f = 1)))) else none := by
  have hlen := numsOf_len h
  have hne : ws ≠ [] := by intro e; subst e; simp at hlen
  have hl : ws.getLast? = some (ws.getLast hne) := last_of hne
  have hs := snoc_of hl
  generalize ws.getLast hne = l at hl hs
  have h2 : numsOf (ws.dropLast ++ [l]) = some ([a, b, c, d, e] ++ [f]) := by rw [← hs]; exact h
  obtain ⟨g1, g2⟩ := numsOf_init h2
  unfold cmdK
  rw [if_pos rfl, hl]
  simp only
  have h0 : l = [48] ↔ f = 0 := ⟨fun e => by subst e; rw [numOf_0] at g2; exact (Option.some.inj g2).symm, fun e => by subst e; exact numOf_inj g2 numOf_0⟩
  have h1 : l = [49] ↔ f = 1 := ⟨fun e => by subst e; rw [numOf_1] at g2; exact (Option.some.inj g2).symm, fun e => by subst e; exact numOf_inj g2 numOf_1⟩
  have hdl : ws.dropLast.length = (placesOf 3).length := by rw [List.length_dropLast, ← hlen]; rfl
  by_cases hf : f = 0 ∨ f = 1
  · rw [if_pos hf, if_pos (hf.imp h0.2 h1.2)]
    unfold fill
    rw [if_pos hdl, g1]
    by_cases hf1 : f = 1
    · rw [decide_eq_true (h1.2 hf1), decide_eq_true hf1]; rfl
    · rw [decide_eq_false (fun e => hf1 (h1.1 e)), decide_eq_false hf1]; rfl
  · rw [if_neg hf, if_neg (fun e => hf (e.imp h0.1 h1.1))]
theorem cmdK_n {k : Int} {ws : List (List Nat)} {ns : List Int} (h3 : k ≠ 3) (hl : ws.length = (placesOf k).length) (h : numsOf ws = some ns) : cmdK k ws = some (putAll (kc k) (placesOf k) ns) := by
  unfold cmdK fill
  rw [if_neg h3, if_pos hl, h]
theorem command_c (h : Hs tab) (ho : Ok σ) {wv : AVal} {ws : List (List Nat)} {mw : Nat} (hw : StSl σ wv ws mw) (hl : ws.length ≤ 100000)
    (hQ : ∀ c b σ', c.length = 19 → (b = true → cmdOf ws = some c) → (b = false → cmdOf ws = none) → Keep (fun _ => False) σ σ' → Q (.tup [.agg c, .bool b]) σ') : WF tab 20 [wv] σ Q := by
  refine f20_wf h.ht.t20 ?_
  unfold f20
  refine Ala_of (b := ⟨0, .ex, zero19⟩) (mk := fun p => .ptr p 0) rfl ?_
  have k1 := Keep.new (M := fun _ => False) ho ⟨0, .ex, zero19⟩
  generalize hσ1 : σ.new ⟨0, .ex, zero19⟩ = σ1 at k1
  have hn1 : σ1.next.nat = σ.next.nat + 1 := by rw [← hσ1, next_new, succ_nat]
  have b2 : σ1.blk σ.next = some ⟨0, .ex, zero19⟩ := by rw [← hσ1, blk_new, if_pos rfl]; rfl
  have out : ∀ (c : List AVal) (b : Bool) (σ' : S), c.length = 19 → (b = true → cmdOf ws = some c) → (b = false → cmdOf ws = none) → Keep (fun _ => False) σ1 σ' →
      Eff (storeW 19 (.ptr σ.next 0) (.agg c) σ') fun _ σ9 => Ret [vLoadN 19 (.ptr σ.next 0) σ9, some (.bool b)] σ9 Q := by
    intro c b σ' hc ht hf k
    refine put_end k.ok rfl (k.old _ _ b2 fun e => e) rfl hc (by omega) fun σ'' k'' => hQ c b σ'' hc ht hf ?_
    exact (k1.trans k).then ho k'' fun x hx e => by omega
  have hw1 := SlAt.keep hw (fun _ e => e) k1
  refine Som_of hw1.len ?_
  refine Som_of (bin_eql _ _ _ _) ?_
  cases ws with
  | nil =>
    rw [decide_eq_true (by rfl)]
    refine Sn_of rfl ?_
    refine Sn_of rfl ?_
    refine Sn_of rfl ?_
    refine GE_n rfl ?_
    refine Sn_of rfl ?_
    refine Som_of (vPick_true _ _) ?_
    rw [WIf_true]
    refine Som_of (v := .agg zero19) rfl ?_
    exact out zero19 false σ1 rfl (fun e => by cases e) (fun _ => rfl) (Keep.refl k1.ok)
  | cons w ws =>
    rw [decide_eq_false (by simp; omega)]
    have hcmd : cmdOf (w :: ws) = if kOf w = 0 then none else cmdK (kOf w) ws := rfl
    obtain ⟨p, g1, g2⟩ := StSl.head hw1
    refine Sq_of rfl rfl ?_
    refine Sq_of rfl g1 ?_
    refine Sq_of rfl g2 ?_
    refine GE_t rfl ?_
    refine count_c h ?_
    refine Sq_of rfl (bin_lss _ _ _ _) ?_
    refine Som_of (vPick_false _ _) ?_
    have hkr : kOf w = 0 ∨ (1 ≤ kOf w ∧ kOf w ≤ 7) := by
      unfold kOf
      repeat' split
      all_goals omega
    refine WIf_dec (fun hneg => ?_) (fun hneg => ?_)
    · have h0 : kOf w = 0 := by
        rcases hkr with e | e
        · exact e
        · exfalso
          unfold cntOf at hneg
          rw [if_neg (by omega)] at hneg
          split at hneg <;> omega
      refine Som_of (v := .agg zero19) rfl ?_
      exact out zero19 false σ1 rfl (fun e => by cases e) (fun _ => by rw [hcmd, if_pos h0]) (Keep.refl k1.ok)
    · have hk0 : kOf w ≠ 0 := by
        intro e
        unfold cntOf at hneg
        rw [if_pos e] at hneg
        omega
      have hk := hkr.resolve_left hk0
      rw [if_neg hk0] at hcmd
      have hcnt : cntOf w = if kOf w = 3 then 6 else ((placesOf (kOf w)).length : Int) := by unfold cntOf; rw [if_neg hk0]
      obtain ⟨rv, g3, g4⟩ := StSl.tail hw1
      refine Som_of g3 ?_
      refine Som_of g1 ?_
      have kb := Keep.bump k1.ok 12 (M := fun _ => False)
      have hwb : StSl (σ1.bumpT 12) wv (w :: ws) mw := SlAt.keep hw1 (fun _ e => e) kb
      obtain ⟨p', g1', g2'⟩ := StSl.head hwb
      have hpp : p' = p := Option.some.inj (g1'.symm.trans g1)
      rw [hpp] at g2'
      refine Som_of g2' ?_
      refine count_c h ?_
      refine rnums_c h kb.ok (SlAt.keep g4 (fun _ e => e) kb) (by simp at hl; omega) (fun v m σ4 ns hlen hns hv hv1 hm k4 => ?_) (fun σ4 hno k4 => ?_)
      · refine Som_of rfl ?_
        refine Som_of rfl ?_
        refine Som_of (un_not _) ?_
        show WIf (.bool false) _ _
        rw [WIf_false]
        have k14 := kb.trans k4
        have hw4 : StSl σ4 wv (w :: ws) mw := SlAt.keep hw1 (fun _ e => e) k14
        obtain ⟨p'', g1'', g2''⟩ := StSl.head hw4
        refine Som_of g1'' ?_
        refine Som_of g2'' ?_
        have hnl := numsOf_len hns
        have hwk : w = calledOf (kOf w) := kOf_ne hk0
        have hcase : kOf w = 7 ∨ kOf w = 2 ∨ kOf w = 4 ∨ kOf w = 6 ∨ kOf w = 5 ∨ kOf w = 3 ∨ kOf w = 1 := by omega
        generalize kOf w = k at hcmd hcnt hwk hcase
        subst hwk
        rw [hcnt] at hlen
        rcases hcase with rfl | rfl | rfl | rfl | rfl | rfl | rfl
        · obtain ⟨n0, rfl⟩ : ∃ n0, ns = [n0] := by
            have : ns.length = 1 := by rw [hnl]; have : (ws.length : Int) = 1 := hlen; omega
            exact List.length_eq_one_iff.1 this
          refine Som_of (v := .bool true) rfl ?_
          rw [WIf_true]
          obtain ⟨q0, u0, l0⟩ := hv.get (k := 0) rfl
          refine Som_of u0 ?_
          refine Som_of l0 ?_
          refine Som_of (v := .agg (putAll (kc 7) (placesOf 7) [n0])) rfl ?_
          exact out _ true σ4 rfl (fun _ => hcmd.trans (cmdK_n (by decide) (by have : (ws.length : Int) = 1 := hlen; show ws.length = 1; omega) hns)) (fun e => by cases e) k14
        · obtain ⟨n0, rfl⟩ : ∃ n0, ns = [n0] := by
            have : ns.length = 1 := by rw [hnl]; have : (ws.length : Int) = 1 := hlen; omega
            exact List.length_eq_one_iff.1 this
          refine Som_of (v := .bool false) rfl ?_
          rw [WIf_false]
          refine Som_of (v := .bool true) rfl ?_
          rw [WIf_true]
          obtain ⟨q0, u0, l0⟩ := hv.get (k := 0) rfl
          refine Som_of u0 ?_
          refine Som_of l0 ?_
          refine Som_of (v := .agg (putAll (kc 2) (placesOf 2) [n0])) rfl ?_
          exact out _ true σ4 rfl (fun _ => hcmd.trans (cmdK_n (by decide) (by have : (ws.length : Int) = 1 := hlen; show ws.length = 1; omega) hns)) (fun e => by cases e) k14
        · obtain ⟨n0, rfl⟩ : ∃ n0, ns = [n0] := by
            have : ns.length = 1 := by rw [hnl]; have : (ws.length : Int) = 1 := hlen; omega
            exact List.length_eq_one_iff.1 this
          refine Som_of (v := .bool false) rfl ?_
          rw [WIf_false]
          refine Som_of (v := .bool false) rfl ?_
          rw [WIf_false]
          refine Som_of (v := .bool true) rfl ?_
          rw [WIf_true]
          obtain ⟨q0, u0, l0⟩ := hv.get (k := 0) rfl
          refine Som_of u0 ?_
          refine Som_of l0 ?_
          refine Som_of (v := .agg (putAll (kc 4) (placesOf 4) [n0])) rfl ?_
          exact out _ true σ4 rfl (fun _ => hcmd.trans (cmdK_n (by decide) (by have : (ws.length : Int) = 1 := hlen; show ws.length = 1; omega) hns)) (fun e => by cases e) k14
        · obtain ⟨n0, rfl⟩ : ∃ n0, ns = [n0] := by
            have : ns.length = 1 := by rw [hnl]; have : (ws.length : Int) = 1 := hlen; omega
            exact List.length_eq_one_iff.1 this
          refine Som_of (v := .bool false) rfl ?_
          rw [WIf_false]
          refine Som_of (v := .bool false) rfl ?_
          rw [WIf_false]
          refine Som_of (v := .bool false) rfl ?_
          rw [WIf_false]
          refine Som_of (v := .bool true) rfl ?_
          rw [WIf_true]
          obtain ⟨q0, u0, l0⟩ := hv.get (k := 0) rfl
          refine Som_of u0 ?_
          refine Som_of l0 ?_
          refine Som_of (v := .agg (putAll (kc 6) (placesOf 6) [n0])) rfl ?_
          exact out _ true σ4 rfl (fun _ => hcmd.trans (cmdK_n (by decide) (by have : (ws.length : Int) = 1 := hlen; show ws.length = 1; omega) hns)) (fun e => by cases e) k14
        · obtain ⟨n0, n1, rfl⟩ : ∃ n0 n1, ns = [n0, n1] := by
            have : ns.length = 2 := by rw [hnl]; have : (ws.length : Int) = 2 := hlen; omega
            exact two_of this
          refine Som_of (v := .bool false) rfl ?_
          rw [WIf_false]
          refine Som_of (v := .bool false) rfl ?_
          rw [WIf_false]
          refine Som_of (v := .bool false) rfl ?_
          rw [WIf_false]
          refine Som_of (v := .bool false) rfl ?_
          rw [WIf_false]
          refine Som_of (v := .bool true) rfl ?_
          rw [WIf_true]
          have kb2 := Keep.bump k4.ok 9 (M := fun _ => False)
          have hvb : InSl (σ4.bumpT 9) v [n0, n1] m := SlAt.keep hv (fun _ e => e) kb2
          obtain ⟨q0, u0, l0⟩ := hvb.get (k := 0) rfl
          obtain ⟨q1, u1, l1⟩ := hvb.get (k := 1) rfl
          refine Som_of u0 ?_
          refine Som_of l0 ?_
          refine Som_of u1 ?_
          refine Som_of l1 ?_
          refine Som_of (v := .agg (putAll (kc 5) (placesOf 5) [n0, n1])) rfl ?_
          exact out _ true _ rfl (fun _ => hcmd.trans (cmdK_n (by decide) (by have : (ws.length : Int) = 2 := hlen; show ws.length = 2; omega) hns)) (fun e => by cases e) (k14.trans kb2)
        · obtain ⟨n0, n1, n2, n3, n4, n5, rfl⟩ : ∃ n0 n1 n2 n3 n4 n5, ns = [n0, n1, n2, n3, n4, n5] := by
            have h6 : ns.length = 6 := by rw [hnl]; have : (ws.length : Int) = 6 := hlen; omega
            match ns, h6 with
            | [a, b, c, d, e, f], _ => exact ⟨a, b, c, d, e, f, rfl⟩
          refine Som_of (v := .bool false) rfl ?_
          rw [WIf_false]
          refine Som_of (v := .bool false) rfl ?_
          rw [WIf_false]
          refine Som_of (v := .bool false) rfl ?_
          rw [WIf_false]
          refine Som_of (v := .bool false) rfl ?_
          rw [WIf_false]
          refine Som_of (v := .bool false) rfl ?_
          rw [WIf_false]
          refine Som_of (v := .bool true) rfl ?_
          rw [WIf_true]
          have kb2 := Keep.bump k4.ok 23 (M := fun _ => False)
          have hvb : InSl (σ4.bumpT 23) v [n0, n1, n2, n3, n4, n5] m := SlAt.keep hv (fun _ e => e) kb2
          obtain ⟨q0, u0, l0⟩ := hvb.get (k := 0) rfl
          obtain ⟨q1, u1, l1⟩ := hvb.get (k := 1) rfl
          obtain ⟨q2, u2, l2⟩ := hvb.get (k := 2) rfl
          obtain ⟨q3, u3, l3⟩ := hvb.get (k := 3) rfl
          obtain ⟨q4, u4, l4⟩ := hvb.get (k := 4) rfl
          obtain ⟨q5, u5, l5⟩ := hvb.get (k := 5) rfl
          refine Som_of u0 ?_
          refine Som_of l0 ?_
          refine Som_of u1 ?_
          refine Som_of l1 ?_
          refine Som_of u2 ?_
          refine Som_of l2 ?_
          refine Som_of u3 ?_
          refine Som_of l3 ?_
          refine Som_of u4 ?_
          refine Som_of l4 ?_
          refine Som_of (v := .agg [.int .i64 n3, .int .i64 n4]) rfl ?_
          refine Som_of u5 ?_
          refine Som_of l5 ?_
          refine Som_of (bin_eql _ _ _ _) ?_
          refine Som_of (v := .agg [.int .i64 n0, .int .i64 n1, .int .i64 n2, .int .i64 n3, .int .i64 n4, .bool (decide (n5 = 1))]) rfl ?_
          refine Alb_of (b := ⟨0, .ex, [.int .i64 0, .int .i64 0, .int .i64 0, .int .i64 0, .int .i64 0, .bool false]⟩) (mk := fun p => .ptr p 0) rfl ?_
          obtain ⟨kd, _, _⟩ := kb2.layD ⟨0, .ex, [.int .i64 0, .int .i64 0, .int .i64 0, .int .i64 0, .int .i64 0, .bool false]⟩ (Unused_plus (i := 21) (n := 23) k4.ok) (by rw [plusT_nat]; omega) (by rw [next_bump, plusT_nat]; omega)
          have b6 : ((σ4.bumpT 23).lay (Pos.plusT 21 σ4.next) (Blk.named ⟨0, .ex, [.int .i64 0, .int .i64 0, .int .i64 0, .int .i64 0, .int .i64 0, .bool false]⟩ (Pos.plusT 21 σ4.next))).blk (Pos.plusT 21 σ4.next) = some ⟨0, .ex, [.int .i64 0, .int .i64 0, .int .i64 0, .int .i64 0, .int .i64 0, .bool false]⟩ := by rw [blk_lay, if_pos rfl]; rfl
          generalize hσ5 : (σ4.bumpT 23).lay (Pos.plusT 21 σ4.next) (Blk.named ⟨0, .ex, [.int .i64 0, .int .i64 0, .int .i64 0, .int .i64 0, .int .i64 0, .bool false]⟩ (Pos.plusT 21 σ4.next)) = σ5 at kd b6
          refine Eff_of (stAll b6 rfl rfl (by omega)) ?_
          have ku := Keep.upd kd.ok b6 (c := ⟨0, .ex, [.int .i64 n0, .int .i64 n1, .int .i64 n2, .int .i64 n3, .int .i64 n4, .bool (decide (n5 = 1))]⟩) rfl
          have ku4 : Keep (fun _ => False) σ4 _ := kd.then k4.ok ku fun x hx e => by have : x = (Pos.plusT 21 σ4.next).nat := e; rw [plusT_nat] at this; omega
          have b6u := blk_upd_same (σ := σ5) (Pos.plusT 21 σ4.next) ⟨0, .ex, [.int .i64 n0, .int .i64 n1, .int .i64 n2, .int .i64 n3, .int .i64 n4, .bool (decide (n5 = 1))]⟩
          have kb3 := Keep.bump ku.ok 14 (M := fun _ => False)
          have b6b := kb3.old _ _ b6u (fun e => e)
          have k46 := ku4.trans kb3
          generalize hσ6 : (σ5.upd (Pos.plusT 21 σ4.next) ⟨0, .ex, [.int .i64 n0, .int .i64 n1, .int .i64 n2, .int .i64 n3, .int .i64 n4, .bool (decide (n5 = 1))]⟩).bumpT 14 = σ6 at kb3 b6b k46
          refine Som_of (ldAll (n := 6) b6b rfl) ?_
          refine Som_of (v := .agg ((putAll (kc 3) [11, 12, 13, 14, 15] [n0, n1, n2, n3, n4]).set 16 (.bool (decide (n5 = 1))))) rfl ?_
          have hv6 : InSl σ6 v [n0, n1, n2, n3, n4, n5] m := SlAt.keep hv (fun _ e => e) k46
          obtain ⟨r5, w5, x5⟩ := hv6.get (k := 5) rfl
          refine Som_of w5 ?_
          refine Som_of x5 ?_
          refine Som_of (bin_eql _ _ _ _) ?_
          have h3 := cmdK_3 hns
          have k16 := k14.trans k46
          have b26 := k16.old _ _ b2 (fun e => e)
          have ks := Keep.upd k46.ok b26 (c := ⟨0, .ex, (putAll (kc 3) [11, 12, 13, 14, 15] [n0, n1, n2, n3, n4]).set 16 (.bool (decide (n5 = 1)))⟩) rfl
          have ks : Keep (fun x => x = σ.next.nat) σ6 _ := ks
          have fin : ∀ b : Bool, (b = true → cmdOf (calledOf 3 :: ws) = some ((putAll (kc 3) [11, 12, 13, 14, 15] [n0, n1, n2, n3, n4]).set 16 (.bool (decide (n5 = 1))))) → (b = false → cmdOf (calledOf 3 :: ws) = none) →
              Ret [vLoadN 19 (.ptr σ.next 0) (σ6.upd σ.next ⟨0, .ex, (putAll (kc 3) [11, 12, 13, 14, 15] [n0, n1, n2, n3, n4]).set 16 (.bool (decide (n5 = 1)))⟩), some (.bool b)] (σ6.upd σ.next ⟨0, .ex, (putAll (kc 3) [11, 12, 13, 14, 15] [n0, n1, n2, n3, n4]).set 16 (.bool (decide (n5 = 1)))⟩) Q := by
            intro b ht hf
            rw [ldAll (n := 19) (blk_upd_same _ _) rfl, Ret_2 rfl rfl]
            exact hQ _ b _ rfl ht hf ((k1.trans k16).then ho ks fun x hx e => by omega)
          by_cases h50 : n5 = 0
          · rw [decide_eq_true h50]
            refine Sn_of rfl ?_
            refine Sn_of rfl ?_
            refine Sn_of rfl ?_
            refine Sn_of rfl ?_
            refine Som_of (vPick_true _ _) ?_
            refine Eff_of (stAll b26 rfl rfl (by omega)) ?_
            refine Sure_of rfl ?_
            exact fin true (fun _ => by rw [hcmd, h3, if_pos (.inl h50)]) (fun e => by cases e)
          · rw [decide_eq_false h50]
            refine Sq_of rfl rfl ?_
            refine Sq_of rfl w5 ?_
            refine Sq_of rfl x5 ?_
            refine Sq_of rfl (bin_eql _ _ _ _) ?_
            refine Som_of (vPick_false _ _) ?_
            refine Eff_of (stAll b26 rfl rfl (by omega)) ?_
            have hv7 : InSl _ v [n0, n1, n2, n3, n4, n5] m := SlAt.keep hv6 (fun _ e => by have := k1.next; have := kb.next; omega) ks
            obtain ⟨r7, w7, x7⟩ := hv7.get (k := 5) rfl
            have hr7 : r7 = r5 := Option.some.inj (w7.symm.trans w5)
            rw [hr7] at x7
            refine Sure_of (by rw [SameO_of x7 (same_int _ _)]; rfl) ?_
            by_cases h51 : n5 = 1
            · rw [decide_eq_true h51]
              rw [decide_eq_true h51] at fin
              exact fin true (fun _ => by rw [hcmd, h3, if_pos (.inr h51), decide_eq_true h51]) (fun e => by cases e)
            · rw [decide_eq_false h51]
              rw [decide_eq_false h51] at fin
              exact fin false (fun e => by cases e) (fun _ => by rw [hcmd, h3, if_neg (fun e => e.elim h50 h51)])
        · obtain ⟨n0, n1, n2, n3, n4, n5, n6, n7, n8, n9, rfl⟩ : ∃ n0 n1 n2 n3 n4 n5 n6 n7 n8 n9, ns = [n0, n1, n2, n3, n4, n5, n6, n7, n8, n9] := by
            have h10 : ns.length = 10 := by rw [hnl]; have : (ws.length : Int) = 10 := hlen; omega
            match ns, h10 with
            | [a, b, c, d, e, f, g, h, i, j], _ => exact ⟨a, b, c, d, e, f, g, h, i, j, rfl⟩
          refine Som_of (v := .bool false) rfl ?_
          rw [WIf_false]
          refine Som_of (v := .bool false) rfl ?_
          rw [WIf_false]
          refine Som_of (v := .bool false) rfl ?_
          rw [WIf_false]
          refine Som_of (v := .bool false) rfl ?_
          rw [WIf_false]
          refine Som_of (v := .bool false) rfl ?_
          rw [WIf_false]
          refine Som_of (v := .bool false) rfl ?_
          rw [WIf_false]
          have kb2 := Keep.bump k4.ok 15 (M := fun _ => False)
          have hvb : InSl (σ4.bumpT 15) v [n0, n1, n2, n3, n4, n5, n6, n7, n8, n9] m := SlAt.keep hv (fun _ e => e) kb2
          obtain ⟨q0, u0, l0⟩ := hvb.get (k := 0) rfl
          obtain ⟨q1, u1, l1⟩ := hvb.get (k := 1) rfl
          refine Som_of u0 ?_
          refine Som_of l0 ?_
          refine Som_of u1 ?_
          refine Som_of l1 ?_
          obtain ⟨va, ca, da⟩ := SlAt.cutLH hvb (lo := 2) (hi := 6) (by omega) (by simp)
          obtain ⟨vb, cb, db⟩ := SlAt.cutLH hvb (lo := 6) (hi := 10) (by omega) (by simp)
          have da : InSl (σ4.bumpT 15) va [n2, n3, n4, n5] m := da
          have db : InSl (σ4.bumpT 15) vb [n6, n7, n8, n9] m := db
          refine Som_of ca ?_
          refine Som_of cb ?_
          refine site_c h kb2.ok da fun σ5 k5 => ?_
          have hv5 : InSl σ5 v [n0, n1, n2, n3, n4, n5, n6, n7, n8, n9] m := SlAt.keep hvb (fun _ e => e) k5
          obtain ⟨r0, w0, x0⟩ := hv5.get (k := 0) rfl
          obtain ⟨r1, w1, x1⟩ := hv5.get (k := 1) rfl
          rw [Option.some.inj (w0.symm.trans u0)] at x0
          rw [Option.some.inj (w1.symm.trans u1)] at x1
          refine Sure_of (SameO_of x0 (same_int _ _)) ?_
          refine Sure_of (SameO_of x1 (same_int _ _)) ?_
          refine site_c h k5.ok (SlAt.keep db (fun _ e => e) k5) fun σ6 k6 => ?_
          have hv6 : InSl σ6 v [n0, n1, n2, n3, n4, n5, n6, n7, n8, n9] m := SlAt.keep hv5 (fun _ e => e) k6
          obtain ⟨s0, y0, z0⟩ := hv6.get (k := 0) rfl
          obtain ⟨s1, y1, z1⟩ := hv6.get (k := 1) rfl
          rw [Option.some.inj (y0.symm.trans u0)] at z0
          rw [Option.some.inj (y1.symm.trans u1)] at z1
          refine Sure_of (SameO_of z0 (same_int _ _)) ?_
          refine Sure_of (SameO_of z1 (same_int _ _)) ?_
          refine Som_of (v := .agg [.int .i64 n0, .int .i64 n1, .int .i64 n2, .int .i64 n3, .int .i64 n4, .int .i64 n5, .int .i64 n6, .int .i64 n7, .int .i64 n8, .int .i64 n9]) rfl ?_
          refine Alb_of (b := ⟨0, .ex, [.int .i64 0, .int .i64 0, .int .i64 0, .int .i64 0, .int .i64 0, .int .i64 0, .int .i64 0, .int .i64 0, .int .i64 0, .int .i64 0]⟩) (mk := fun p => .ptr p 0) rfl ?_
          have k46 : Keep (fun _ => False) σ4 σ6 := (kb2.trans k5).trans k6
          have hun : Unused σ6 (Pos.plusT 13 σ4.next) := k6.unused _ (by have := k5.next; rw [plusT_nat]; have := next_bump (σ := σ4) 15; omega) (k5.unused _ (by rw [plusT_nat, next_bump]; omega) (Unused_plus (i := 13) (n := 15) k4.ok))
          obtain ⟨kd, _, _⟩ := k46.layD ⟨0, .ex, [.int .i64 0, .int .i64 0, .int .i64 0, .int .i64 0, .int .i64 0, .int .i64 0, .int .i64 0, .int .i64 0, .int .i64 0, .int .i64 0]⟩ hun (by rw [plusT_nat]; omega) (by rw [plusT_nat]; have := k5.next; have := k6.next; have := next_bump (σ := σ4) 15; omega)
          have b7 : (σ6.lay (Pos.plusT 13 σ4.next) (Blk.named ⟨0, .ex, [.int .i64 0, .int .i64 0, .int .i64 0, .int .i64 0, .int .i64 0, .int .i64 0, .int .i64 0, .int .i64 0, .int .i64 0, .int .i64 0]⟩ (Pos.plusT 13 σ4.next))).blk (Pos.plusT 13 σ4.next) = some ⟨0, .ex, [.int .i64 0, .int .i64 0, .int .i64 0, .int .i64 0, .int .i64 0, .int .i64 0, .int .i64 0, .int .i64 0, .int .i64 0, .int .i64 0]⟩ := by rw [blk_lay, if_pos rfl]; rfl
          generalize hσ7 : σ6.lay (Pos.plusT 13 σ4.next) (Blk.named ⟨0, .ex, [.int .i64 0, .int .i64 0, .int .i64 0, .int .i64 0, .int .i64 0, .int .i64 0, .int .i64 0, .int .i64 0, .int .i64 0, .int .i64 0]⟩ (Pos.plusT 13 σ4.next)) = σ7 at kd b7
          refine Eff_of (stAll b7 rfl rfl (by omega)) ?_
          have ku := Keep.upd kd.ok b7 (c := ⟨0, .ex, [.int .i64 n0, .int .i64 n1, .int .i64 n2, .int .i64 n3, .int .i64 n4, .int .i64 n5, .int .i64 n6, .int .i64 n7, .int .i64 n8, .int .i64 n9]⟩) rfl
          have ku4 : Keep (fun _ => False) σ4 _ := kd.then k4.ok ku fun x hx e => by have : x = (Pos.plusT 13 σ4.next).nat := e; rw [plusT_nat] at this; omega
          refine Som_of (ldAll (n := 10) (blk_upd_same _ _) rfl) ?_
          refine Som_of (v := .agg (putAll (kc 1) (placesOf 1) [n0, n1, n2, n3, n4, n5, n6, n7, n8, n9])) rfl ?_
          exact out _ true _ rfl (fun _ => hcmd.trans (cmdK_n (by decide) (by have : (ws.length : Int) = 10 := hlen; show ws.length = 10; omega) hns)) (fun e => by cases e) (k14.trans ku4)
      · refine Som_of (v := .nsl) rfl ?_
        refine Som_of (v := .bool false) rfl ?_
        refine Som_of (un_not _) ?_
        show WIf (.bool true) _ _
        rw [WIf_true]
        refine Som_of (v := .agg zero19) rfl ?_
        refine out zero19 false σ4 rfl (fun e => by cases e) (fun _ => hcmd.trans (cmdK_no ?_)) (kb.trans k4)
        rw [hcnt] at hno
        exact hno
end
end Go.Am
namespace Go.Am
section
variable {tab : Nat → Option PFn} {σ : S} {Q : AVal → S → Prop}
theorem numOf_nil : numOf [] = none := rfl
theorem nil_nums {ws : List (List Nat)} (h : [] ∈ ws) : numsOf ws = none := numsOf_none h numOf_nil
theorem nil_cmd {ws : List (List Nat)} (h : [] ∈ ws) : cmdOf ws = none := by
  cases ws with
  | nil => rfl
  | cons x r =>
    show (if kOf x = 0 then none else cmdK (kOf x) r) = none
    split
    · rfl
    · rename_i h0
      rcases List.mem_cons.1 h with e | e
      · rw [← e] at h0; exact absurd (by decide) h0
      · exact cmdK_no (.inr (nil_nums e))
theorem nil_step {w : List Nat} {ws : List (List Nat)} (h : [] ∈ w :: ws) : stepOf w ws = none := by
  unfold stepOf
  rcases List.mem_cons.1 h with e | e
  · rw [← e, if_neg (by decide), if_pos (by decide)]
  · split
    · unfold callOf
      split
      · rfl
      · by_cases h2 : [] ∈ ws.take 2
        · rw [nil_nums h2]
        · have h3 : [] ∈ ws.drop 2 := by
            have := (List.take_append_drop 2 ws).symm ▸ e
            exact (List.mem_append.1 this).resolve_left h2
          rw [nil_cmd h3]
          cases numsOf (ws.take 2) <;> rfl
    · split
      · rfl
      · exact fill_no (.inr (nil_nums e))
theorem build1 {zs c : List AVal} {o n : Nat} (hc : c.length = n) (hz : o + n ≤ zs.length) : vBuild zs [(o, n, .agg c)] = some (.agg (zs.take o ++ c ++ zs.drop (o + n))) := by
  unfold vBuild fillA
  show andThen (test (Nat.beq (lenN c) n) (andThen (putN o c zs) fun cells => fillA cells [])) _ = _
  rw [lenN_eq, hc, Nat.beq_refl, test_tt, putN_of (by omega), andThen_s, hc]
  rfl
theorem hmint (ho : Ok σ) {v : AVal} {n : Int} {ns : List Int} {m : Nat} (h : InSl σ v (n :: ns) m) : m < σ.next.nat := by
  obtain ⟨h0, h⟩ := h
  cases v with
  | nsl => have h : (n :: ns).length = 0 := h; simp at h
  | sl b o len cap =>
    obtain ⟨_, _, h3⟩ := h
    obtain ⟨blk, g1, g2, _⟩ := h3 (by simp)
    rw [← g2]; exact ho.ow_lt g1
  | slu b o len z =>
    obtain ⟨_, _, h3⟩ := h
    obtain ⟨blk, g1, g2, _⟩ := h3 (by simp)
    rw [← g2]; exact ho.ow_lt g1
  | _ => exact h.elim
theorem rparse_end {E : En} {p2 p14 : Pos} {z cs : List AVal} (ho : Ok σ) (h2 : E 2 = .ptr p2 0) (h14 : E 14 = .ptr p14 0) (b2 : σ.blk p2 = some ⟨0, .ex, z⟩) (hz : z.length = 25) (b14 : σ.blk p14 = some ⟨0, .ex, cs⟩) (hcs : cs.length = 25)
    (hQ : ∀ σ', Keep (fun x => x = p2.nat) σ σ' → Q (.tup [.agg cs, .int .i64 0]) σ') : f7.p0 (WF tab) Q E σ := by
  unfold f7.p0
  rw [h14, h2]
  refine Som_of (ldAll (n := 25) b14 hcs) ?_
  exact put_end ho rfl b2 hz hcs (by omega) hQ
theorem rParse_c (h : Hs tab) (ho : Ok σ) {s : List Nat} (hQ : ∀ σ', Keep (fun _ => False) σ σ' → Q (parseV (parseOf s)) σ') : WF tab 7 [.str s] σ Q := by
  refine f7_wf h.ht.t7 ?_
  unfold f7
  refine Ala_of (b := ⟨0, .ex, zero25⟩) (mk := fun p => .ptr p 0) rfl ?_
  have k1 := Keep.new (M := fun _ => False) ho ⟨0, .ex, zero25⟩
  generalize hσ1 : σ.new ⟨0, .ex, zero25⟩ = σ1 at k1
  have hn1 : σ1.next.nat = σ.next.nat + 1 := by rw [← hσ1, next_new, succ_nat]
  have b2 : σ1.blk σ.next = some ⟨0, .ex, zero25⟩ := by rw [← hσ1, blk_new, if_pos rfl]; rfl
  have fin : ∀ σ', Keep (fun x => x = σ.next.nat) σ1 σ' → Keep (fun _ => False) σ σ' := fun σ' k => k1.then ho k fun x hx e => by omega
  refine Som_of (vLenStr_str _) ?_
  refine Som_of (bin_gtr _ _ _ _) ?_
  refine WIf_dec (fun hlong => ?_) (fun hlong => ?_)
  · refine Som_of (v := .agg zero25) rfl ?_
    refine put_end k1.ok rfl b2 rfl rfl (by omega) fun σ' k' => ?_
    have hq := hQ σ' (fin σ' k')
    have e1 : parseOf s = (zero25, 2) := by unfold parseOf; rw [if_pos (by omega)]
    rw [e1] at hq; exact hq
  have hcount : (splitA 32 s).length ≤ 401 := by rw [splitA_len]; have := countN_le 32 s; omega
  have hparse : parseOf s = (match splitA 32 s with
      | [] => (zero25, 4)
      | w :: ws => match stepOf w ws with
        | some cs => (cs, 0)
        | none => (zero25, 4)) := by
    unfold parseOf; rw [if_neg (by omega)]
    rfl
  -- refused
  have bad : ∀ σ', Keep (fun _ => False) σ1 σ' → (∀ w ws, splitA 32 s = w :: ws → stepOf w ws = none) →
      Som (vBuild zero25 []) fun t => Eff (storeW 25 (.ptr σ.next 0) t σ') fun _ σ9 => Ret [vLoadN 25 (.ptr σ.next 0) σ9, some (.int .i64 4)] σ9 Q := by
    intro σ' k' hn
    refine Som_of (v := .agg zero25) rfl ?_
    refine put_end k'.ok rfl (k'.old _ _ b2 fun e => e) rfl rfl (by omega) fun σ'' k'' => ?_
    have hq := hQ σ'' (fin σ'' ((k'.mono fun x e => e.elim).trans k''))
    have e1 : parseOf s = (zero25, 4) := by
      rw [hparse]
      cases hs : splitA 32 s with
      | nil => rfl
      | cons w ws => simp only; rw [hn w ws hs]
    rw [e1] at hq; exact hq
  have good : ∀ w ws cs, splitA 32 s = w :: ws → stepOf w ws = some cs → parseOf s = (cs, 0) := by
    intro w ws cs hs hst
    rw [hparse, hs]
    simp only
    rw [hst]
  refine words_c h k1.ok (by omega) (fun v m σ2 hwo hsl hv hm k2 => ?_) (fun σ2 hwo k2 => ?_)
  · refine Som_of rfl ?_
    refine Som_of rfl ?_
    refine Som_of (un_not _) ?_
    show WIf (.bool false) _ _
    rw [WIf_false]
    have b22 := k2.old _ _ b2 (fun e => e)
    cases hs : splitA 32 s with
    | nil => exact absurd hs (splitA_ne 32 s)
    | cons w ws =>
      rw [hs] at hsl hcount
      have hlw : ws.length ≤ 1000 := by simp at hcount; omega
      obtain ⟨p, g1, g2⟩ := StSl.head hsl
      refine Som_of g1 ?_
      refine Som_of g2 ?_
      refine Som_of (bin_eql_str _ _ _) ?_
      have hmine := hmown k2.ok hsl
      refine WIf_dec (fun hc => ?_) (fun hc => ?_)
      · have hso : stepOf w ws = callOf ws := by unfold stepOf; rw [if_pos (show w = callW from hc)]
        have badc : callOf ws = none → ∀ w' ws', splitA 32 s = w' :: ws' → stepOf w' ws' = none := by
          intro hn w' ws' e
          rw [hs] at e; cases e
          rw [hso, hn]
        refine Som_of hsl.len ?_
        refine Som_of (bin_lss _ _ _ _) ?_
        refine WIf_dec (fun h4 => ?_) (fun h4 => ?_)
        · refine bad σ2 k2 (badc ?_)
          have h3 : ws.length < 3 := by simp at h4; omega
          unfold callOf
          split
          · rfl
          · have : ws.drop 2 = [] := List.drop_eq_nil_of_le (by omega)
            rw [this]
            cases numsOf (ws.take 2) <;> rfl
        · have h3 : 3 ≤ ws.length := by simp at h4; omega
          obtain ⟨va, ca, da⟩ := SlAt.cutLH hsl (lo := 1) (hi := 3) (by omega) (by simp; omega)
          have ea : (((w :: ws).map AVal.str).drop (1 * 1)).take ((3 - 1) * 1) = (ws.take 2).map .str := by simp
          rw [ea] at da
          have da : StSl σ2 va (ws.take 2) m := by
            show SlAt σ2 va 1 (ws.take 2).length _ m
            rw [List.length_take, Nat.min_eq_left (by omega)]; exact da
          refine Som_of ca ?_
          obtain ⟨vb, cb, db⟩ := StSl.dropN hsl (n := 3) (by simp; omega)
          have db : StSl σ2 vb (ws.drop 2) m := db
          have ht2 : (ws.take 2).length = 2 := by rw [List.length_take]; omega
          -- behind the numbers
          have rest : ∀ (t38 : AVal) (t39 : AVal) (f : Bool) (σ3 : S), t38 = .tup [t39, .bool f] → Keep (fun _ => False) σ2 σ3 → (f = false → numsOf (ws.take 2) = none) → (f = true → ∃ n0 n1 m3, numsOf (ws.take 2) = some [n0, n1] ∧ InSl σ3 t39 [n0, n1] m3) →
              Som (vExtract 0 t38) fun t39 => Som (vExtract 1 t38) fun t40 => Som (vSlSl 1 v (some (.int .i64 3)) none none) fun t43 => WF tab 20 [t43] σ3 fun t44 σ4 =>
              Som (vExtract 0 t44) fun t45 => Som (vExtract 1 t44) fun t46 => Ala (aAllocV zero19) σ4 fun t8 σ5 => Eff (storeW 19 t8 t45 σ5) fun _ σ6 =>
              Som (unA .not t40) fun t48 => Som (gq1 (isB t48 false) (some t46)) fun t50 => Som (gq1 (isB t48 false) (unA .not t50)) fun t51 => Som (vPick t48 (.bool true) t51) fun t52 => WIf t52 (
              Som (vBuild zero25 []) fun t53 => Eff (storeW 25 (.ptr σ.next 0) t53 σ6) fun _ σ7 => Ret [vLoadN 25 (.ptr σ.next 0) σ7, some (.int .i64 4)] σ7 Q) (
              Som (vIxSl 1 t39 (.int .i64 0)) fun t55 => Som (vLoad1 t55 (σ6.bumpT 11)) fun t56 => Som (vIxSl 1 t39 (.int .i64 1)) fun t58 => Som (vLoad1 t58 (σ6.bumpT 11)) fun t59 => Som (vLoadN 19 t8 (σ6.bumpT 11)) fun t60 =>
              Som (vBuild (.int .i64 0 :: .int .i64 0 :: zero19) [(0, 1, t59), (2, 19, t60)]) fun t61 => Som (vBuild zero25 [(0, 1, (.int .i64 9)), (1, 1, t56), (4, 21, t61)]) fun t62 =>
              Eff (storeW 25 (.ptr σ.next 0) t62 (σ6.bumpT 11)) fun _ σ7 => Ret [vLoadN 25 (.ptr σ.next 0) σ7, some (.int .i64 0)] σ7 Q) := by
            intro t38 t39 f σ3 he k3 hf ht
            subst he
            refine Som_of rfl ?_
            refine Som_of rfl ?_
            refine Som_of cb ?_
            refine command_c h k3.ok (SlAt.keep db (fun _ e => e) k3) (by rw [List.length_drop]; omega) fun c b σ4 hcl hbt hbf k4 => ?_
            refine Som_of rfl ?_
            refine Som_of rfl ?_
            refine Ala_of (b := ⟨0, .ex, zero19⟩) (mk := fun p => .ptr p 0) rfl ?_
            have k5 := Keep.new (M := fun _ => False) k4.ok ⟨0, .ex, zero19⟩
            have b8 : (σ4.new ⟨0, .ex, zero19⟩).blk σ4.next = some ⟨0, .ex, zero19⟩ := by rw [blk_new, if_pos rfl]; rfl
            refine Eff_of (stAll b8 hcl rfl (by omega)) ?_
            have k6 := Keep.upd k5.ok b8 (c := ⟨0, .ex, c⟩) rfl
            have k46 : Keep (fun _ => False) σ4 _ := k5.then k4.ok k6 fun x hx e => by have : x = σ4.next.nat := e; omega
            have b8' := blk_upd_same (σ := σ4.new ⟨0, .ex, zero19⟩) σ4.next ⟨0, .ex, c⟩
            generalize hσ6 : (σ4.new ⟨0, .ex, zero19⟩).upd σ4.next ⟨0, .ex, c⟩ = σ6 at k6 k46 b8'
            have k36 := k4.trans k46
            have k16 := (k2.trans k3).trans k36
            have hlen2 : ¬ ws.length < 2 := by omega
            refine Som_of (un_not _) ?_
            cases f with
            | false =>
              have hn : callOf ws = none := by unfold callOf; rw [if_neg hlen2, hf rfl]
              show Som (gq1 (isB (.bool true) false) _) _
              refine Sn_of rfl ?_
              refine Sn_of rfl ?_
              refine Som_of (v := .bool true) rfl ?_
              rw [WIf_true]
              exact bad σ6 k16 (badc hn)
            | true =>
              obtain ⟨n0, n1, m3, hns, hin⟩ := ht rfl
              show Som (gq1 (isB (.bool false) false) _) _
              refine Sq_of rfl rfl ?_
              refine Sq_of rfl (un_not _) ?_
              refine Som_of (vPick_false _ _) ?_
              cases b with
              | false =>
                have hn : callOf ws = none := by unfold callOf; rw [if_neg hlen2, hns, hbf rfl]
                show WIf (.bool true) _ _
                rw [WIf_true]
                exact bad σ6 k16 (badc hn)
              | true =>
                have hn : callOf ws = some ((putAll (sc 9) [1, 4] [n0, n1]).take 6 ++ c) := by unfold callOf; rw [if_neg hlen2, hns, hbt rfl]
                show WIf (.bool false) _ _
                rw [WIf_false]
                have kb := Keep.bump k36.ok 11 (M := fun _ => False)
                have hin6 : InSl (σ6.bumpT 11) t39 [n0, n1] m3 := SlAt.keep hin (fun _ e => e) (k36.trans kb)
                obtain ⟨q0, u0, l0⟩ := hin6.get (k := 0) rfl
                obtain ⟨q1, u1, l1⟩ := hin6.get (k := 1) rfl
                refine Som_of u0 ?_
                refine Som_of l0 ?_
                refine Som_of u1 ?_
                refine Som_of l1 ?_
                refine Som_of (ldAll (n := 19) (kb.old _ _ b8' fun e => e) hcl) ?_
                refine Som_of (v := .agg ([.int .i64 n1, .int .i64 0] ++ c)) ?_ ?_
                · show vBuild (.int .i64 n1 :: .int .i64 0 :: zero19) [(2, 19, .agg c)] = _
                  rw [build1 hcl (by show 2 + 19 ≤ 21; omega)]; simp [zero19]
                refine Som_of (v := .agg ([.int .i64 9, .int .i64 n0, .int .i64 0, .int .i64 0, .int .i64 n1, .int .i64 0] ++ c)) ?_ ?_
                · show vBuild (.int .i64 9 :: .int .i64 n0 :: zero25.drop 2) [(4, 21, .agg ([.int .i64 n1, .int .i64 0] ++ c))] = _
                  rw [build1 (by simp [hcl]) (by show 4 + 21 ≤ 25; omega)]; simp [zero25]
                have hl25 : ([AVal.int .i64 9, .int .i64 n0, .int .i64 0, .int .i64 0, .int .i64 n1, .int .i64 0] ++ c).length = 25 := by simp [hcl]
                have k1b := k16.trans kb
                refine put_end kb.ok rfl (k1b.old _ _ b2 fun e => e) rfl hl25 (by omega) fun σ'' k'' => ?_
                have hq := hQ σ'' (fin σ'' ((k1b.mono fun x e => e.elim).trans k''))
                rw [good w ws _ hs (hso.trans hn)] at hq
                exact hq
          refine rnums_c h k2.ok da (by omega) (fun vn mn σ3 ns hlen hns hvn hv1 hm3 k3 => ?_) (fun σ3 hno k3 => ?_)
          · obtain ⟨n0, n1, rfl⟩ : ∃ n0 n1, ns = [n0, n1] := by
              have : ns.length = 2 := by rw [numsOf_len hns, ht2]
              exact two_of this
            exact rest _ vn true σ3 rfl k3 (fun e => by cases e) (fun _ => ⟨n0, n1, mn, hns, hvn⟩)
          · exact rest _ .nsl false σ3 rfl k3 (fun _ => hno.resolve_left (fun e => e (by rw [ht2]; rfl))) (fun e => by cases e)
      · have hso : stepOf w ws = kindV w ws := by unfold stepOf kindV; rw [if_neg (show ¬ w = callW from hc)]
        have badk : kindV w ws = none → ∀ w' ws', splitA 32 s = w' :: ws' → stepOf w' ws' = none := by
          intro hn w' ws' e
          rw [hs] at e; cases e
          rw [hso, hn]
        refine Som_of g1 ?_
        refine Som_of g2 ?_
        refine kind_c h ?_
        refine Som_of rfl ?_
        refine Som_of rfl ?_
        obtain ⟨rv, g3, g4⟩ := StSl.tail hsl
        refine Som_of g3 ?_
        refine rnums_c h k2.ok g4 (by omega) (fun vn mn σ4 ns hlen hns hvn hv1 hm4 k4 => ?_) (fun σ4 hno k4 => ?_)
        · refine Som_of rfl ?_
          refine Som_of rfl ?_
          have k14 := k2.trans k4
          refine Som_of (bin_eql _ _ _ _) ?_
          by_cases h0 : kindOf w = 0
          · rw [decide_eq_true h0]
            refine Sn_of rfl ?_
            refine Sn_of rfl ?_
            refine Som_of (vPick_true _ _) ?_
            rw [WIf_true]
            exact bad σ4 k14 (badk (by unfold kindV; rw [if_pos h0]))
          · rw [decide_eq_false h0]
            refine Sq_of rfl rfl ?_
            refine Sq_of rfl (un_not _) ?_
            refine Som_of (vPick_false _ _) ?_
            show WIf (.bool false) _ _
            rw [WIf_false]
            obtain ⟨r1, r2, r3, r4⟩ := kindOf_ne h0
            have hlen' : ws.length = (fieldsOf (kindOf w)).length := by omega
            have hkv : kindV w ws = some (putAll (sc (kindOf w)) (fieldsOf (kindOf w)) ns) := by
              unfold kindV fill
              rw [if_neg h0, if_pos hlen', hns]
            have hnl := numsOf_len hns
            have fin2 : ∀ (E : En) (σ8 : S) (p14 : Pos), E 2 = .ptr σ.next 0 → E 14 = .ptr p14 0 → Keep (fun _ => False) σ1 σ8 → σ8.blk p14 = some ⟨0, .ex, putAll (sc (kindOf w)) (fieldsOf (kindOf w)) ns⟩ → f7.p0 (WF tab) Q E σ8 := by
              intro E σ8 p14 q2 q14 k8 b14
              refine rparse_end k8.ok q2 q14 (k8.old _ _ b2 fun e => e) rfl b14 (by rw [putAll_len]; rfl) fun σ'' k'' => ?_
              have hq := hQ σ'' (fin σ'' ((k8.mono fun x e => e.elim).trans k''))
              rw [good w ws _ hs (hso.trans hkv)] at hq
              exact hq
            clear hkv
            have hk9 : kindOf w ≠ 9 := fun e => by rw [e] at r3; exact r4 (r3.symm.trans (by decide))
            generalize kindOf w = k at hlen' fin2 r1 r2 hk9
            have hcase : (k = 1 ∨ k = 2 ∨ k = 3 ∨ k = 7) ∨ (k = 4 ∨ k = 5) ∨ (k = 6 ∨ k = 8 ∨ k = 12) ∨ (k = 10 ∨ k = 11) := by omega
            have alloc : ∀ (n0 : Int) (cs : List AVal), cs.length = 25 → Keep (fun _ => False) σ4 ((σ4.new ⟨0, .ex, zero25⟩).upd σ4.next ⟨0, .ex, cs⟩) := by
              intro n0 cs hcs
              have ka := Keep.new (M := fun _ => False) k4.ok ⟨0, .ex, zero25⟩
              have ba : (σ4.new ⟨0, .ex, zero25⟩).blk σ4.next = some ⟨0, .ex, zero25⟩ := by rw [blk_new, if_pos rfl]; rfl
              exact ka.then k4.ok (Keep.upd ka.ok ba (c := ⟨0, .ex, cs⟩) rfl) fun x hx e => by have : x = σ4.next.nat := e; omega
            have ba : (σ4.new ⟨0, .ex, zero25⟩).blk σ4.next = some ⟨0, .ex, zero25⟩ := by rw [blk_new, if_pos rfl]; rfl
            have hne4 : σ.next.nat < σ4.next.nat := by have := k14.next; omega
            rcases hcase with hk | hk | hk | hk
            · have hf : fieldsOf k = [1, 2, 3] := by rcases hk with rfl | rfl | rfl | rfl <;> rfl
              rw [hf] at hlen' fin2 ⊢
              obtain ⟨n0, n1, n2, rfl⟩ : ∃ n0 n1 n2, ns = [n0, n1, n2] := by
                have : ns.length = 3 := hnl.trans hlen'
                match ns, this with
                | [a, b, c], _ => exact ⟨a, b, c, rfl⟩
              obtain ⟨q0, u0, l0⟩ := hvn.get (k := 0) rfl
              refine Som_of u0 ?_
              refine Som_of l0 ?_
              refine Som_of (v := .agg ((sc k).set 1 (.int .i64 n0))) rfl ?_
              refine Ala_of (b := ⟨0, .ex, zero25⟩) (mk := fun p => .ptr p 0) rfl ?_
              refine Eff_of (stAll ba rfl rfl (by omega)) ?_
              have ka := alloc n0 ((sc k).set 1 (.int .i64 n0)) rfl
              have b14 := blk_upd_same (σ := σ4.new ⟨0, .ex, zero25⟩) σ4.next ⟨0, .ex, (sc k).set 1 (.int .i64 n0)⟩
              generalize hσ6 : (σ4.new ⟨0, .ex, zero25⟩).upd σ4.next ⟨0, .ex, (sc k).set 1 (.int .i64 n0)⟩ = σ6 at ka b14
              refine Som_of (v := .bool true) rfl ?_
              rw [WIf_true]
              have kb := Keep.bump ka.ok 10 (M := fun _ => False)
              have k4b := ka.trans kb
              have b14b := kb.old _ _ b14 (fun e => e)
              have hvb : InSl (σ6.bumpT 10) vn [n0, n1, n2] mn := SlAt.keep hvn (fun _ e => e) k4b
              generalize hσ7 : σ6.bumpT 10 = σ7 at kb k4b b14b hvb
              obtain ⟨q1, u1, l1⟩ := hvb.get (k := 1) rfl
              obtain ⟨q2, u2, l2⟩ := hvb.get (k := 2) rfl
              refine Som_of u1 ?_
              refine Som_of l1 ?_
              refine Som_of u2 ?_
              refine Som_of l2 ?_
              refine Som_of (vFieldAddr_ptr _ _ _) ?_
              refine Eff_of (store1_of b14b (by show 0 + 2 < 25; omega) rfl) ?_
              have ku := Keep.upd k4b.ok b14b (c := ⟨0, .ex, ((sc k).set 1 (.int .i64 n0)).set (0 + 2) (.int .i64 n1)⟩) rfl
              have ku : Keep (fun x => x = σ4.next.nat) σ7 _ := ku
              have b14u := blk_upd_same (σ := σ7) σ4.next ⟨0, .ex, ((sc k).set 1 (.int .i64 n0)).set (0 + 2) (.int .i64 n1)⟩
              have hmn := hmint k4.ok hvn
              have hvu : InSl _ vn [n0, n1, n2] mn := SlAt.keep hvb (fun _ e => by omega) ku
              obtain ⟨q3, u3, l3⟩ := hvu.get (k := 2) rfl
              rw [Option.some.inj (u3.symm.trans u2)] at l3
              refine Sure_of (SameO_of l3 (same_int _ _)) ?_
              refine Som_of (vFieldAddr_ptr _ _ _) ?_
              refine Eff_of (store1_of b14u (by show 0 + 3 < 25; omega) rfl) ?_
              have kv := Keep.upd ku.ok b14u (c := ⟨0, .ex, (((sc k).set 1 (.int .i64 n0)).set (0 + 2) (.int .i64 n1)).set (0 + 3) (.int .i64 n2)⟩) rfl
              have kv : Keep (fun x => x = σ4.next.nat) _ _ := kv
              refine f7.p0_of (fin2 _ _ σ4.next rfl rfl ?_ (blk_upd_same _ _))
              exact k14.trans (k4b.then k4.ok (ku.trans kv) fun x hx e => by omega)
            · have hf : fieldsOf k = [1, 2] := by rcases hk with rfl | rfl <;> rfl
              rw [hf] at hlen' fin2 ⊢
              obtain ⟨n0, n1, rfl⟩ : ∃ n0 n1, ns = [n0, n1] := two_of (hnl.trans hlen')
              obtain ⟨q0, u0, l0⟩ := hvn.get (k := 0) rfl
              refine Som_of u0 ?_
              refine Som_of l0 ?_
              refine Som_of (v := .agg ((sc k).set 1 (.int .i64 n0))) rfl ?_
              refine Ala_of (b := ⟨0, .ex, zero25⟩) (mk := fun p => .ptr p 0) rfl ?_
              refine Eff_of (stAll ba rfl rfl (by omega)) ?_
              have ka := alloc n0 ((sc k).set 1 (.int .i64 n0)) rfl
              have b14 := blk_upd_same (σ := σ4.new ⟨0, .ex, zero25⟩) σ4.next ⟨0, .ex, (sc k).set 1 (.int .i64 n0)⟩
              generalize hσ6 : (σ4.new ⟨0, .ex, zero25⟩).upd σ4.next ⟨0, .ex, (sc k).set 1 (.int .i64 n0)⟩ = σ6 at ka b14
              refine Som_of (v := .bool false) rfl ?_
              rw [WIf_false]
              have hvb : InSl σ6 vn [n0, n1] mn := SlAt.keep hvn (fun _ e => e) ka
              obtain ⟨q1, u1, l1⟩ := hvb.get (k := 1) rfl
              have tail : ∀ (Ef : AVal → AVal → AVal → En), (∀ t108 t109 t110, Ef t108 t109 t110 2 = .ptr σ.next 0 ∧ Ef t108 t109 t110 14 = .ptr σ4.next 0) →
                  Som (vIxSl 1 vn (.int .i64 1)) fun t108 => Som (vLoad1 t108 σ6) fun t109 => Som (vFieldAddr 2 (.ptr σ4.next 0)) fun t110 => Eff (storeW 1 t110 t109 σ6) fun _ σ7 => f7.J0 (WF tab) Q (Ef t108 t109 t110) σ7 := by
                intro Ef hE
                refine Som_of u1 ?_
                refine Som_of l1 ?_
                refine Som_of (vFieldAddr_ptr _ _ _) ?_
                refine Eff_of (store1_of b14 (by show 0 + 2 < 25; omega) rfl) ?_
                have ku := Keep.upd ka.ok b14 (c := ⟨0, .ex, ((sc k).set 1 (.int .i64 n0)).set (0 + 2) (.int .i64 n1)⟩) rfl
                have ku : Keep (fun x => x = σ4.next.nat) σ6 _ := ku
                refine f7.p0_of (fin2 _ _ σ4.next (hE _ _ _).1 (hE _ _ _).2 ?_ (blk_upd_same _ _))
                exact k14.trans (ka.then k4.ok ku fun x hx e => by omega)
              refine Som_of (bin_eql _ _ _ _) ?_
              by_cases hk4 : k = 4
              · rw [decide_eq_true hk4]
                refine Sn_of rfl ?_
                refine Sn_of rfl ?_
                refine Som_of (vPick_true _ _) ?_
                rw [WIf_true]
                exact tail _ (fun _ _ _ => ⟨rfl, rfl⟩)
              · rw [decide_eq_false hk4]
                refine Sq_of rfl rfl ?_
                refine Sq_of rfl (bin_eql _ _ _ _) ?_
                rw [decide_eq_true (by omega)]
                refine Som_of (vPick_false _ _) ?_
                rw [WIf_true]
                exact tail _ (fun _ _ _ => ⟨rfl, rfl⟩)
            · have hf : fieldsOf k = [1, 3] := by rcases hk with rfl | rfl | rfl <;> rfl
              rw [hf] at hlen' fin2 ⊢
              obtain ⟨n0, n1, rfl⟩ : ∃ n0 n1, ns = [n0, n1] := two_of (hnl.trans hlen')
              obtain ⟨q0, u0, l0⟩ := hvn.get (k := 0) rfl
              refine Som_of u0 ?_
              refine Som_of l0 ?_
              refine Som_of (v := .agg ((sc k).set 1 (.int .i64 n0))) rfl ?_
              refine Ala_of (b := ⟨0, .ex, zero25⟩) (mk := fun p => .ptr p 0) rfl ?_
              refine Eff_of (stAll ba rfl rfl (by omega)) ?_
              have ka := alloc n0 ((sc k).set 1 (.int .i64 n0)) rfl
              have b14 := blk_upd_same (σ := σ4.new ⟨0, .ex, zero25⟩) σ4.next ⟨0, .ex, (sc k).set 1 (.int .i64 n0)⟩
              generalize hσ6 : (σ4.new ⟨0, .ex, zero25⟩).upd σ4.next ⟨0, .ex, (sc k).set 1 (.int .i64 n0)⟩ = σ6 at ka b14
              refine Som_of (v := .bool false) rfl ?_
              rw [WIf_false]
              have hvb : InSl σ6 vn [n0, n1] mn := SlAt.keep hvn (fun _ e => e) ka
              obtain ⟨q1, u1, l1⟩ := hvb.get (k := 1) rfl
              refine Som_of (bin_eql _ _ _ _) ?_
              rw [decide_eq_false (by omega)]
              refine Sq_of rfl rfl ?_
              refine Sq_of rfl (bin_eql _ _ _ _) ?_
              rw [decide_eq_false (by omega)]
              refine Som_of (vPick_false _ _) ?_
              rw [WIf_false]
              refine Som_of (v := .bool true) rfl ?_
              rw [WIf_true]
              refine Som_of u1 ?_
              refine Som_of l1 ?_
              refine Som_of (vFieldAddr_ptr _ _ _) ?_
              refine Eff_of (store1_of b14 (by show 0 + 3 < 25; omega) rfl) ?_
              have ku := Keep.upd ka.ok b14 (c := ⟨0, .ex, ((sc k).set 1 (.int .i64 n0)).set (0 + 3) (.int .i64 n1)⟩) rfl
              have ku : Keep (fun x => x = σ4.next.nat) σ6 _ := ku
              refine f7.p0_of (fin2 _ _ σ4.next rfl rfl ?_ (blk_upd_same _ _))
              exact k14.trans (ka.then k4.ok ku fun x hx e => by omega)
            · have hf : fieldsOf k = [1] := by rcases hk with rfl | rfl <;> rfl
              rw [hf] at hlen' fin2 ⊢
              obtain ⟨n0, rfl⟩ : ∃ n0, ns = [n0] := List.length_eq_one_iff.1 (hnl.trans hlen')
              obtain ⟨q0, u0, l0⟩ := hvn.get (k := 0) rfl
              refine Som_of u0 ?_
              refine Som_of l0 ?_
              refine Som_of (v := .agg ((sc k).set 1 (.int .i64 n0))) rfl ?_
              refine Ala_of (b := ⟨0, .ex, zero25⟩) (mk := fun p => .ptr p 0) rfl ?_
              refine Eff_of (stAll ba rfl rfl (by omega)) ?_
              have ka := alloc n0 ((sc k).set 1 (.int .i64 n0)) rfl
              refine Som_of (v := .bool false) rfl ?_
              rw [WIf_false]
              refine Som_of (bin_eql _ _ _ _) ?_
              rw [decide_eq_false (by omega)]
              refine Sq_of rfl rfl ?_
              refine Sq_of rfl (bin_eql _ _ _ _) ?_
              rw [decide_eq_false (by omega)]
              refine Som_of (vPick_false _ _) ?_
              rw [WIf_false]
              refine Som_of (v := .bool false) rfl ?_
              rw [WIf_false]
              exact f7.p0_of (fin2 _ _ σ4.next rfl rfl (k14.trans ka) (blk_upd_same _ _))
        · refine Som_of (v := .nsl) rfl ?_
          refine Som_of (v := .bool false) rfl ?_
          have k14 := k2.trans k4
          have hn : kindV w ws = none := by
            unfold kindV
            split
            · rfl
            · exact fill_no (hno.imp (fun e => by omega) id)
          refine Som_of (bin_eql _ _ _ _) ?_
          by_cases h0 : kindOf w = 0
          · rw [decide_eq_true h0]
            refine Sn_of rfl ?_
            refine Sn_of rfl ?_
            refine Som_of (vPick_true _ _) ?_
            rw [WIf_true]
            exact bad σ4 k14 (badk hn)
          · rw [decide_eq_false h0]
            refine Sq_of rfl rfl ?_
            refine Sq_of rfl (un_not _) ?_
            refine Som_of (vPick_false _ _) ?_
            show WIf (.bool true) _ _
            rw [WIf_true]
            exact bad σ4 k14 (badk hn)
  · refine Som_of (v := .nsl) rfl ?_
    refine Som_of (v := .bool false) rfl ?_
    refine Som_of (un_not _) ?_
    show WIf (.bool true) _ _
    rw [WIf_true]
    refine bad σ2 k2 fun w ws e => nil_step ?_
    unfold wordsOf at hwo
    rw [← e]
    split at hwo
    · assumption
    · cases hwo
end
end Go.Am
namespace Go.Am
section
variable {tab : Nat → Option PFn} {σ : S} {Q : AVal → S → Prop}
def Fits : List CK → List AVal → Prop
  | [], [] => True
  | .i :: ks, .int _ _ :: cs => Fits ks cs
  | .b :: ks, .bool _ :: cs => Fits ks cs
  | _, _ => False
theorem Fits.len {ks : List CK} {cs : List AVal} (h : Fits ks cs) : cs.length = ks.length := by
  induction ks generalizing cs with
  | nil => cases cs with
    | nil => rfl
    | cons => exact h.elim
  | cons k ks ih =>
    cases cs with
    | nil => cases k <;> exact h.elim
    | cons c cs =>
      cases k with
      | i => cases c <;> first | exact h.elim | (have := ih h; simp [this])
      | b => cases c <;> first | exact h.elim | (have := ih h; simp [this])
      | s => cases c <;> exact h.elim
theorem Fits.eq {ks : List CK} {cs : List AVal} (h : Fits ks cs) : eqCells ks cs cs = some true := by
  induction ks generalizing cs with
  | nil => rfl
  | cons k ks ih =>
    cases cs with
    | nil => cases k <;> exact h.elim
    | cons c cs =>
      cases k with
      | i =>
        cases c with
        | int q n =>
          show andThen (test (keq q q) (some (ieq n n))) (fun b => match b with | true => eqCells ks cs cs | false => some false) = _
          rw [keq_iff.2 rfl, ieq_iff.2 rfl]
          exact ih h
        | _ => exact h.elim
      | b =>
        cases c with
        | bool b =>
          show andThen (some (beqB b b)) (fun b => match b with | true => eqCells ks cs cs | false => some false) = _
          rw [show beqB b b = true by cases b <;> rfl]
          exact ih h
        | _ => exact h.elim
      | s => cases c <;> exact h.elim
theorem eqAgg_self {ks : List CK} {cs : List AVal} (h : Fits ks cs) : vEqAgg ks false (.agg cs) (.agg cs) = some (.bool true) := by
  show test (Nat.beq (lenN cs) (lenC ks)) (test (Nat.beq (lenN cs) (lenC ks)) (andThen (eqCells ks cs cs) fun r => outB r)) = _
  rw [lenN_eq, lenC_eq, h.len, Nat.beq_refl, test_tt, test_tt, h.eq]; rfl
theorem Fits.setI {ks : List CK} {cs : List AVal} {p : Nat} {n : Int} (h : Fits ks cs) (hp : ks[p]? = some .i) : Fits ks (cs.set p (.int .i64 n)) := by
  induction ks generalizing cs p with
  | nil => cases hp
  | cons k ks ih =>
    cases cs with
    | nil => cases k <;> exact h.elim
    | cons c cs =>
      cases p with
      | zero =>
        have hk : k = .i := by simpa using hp
        subst hk
        cases c <;> first | exact h.elim | exact h
      | succ p =>
        have hp : ks[p]? = some .i := by simpa using hp
        cases k with
        | i => cases c <;> first | exact h.elim | exact ih h hp
        | b => cases c <;> first | exact h.elim | exact ih h hp
        | s => cases c <;> exact h.elim
theorem Fits.setB {ks : List CK} {cs : List AVal} {p : Nat} {b : Bool} (h : Fits ks cs) (hp : ks[p]? = some .b) : Fits ks (cs.set p (.bool b)) := by
  induction ks generalizing cs p with
  | nil => cases hp
  | cons k ks ih =>
    cases cs with
    | nil => cases k <;> exact h.elim
    | cons c cs =>
      cases p with
      | zero =>
        have hk : k = .b := by simpa using hp
        subst hk
        cases c <;> first | exact h.elim | exact h
      | succ p =>
        have hp : ks[p]? = some .b := by simpa using hp
        cases k with
        | i => cases c <;> first | exact h.elim | exact ih h hp
        | b => cases c <;> first | exact h.elim | exact ih h hp
        | s => cases c <;> exact h.elim
theorem Fits.putAll {ks : List CK} {cs : List AVal} {ps : List Nat} {ns : List Int} (h : Fits ks cs) (hp : ∀ p ∈ ps, ks[p]? = some .i) : Fits ks (Am.putAll cs ps ns) := by
  induction ps generalizing cs ns with
  | nil => exact h
  | cons p ps ih =>
    cases ns with
    | nil => exact h
    | cons n ns => exact ih (h.setI (hp p List.mem_cons_self)) (fun q hq => hp q (List.mem_cons_of_mem _ hq))
theorem Fits.app {k1 k2 : List CK} {a b : List AVal} (h : Fits k1 a) (k : Fits k2 b) : Fits (k1 ++ k2) (a ++ b) := by
  induction k1 generalizing a with
  | nil => cases a with
    | nil => exact k
    | cons => exact h.elim
  | cons x k1 ih =>
    cases a with
    | nil => cases x <;> exact h.elim
    | cons c a =>
      cases x with
      | i => cases c <;> first | exact h.elim | exact ih h
      | b => cases c <;> first | exact h.elim | exact ih h
      | s => cases c <;> exact h.elim
theorem Fits.fill {ks : List CK} {cs c : List AVal} {ws : List (List Nat)} {ps : List Nat} (h : Fits ks cs) (hp : ∀ p ∈ ps, ks[p]? = some .i) (hf : fill ws ps cs = some c) : Fits ks c := by
  unfold Am.fill at hf
  split at hf
  · split at hf
    · cases hf; exact h.putAll hp
    · cases hf
  · cases hf
def ks19 : List CK := [.i, .i, .i, .i, .i, .i, .i, .i, .i, .i, .i, .i, .i, .i, .i, .i, .b, .i, .i]
def ks25 : List CK := [.i, .i, .i, .i, .i, .i] ++ ks19
def isI : Option CK → Bool
  | some .i => true
  | _ => false
theorem isI_eq {o : Option CK} (h : isI o = true) : o = some .i := by
  cases o with
  | none => cases h
  | some c => cases c <;> first | rfl | cases h
theorem places_i {k : Int} : ∀ p ∈ placesOf k, ks19[p]? = some .i := by
  intro o ho
  refine isI_eq ?_
  unfold placesOf at ho
  repeat' split at ho
  all_goals revert o; decide
theorem fields_i {k : Int} : ∀ p ∈ fieldsOf k, ks25[p]? = some .i := by
  intro o ho
  refine isI_eq ?_
  unfold fieldsOf at ho
  repeat' split at ho
  all_goals revert o; decide
theorem cmdOf_fits {ws : List (List Nat)} {c : List AVal} (h : cmdOf ws = some c) : Fits ks19 c := by
  cases ws with
  | nil => cases h
  | cons w ws =>
    have h : (if kOf w = 0 then none else cmdK (kOf w) ws) = some c := h
    split at h
    · cases h
    · unfold cmdK at h
      split at h
      · split at h
        · cases h
        · split at h
          · exact Fits.fill (cs := (kc 3).set 16 _) (by exact (trivial : Fits ks19 ((kc 3).set 16 (.bool _)))) places_i h
          · cases h
      · exact Fits.fill (cs := kc _) (by exact (trivial : Fits ks19 (kc _))) places_i h
theorem callOf_fits {ws : List (List Nat)} {c : List AVal} (h : callOf ws = some c) : Fits ks25 c := by
  unfold callOf at h
  split at h
  · cases h
  · split at h
    · cases h
    · rename_i ns hns
      split at h
      · cases h
      · rename_i c' hc
        cases h
        refine Fits.app ?_ (cmdOf_fits hc)
        have h25 : Fits ks25 (putAll (sc 9) [1, 4] ns) := Fits.putAll (trivial : Fits ks25 (sc 9)) (fun p hp => isI_eq (by revert p; decide))
        match ns with
        | [] => exact (trivial : Fits [CK.i, .i, .i, .i, .i, .i] ((sc 9).take 6))
        | [n0] => exact (trivial : Fits [CK.i, .i, .i, .i, .i, .i] (((sc 9).set 1 (.int .i64 n0)).take 6))
        | n0 :: n1 :: _ => exact (trivial : Fits [CK.i, .i, .i, .i, .i, .i] ((((sc 9).set 1 (.int .i64 n0)).set 4 (.int .i64 n1)).take 6))
theorem parseOf_fits (s : List Nat) : Fits ks25 (parseOf s).1 := by
  unfold parseOf
  split
  · exact (trivial : Fits ks25 zero25)
  · split
    · exact (trivial : Fits ks25 zero25)
    · rename_i w ws _
      cases hst : stepOf w ws with
      | none => exact (trivial : Fits ks25 zero25)
      | some cs =>
        show Fits ks25 cs
        unfold stepOf at hst
        split at hst
        · exact callOf_fits hst
        · split at hst
          · cases hst
          · exact Fits.fill (cs := sc _) (by exact (trivial : Fits ks25 (sc _))) fields_i hst
def Runs (tab : Nat → Option PFn) (f : Nat) : Prop := ∀ (σ : S) (Q : AVal → S → Prop), Q (.bool true) σ → WF tab f [] σ Q
theorem parses_c (h : Hs tab) (hr : Runs tab 8) (ho : Ok σ) {s : List Nat} (hQ : ∀ σ', Q (.bool true) σ') : WF tab 3 [.str s] σ Q := by
  refine f3_wf h.ht.t3 ?_
  unfold f3
  have hf := parseOf_fits s
  have hl : (parseOf s).1.length = 25 := hf.len
  refine Parse_c h ho fun σ1 k1 => ?_
  refine Som_of (v := .agg (parseOf s).1) rfl ?_
  refine Som_of (v := .int .i64 (parseOf s).2) rfl ?_
  refine Ala_of (b := ⟨0, .ex, zero25⟩) (mk := fun p => .ptr p 0) rfl ?_
  have k2 := Keep.new (M := fun _ => False) k1.ok ⟨0, .ex, zero25⟩
  have b3 : (σ1.new ⟨0, .ex, zero25⟩).blk σ1.next = some ⟨0, .ex, zero25⟩ := by rw [blk_new, if_pos rfl]; rfl
  refine Eff_of (stAll b3 hl rfl (by omega)) ?_
  have k3 := Keep.upd k2.ok b3 (c := ⟨0, .ex, (parseOf s).1⟩) rfl
  have b3' := blk_upd_same (σ := σ1.new ⟨0, .ex, zero25⟩) σ1.next ⟨0, .ex, (parseOf s).1⟩
  generalize hσ3 : (σ1.new ⟨0, .ex, zero25⟩).upd σ1.next ⟨0, .ex, (parseOf s).1⟩ = σ3 at k3 b3'
  refine rParse_c h k3.ok fun σ4 k4 => ?_
  refine Som_of (v := .agg (parseOf s).1) rfl ?_
  refine Som_of (v := .int .i64 (parseOf s).2) rfl ?_
  refine Ala_of (b := ⟨0, .ex, zero25⟩) (mk := fun p => .ptr p 0) rfl ?_
  have k5 := Keep.new (M := fun _ => False) k4.ok ⟨0, .ex, zero25⟩
  have b5 : (σ4.new ⟨0, .ex, zero25⟩).blk σ4.next = some ⟨0, .ex, zero25⟩ := by rw [blk_new, if_pos rfl]; rfl
  refine Eff_of (stAll b5 hl rfl (by omega)) ?_
  have k6 := Keep.upd k5.ok b5 (c := ⟨0, .ex, (parseOf s).1⟩) rfl
  have k46 : Keep (fun _ => False) σ4 _ := k5.then k4.ok k6 fun x hx e => by have : x = σ4.next.nat := e; omega
  refine Som_of (ldAll (n := 25) ((k4.trans k46).old _ _ b3' fun e => e) hl) ?_
  refine Som_of (ldAll (n := 25) (blk_upd_same _ _) hl) ?_
  refine Som_of (v := .bool true) (eqAgg_self hf) ?_
  refine Sq_of rfl rfl ?_
  refine Sq_of rfl rfl ?_
  refine Sq_of rfl (bin_eql _ _ _ _) ?_
  rw [decide_eq_true rfl]
  refine Som_of (vPick_true _ _) ?_
  refine GE_t rfl ?_
  refine hr _ _ ?_
  refine Som_of (vPick_true _ _) ?_
  rw [Ret_1 rfl]
  exact hQ _
end
end Go.Am
