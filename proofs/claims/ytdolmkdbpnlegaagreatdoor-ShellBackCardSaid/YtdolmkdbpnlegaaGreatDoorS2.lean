/-
  What the functions do, as conditions over the evaluator. Conditions: none.
-/
import Derived.Test.YtdolmkdbpnlegaaGreatDoorS1
import Derived.Lib.AtoiAllCases
import Derived.Lib.ItoaMem
namespace Go.Am
section
variable {tab : Nat → Option PFn} {σ : S} {Q : AVal → S → Prop}
theorem rline_end (h : Hs tab) (ho : Ok σ) {s : Sp} {p1 : Pos} {l r : List Nat} {E : En} (b1 : σ.blk p1 = some ⟨0, .ex, s.cells⟩) (e1 : E 1 = .ptr p1 0) (e3 : E 3 = .str l)
    (hl : (l = [] ∧ r = []) ∨ (l ≠ [] ∧ ∃ x : Sp, parseOf l = (x.cells, 0) ∧ (x = s → r = l) ∧ (x ≠ s → r = []))) (hQ : ∀ σ', Keep (fun _ => False) σ σ' → Q (.str r) σ') : f10.p2 (WF tab) Q E σ := by
  unfold f10.p2
  rw [e1, e3]
  refine rParse_c h ho fun σ1 k1 => ?_
  have hlen : (parseOf l).1.length = 25 := (parseOf_fits l).len
  refine Som_of (v := .agg (parseOf l).1) rfl ?_
  refine Som_of (v := .int .i64 (parseOf l).2) rfl ?_
  refine Ala_of (b := ⟨0, .ex, zero25⟩) (mk := fun p => .ptr p 0) rfl ?_
  obtain ⟨k2, b2⟩ := boxA k1.ok (M := fun _ => False) zero25
  have b12 := k2.old _ _ (k1.old _ _ b1 fun e => e) fun e => e
  have hne : p1.nat ≠ σ1.next.nat := by
    have := k1.ok.lt (k1.old _ _ b1 fun e => e)
    omega
  generalize hq : σ1.next = p9 at b2 hne
  generalize σ1.new ⟨0, .ex, zero25⟩ = σ2 at k2 b2 b12
  refine Eff_of (stAll b2 hlen rfl (by omega)) ?_
  have k3 : Keep (fun x => x = p9.nat) σ2 _ := Keep.upd k2.ok b2 (c := ⟨0, .ex, (parseOf l).1⟩) rfl
  have b13 := k3.old _ _ b12 hne
  have b93 := blk_upd_same (σ := σ2) p9 ⟨0, .ex, (parseOf l).1⟩
  have k03 : Keep (fun _ => False) σ _ := Keep.then ho (k1.trans k2) k3 fun x hx e => by
    subst hq
    have := k1.next
    omega
  generalize σ2.upd p9 ⟨0, .ex, (parseOf l).1⟩ = σ3 at b13 b93 k03
  refine Som_of (bin_eql_str _ _ _) ?_
  rcases hl with ⟨rfl, rfl⟩ | ⟨hl, x, hx, hr1, hr2⟩
  · refine Sn_of rfl ?_
    refine Sn_of rfl ?_
    refine Som_of (vPick_true _ _) ?_
    refine Sn_of rfl ?_
    refine Sn_of rfl ?_
    refine Sn_of rfl ?_
    refine Som_of (vPick_true _ _) ?_
    rw [WIf_true, Ret_1 rfl]
    exact hQ _ k03
  · rw [decide_eq_false hl]
    rw [hx] at b93 ⊢
    refine Sq_of rfl rfl ?_
    refine Sq_of (v := .bool false) rfl rfl ?_
    refine Som_of (vPick_false _ _) ?_
    refine Sq_of rfl (ldAll (n := 25) b93 rfl) ?_
    refine Sq_of rfl (ldAll (n := 25) b13 rfl) ?_
    obtain ⟨rr, g1, g2⟩ := eqAgg_dec (ks := ks25) (a := x.cells) (b := s.cells) trivial trivial true
    refine Sq_of rfl g1 ?_
    refine Som_of (vPick_false _ _) ?_
    rw [Sp.cells_iff] at g2
    have := hQ _ k03
    cases rr with
    | true =>
      show WIf (.bool false) _ _
      rw [WIf_false, Ret_1 rfl, ← hr1 (g2.1 rfl)]
      exact this
    | false =>
      show WIf (.bool true) _ _
      rw [WIf_true, Ret_1 rfl]
      rw [hr2 fun e => by have := g2.2 e; cases this] at this
      exact this
theorem told_ne {c : Cm} : c.told = [] ↔ c.right = false := by
  unfold Cm.told
  cases hr : c.right with
  | true => exact ⟨fun e => absurd e (words_ne (right_kind hr)), fun e => by cases e⟩
  | false => exact ⟨fun _ => rfl, fun _ => rfl⟩
theorem RLine_c (h : Hs tab) (ho : Ok σ) {s : Sp} (hs : s.Ok) (hQ : ∀ σ', Keep (fun _ => False) σ σ' → Q (.str s.line) σ') : WF tab 10 [.agg s.cells] σ Q := by
  refine f10_wf h.ht.t10 ?_
  unfold f10
  refine Ala_of (b := ⟨0, .ex, s.cells⟩) (mk := fun p => .ptr p 0) rfl ?_
  obtain ⟨k1, b1⟩ := boxA ho (M := fun _ => False) s.cells
  generalize σ.new ⟨0, .ex, s.cells⟩ = σ1 at k1 b1
  generalize σ.next = p1 at b1
  have go : ∀ {l : List Nat} {E : En} {σ2 : S}, E 1 = .ptr p1 0 → E 3 = .str l → Keep (fun _ => False) σ1 σ2 →
      ((lookOf s kl l = [] ∧ s.line = []) ∨ (lookOf s kl l ≠ [] ∧ ∃ x : Sp, parseOf (lookOf s kl l) = (x.cells, 0) ∧ (x = s → s.line = lookOf s kl l) ∧ (x ≠ s → s.line = []))) → f10.J0 (WF tab) Q E σ2 := by
    intro l E σ2 e1 e3 k2 hl
    refine f10.p0_of ?_
    unfold f10.p0
    have b2 := k2.old _ _ b1 fun e => e
    refine Ala_sl k2.ok (k := 11) ((kl.map wordOf).map .str) rfl rfl fun p σ3 g1 g2 g3 => ?_
    refine Som_of g1.len ?_
    have b3 := g3.old _ _ b2 fun e => e
    refine look_loop h hs g1 b3 (lf := lookOf s kl l) ?_ 11 0 _ σ3 l (by omega) e1 e3 rfl rfl rfl (Keep.refl g3.ok) rfl
    intro E' σ4 f1 f3 k4
    exact f10.p2_of (rline_end h k4.ok (k4.old _ _ b3 fun e => e) f1 f3 hl fun σ' k => hQ σ' ((((k1.trans k2).trans g3).trans k4).trans k))
  refine Som_of (vFieldAddr_ptr _ _ _) ?_
  refine Som_of ((load1_of b1).trans rfl) ?_
  by_cases h9 : s.k = 9
  · refine Som_of (eql_t h9) ?_
    rw [WIf_true]
    have h9k : s.k ∉ kl := by rw [h9]; decide
    obtain ⟨_, hia, _, _, his, _, hic⟩ := hs
    have hline : s.line = if s.c.right = true ∧ s.q = 0 ∧ s.b = 0 ∧ s.n = 0 then saidOf callW [s.a, s.s] ++ 32 :: s.c.words else [] := by
      unfold Sp.line
      rw [if_pos h9]
    refine Som_of (vFieldAddr_ptr _ _ _) ?_
    refine Som_of (vFieldAddr_ptr _ _ _) ?_
    refine Som_of (ldN (xs := s.c.cells) b1 (Nat.le_of_ble_eq_true rfl) rfl) ?_
    refine told_c h k1.ok hic fun σ2 k2 => ?_
    have b2 := k2.old _ _ b1 fun e => e
    refine Som_of (bin_eql_str _ _ _) ?_
    refine WIf_dec (fun ht => ?_) (fun ht => ?_)
    · have hr := told_ne.1 ht
      rw [if_neg (fun e => by rw [hr] at e; cases e.1)] at hline
      have := hQ σ2 (k1.trans k2)
      rw [hline] at this
      rw [Ret_1 rfl]; exact this
    · have hr : s.c.right = true := by
        cases hr : s.c.right with
        | true => rfl
        | false => exact absurd (told_ne.2 hr) ht
      have htw : s.c.told = s.c.words := by unfold Cm.told; rw [hr]; rfl
      rw [htw]
      repeat first | refine Som_of (vFieldAddr_ptr _ _ _) ?_ | refine Som_of ((load1_of b2).trans rfl) ?_
      have hin : ∀ n ∈ [s.a, s.s], InR n := by
        intro n hn
        simp only [List.mem_cons, List.not_mem_nil, or_false] at hn
        rcases hn with rfl | rfl <;> assumption
      have hsl := saidOf_len hin callW
      have hwl := words_len hic
      have hcl : callW.length = 4 := rfl
      simp only [List.length_cons, List.length_nil] at hsl
      refine said_in h k2.ok (w := callW) (ns := [s.a, s.s]) rfl rfl hin (Nat.le_of_ble_eq_true rfl) (by decide) fun σ3 k3 => ?_
      refine Som_of (bin_add_str _ (by simp; omega)) ?_
      refine Som_of (bin_add_str _ (by simp; omega)) ?_
      have hpc := parse_call hia his hic hr
      rw [show saidOf callW [s.a, s.s] ++ [32] ++ s.c.words = saidOf callW [s.a, s.s] ++ 32 :: s.c.words by rw [List.append_assoc]; rfl]
      have hlk : lookOf s kl (saidOf callW [s.a, s.s] ++ 32 :: s.c.words) = saidOf callW [s.a, s.s] ++ 32 :: s.c.words := lookOf_no h9k _
      refine go (l := saidOf callW [s.a, s.s] ++ 32 :: s.c.words) rfl rfl (k2.trans k3) (.inr ?_)
      rw [hlk]
      refine ⟨by simp, _, hpc, fun e => ?_, fun e => ?_⟩
      · rw [hline, if_pos]
        rw [← e]
        exact ⟨by rw [← e] at hr; exact hr, rfl, rfl, rfl⟩
      · rw [hline, if_neg]
        rintro ⟨_, q1, q2, q3⟩
        refine e ?_
        rcases s with ⟨k, a, b, n, s, q, c⟩
        simp only at h9 q1 q2 q3
        subst h9 q1 q2 q3
        rfl
  · refine Som_of (eql_f h9) ?_
    rw [WIf_false]
    have hline : s.line = (open Classical in if wordOf s.k ≠ [] ∧ s.clear = Sp.only s.k then saidOf (wordOf s.k) s.nums else []) := by
      unfold Sp.line
      rw [if_neg h9]
    refine go (l := []) rfl rfl (Keep.refl k1.ok) ?_
    by_cases hw : wordOf s.k = []
    · refine .inl ⟨lookOf_no (fun e => kl_word _ e hw) _, ?_⟩
      rw [hline, if_neg (fun e => e.1 hw)]
    · have hlk : lookOf s kl [] = saidOf (wordOf s.k) s.nums := lookOf_yes (kl_of hw) kl_nodup _
      obtain ⟨x, hx1, hx2⟩ := parse_word hs hw
      rw [hlk]
      refine .inr ⟨saidOf_ne hw _, x, hx1, fun e => ?_, fun e => ?_⟩
      · rw [hline, if_pos ⟨hw, hx2.1 e⟩]
      · rw [hline, if_neg (fun g => e (hx2.2 g.2))]
end
end Go.Am
namespace Go.Am
section
variable {tab : Nat → Option PFn} {σ : S} {Q : AVal → S → Prop}
def nameOf (k : Int) : List Nat := if k = 1 then [105, 110, 118, 111, 107, 101, 100] else if k = 2 then [97, 110, 115, 119, 101, 114, 101, 100] else if k = 3 then [114, 101, 102, 117, 115, 101, 100] else []
theorem nameOf_len (k : Int) : (nameOf k).length ≤ 8 := by
  unfold nameOf
  repeat' split
  all_goals decide
def Ev.head (e : Ev) : List Int := [e.nd, e.s, e.q]
def Ev.tail (e : Ev) : List Int := [e.w, e.st, e.d, e.t]
noncomputable def Ev.text (e : Ev) : List Nat := saidOf (nameOf e.k) e.head ++ 32 :: e.c.words ++ (if e.k = 2 then saidOf [58] e.tail else [])
noncomputable def Ev.show (e : Ev) : List Nat := if nameOf e.k = [] then [] else if e.c.right then e.text else []
theorem head_in {e : Ev} (h : e.Ok) : ∀ n ∈ e.head, InR n := by
  obtain ⟨h1, h2, h3, _⟩ := h
  intro n hn
  simp only [Ev.head, List.mem_cons, List.not_mem_nil, or_false] at hn
  rcases hn with rfl | rfl | rfl <;> assumption
theorem tail_in {e : Ev} (h : e.Ok) : ∀ n ∈ e.tail, InR n := by
  obtain ⟨_, _, _, _, h1, h2, h3, h4⟩ := h
  intro n hn
  simp only [Ev.tail, List.mem_cons, List.not_mem_nil, or_false] at hn
  rcases hn with rfl | rfl | rfl | rfl <;> assumption
theorem base_len {e : Ev} (h : e.Ok) : (saidOf (nameOf e.k) e.head).length ≤ 100 := by
  have h1 := saidOf_len (head_in h) (nameOf e.k)
  have h2 := nameOf_len e.k
  have h3 : e.head.length = 3 := rfl
  omega
theorem tail_len {e : Ev} (h : e.Ok) : (saidOf [58] e.tail).length ≤ 100 := by
  have h1 := saidOf_len (tail_in h) [58]
  have h3 : e.tail.length = 4 := rfl
  have h4 : ([58] : List Nat).length = 1 := rfl
  omega
theorem Show_c (h : Hs tab) (ho : Ok σ) {e : Ev} (he : e.Ok) (hQ : ∀ σ', Keep (fun _ => False) σ σ' → Q (.str e.show) σ') : WF tab 11 [.agg e.cells] σ Q := by
  refine f11_wf h.ht.t11 ?_
  unfold f11
  refine Ala_of (b := ⟨0, .ex, e.cells⟩) (mk := fun p => .ptr p 0) rfl ?_
  obtain ⟨k1, b1⟩ := boxA ho (M := fun _ => False) e.cells
  generalize σ.new ⟨0, .ex, e.cells⟩ = σ1 at k1 b1
  generalize σ.next = p1 at b1
  have go : ∀ {E : En}, E 1 = .ptr p1 0 → E 3 = .str (nameOf e.k) → f11.p0 (WF tab) Q E σ1 := by
    intro E e1 e3
    unfold f11.p0
    rw [e1, e3]
    refine Som_of (bin_eql_str _ _ _) ?_
    unfold Ev.show at hQ
    by_cases hn : nameOf e.k = []
    · rw [decide_eq_true hn]
      refine Sn_of rfl ?_
      refine Sn_of rfl ?_
      refine Sn_of rfl ?_
      refine GE_n rfl ?_
      refine Sn_of rfl ?_
      refine Som_of (vPick_true _ _) ?_
      have := hQ σ1 k1
      rw [if_pos hn] at this
      rw [WIf_true, Ret_1 rfl]; exact this
    · rw [decide_eq_false hn]
      rw [if_neg hn] at hQ
      refine Sq_of rfl (vFieldAddr_ptr _ _ _) ?_
      refine Sq_of rfl (vFieldAddr_ptr _ _ _) ?_
      refine Sq_of rfl (ldN (xs := e.c.cells) b1 (Nat.le_of_ble_eq_true rfl) rfl) ?_
      refine GE_t rfl ?_
      refine Right_c h k1.ok fun σ2 k2 => ?_
      have b2 := k2.old _ _ b1 fun e => e
      have k02 := k1.trans k2
      refine Sq_of rfl (un_not _) ?_
      refine Som_of (vPick_false _ _) ?_
      cases hr : e.c.right with
      | false =>
        rw [hr] at hQ
        show WIf (.bool true) _ _
        rw [WIf_true, Ret_1 rfl]; exact hQ σ2 k02
      | true =>
        rw [hr, if_pos rfl] at hQ
        show WIf (.bool false) _ _
        rw [WIf_false]
        repeat refine Som_of (vFieldAddr_ptr _ _ _) ?_
        have kb := Keep.bump k02.ok 15 (M := fun _ => False)
        refine Som_of (ldN (xs := e.c.cells) (kb.old _ _ b2 fun e => e) (Nat.le_of_ble_eq_true rfl) rfl) ?_
        refine Alb_sl k02.ok (by decide) [.ptr p1 1, .ptr p1 2, .ptr p1 3] rfl rfl fun p σ3 f1 f2 k3 => ?_
        have b3 := k3.old _ _ b2 fun e => e
        have hic : e.c.Ok := he.2.2.2.1
        have hbl := base_len he
        have hwl := words_len hic
        have htl := tail_len he
        have hnl := nameOf_len e.k
        refine join_c h (ns := e.head) f1 (Pts.cons b3 rfl (Pts.cons b3 rfl (Pts.cons b3 rfl Pts.nil))) (head_in he) (Nat.le_of_ble_eq_true rfl) (by omega) ?_
        refine Sure_of (SameO_of (ldN (xs := e.c.cells) b3 (Nat.le_of_ble_eq_true rfl) rfl) (same_cm _)) ?_
        refine Som_of (bin_add_str _ (by simp; omega)) ?_
        refine spoken_c h k3.ok hic (right_kind hr) fun σ4 k4 => ?_
        have b4 := k4.old _ _ b3 fun e => e
        have k04 := (k02.trans k3).trans k4
        refine Som_of (bin_add_str _ (by simp; omega)) ?_
        refine Som_of (vFieldAddr_ptr _ _ _) ?_
        refine Som_of ((load1_of b4).trans rfl) ?_
        rw [show saidOf (nameOf e.k) e.head ++ [32] ++ e.c.words = saidOf (nameOf e.k) e.head ++ 32 :: e.c.words by rw [List.append_assoc]; rfl]
        unfold Ev.text at hQ
        by_cases h2 : e.k = 2
        · rw [if_pos h2] at hQ
          refine Som_of (eql_t h2) ?_
          rw [WIf_true]
          refine Som_of (vFieldAddr_ptr _ _ _) ?_
          refine Som_of (vFieldAddr_ptr _ _ _) ?_
          refine Som_of ((load1_of b4).trans rfl) ?_
          refine Ala_of (b := ⟨0, .ex, [iv 0]⟩) (mk := fun p => .ptr p 0) rfl ?_
          obtain ⟨k5, b5⟩ := boxA k04.ok (M := fun _ => False) [iv 0]
          have hp5 : σ4.next.nat ≤ σ4.next.nat := Nat.le_refl _
          generalize hq : σ4.next = p5 at b5 hp5
          refine Eff_of (store1_of b5 (by decide) rfl) ?_
          have k6 : Keep (fun x => x = p5.nat) _ _ := Keep.upd k5.ok b5 (c := ⟨0, .ex, ([iv 0] : List AVal).set 0 (iv e.w)⟩) rfl
          have b56 := blk_upd_same (σ := σ4.new ⟨0, .ex, [iv 0]⟩) p5 ⟨0, .ex, ([iv 0] : List AVal).set 0 (iv e.w)⟩
          have k46 : Keep (fun _ => False) σ4 _ := Keep.then k04.ok k5 k6 fun x hx e => by subst hq; omega
          have b6 := k46.old _ _ b4 fun e => e
          generalize (σ4.new ⟨0, .ex, [iv 0]⟩).upd p5 ⟨0, .ex, ([iv 0] : List AVal).set 0 (iv e.w)⟩ = σ6 at b56 k46 b6
          repeat refine Som_of (vFieldAddr_ptr _ _ _) ?_
          refine Ala_sl k46.ok [.ptr p5 0, .ptr p1 24, .ptr p1 25, .ptr p1 26] rfl rfl fun p σ7 f3 f4 k7 => ?_
          have b7 := k7.old _ _ b6 fun e => e
          have b57 := k7.old _ _ b56 fun e => e
          refine join_c h (ns := e.tail) f3 (Pts.cons b57 rfl (Pts.cons b7 rfl (Pts.cons b7 rfl (Pts.cons b7 rfl Pts.nil)))) (tail_in he) (Nat.le_of_ble_eq_true rfl) (by decide) ?_
          refine Som_of (bin_add_str _ (by simp; omega)) ?_
          rw [Ret_1 rfl]
          exact hQ σ7 ((k04.trans k46).trans k7)
        · rw [if_neg h2, List.append_nil] at hQ
          refine Som_of (eql_f h2) ?_
          rw [WIf_false, Ret_1 rfl]
          exact hQ σ4 k04
  refine Som_of (vFieldAddr_ptr _ _ _) ?_
  refine Som_of ((load1_of b1).trans rfl) ?_
  by_cases h1 : e.k = 1
  · refine Som_of (eql_t h1) ?_
    rw [WIf_true]
    exact f11.p0_of (go rfl (by unfold nameOf; rw [if_pos h1]; rfl))
  refine Som_of (eql_f h1) ?_
  rw [WIf_false]
  by_cases h2 : e.k = 2
  · refine Som_of (eql_t h2) ?_
    rw [WIf_true]
    exact f11.p0_of (go rfl (by unfold nameOf; rw [if_neg h1, if_pos h2]; rfl))
  refine Som_of (eql_f h2) ?_
  rw [WIf_false]
  by_cases h3 : e.k = 3
  · refine Som_of (eql_t h3) ?_
    rw [WIf_true]
    exact f11.p0_of (go rfl (by unfold nameOf; rw [if_neg h1, if_neg h2, if_pos h3]; rfl))
  refine Som_of (eql_f h3) ?_
  rw [WIf_false]
  exact f11.p0_of (go rfl (by unfold nameOf; rw [if_neg h1, if_neg h2, if_neg h3]; rfl))
theorem RShow_c (h : Hs tab) (ho : Ok σ) {e : Ev} (he : e.Ok) (hQ : ∀ σ', Keep (fun _ => False) σ σ' → Q (.str e.show) σ') : WF tab 12 [.agg e.cells] σ Q := by
  refine f12_wf h.ht.t12 ?_
  unfold f12
  refine Ala_of (b := ⟨0, .ex, e.cells⟩) (mk := fun p => .ptr p 0) rfl ?_
  obtain ⟨k1, b1⟩ := boxA ho (M := fun _ => False) e.cells
  generalize σ.new ⟨0, .ex, e.cells⟩ = σ1 at k1 b1
  generalize σ.next = p1 at b1
  have go : ∀ {E : En}, E 1 = .ptr p1 0 → E 3 = .str (nameOf e.k) → f12.p0 (WF tab) Q E σ1 := by
    intro E e1 e3
    unfold f12.p0
    rw [e1, e3]
    refine Som_of (vFieldAddr_ptr _ _ _) ?_
    refine Som_of (vFieldAddr_ptr _ _ _) ?_
    refine Som_of (ldN (xs := e.c.cells) b1 (Nat.le_of_ble_eq_true rfl) rfl) ?_
    have hic : e.c.Ok := he.2.2.2.1
    refine told_c h k1.ok hic fun σ2 k2 => ?_
    have b2 := k2.old _ _ b1 fun e => e
    have k02 := k1.trans k2
    refine Som_of (bin_eql_str _ _ _) ?_
    unfold Ev.show at hQ
    by_cases hn : nameOf e.k = []
    · rw [decide_eq_true hn]
      refine Sn_of rfl ?_
      refine Sn_of rfl ?_
      refine Som_of (vPick_true _ _) ?_
      have := hQ σ2 k02
      rw [if_pos hn] at this
      rw [WIf_true, Ret_1 rfl]; exact this
    · rw [decide_eq_false hn]
      rw [if_neg hn] at hQ
      refine Sq_of rfl rfl ?_
      refine Sq_of rfl (bin_eql_str _ _ _) ?_
      refine Som_of (vPick_false _ _) ?_
      refine WIf_dec (fun ht => ?_) (fun ht => ?_)
      · have hr := told_ne.1 ht
        have := hQ σ2 k02
        rw [hr] at this
        rw [Ret_1 rfl]; exact this
      · have hr : e.c.right = true := by
          cases hr : e.c.right with
          | true => rfl
          | false => exact absurd (told_ne.2 hr) ht
        rw [hr, if_pos rfl] at hQ
        have htw : e.c.told = e.c.words := by unfold Cm.told; rw [hr]; rfl
        rw [htw]
        repeat first | refine Som_of (vFieldAddr_ptr _ _ _) ?_ | refine Som_of ((load1_of b2).trans rfl) ?_
        have hbl := base_len he
        have hwl := words_len hic
        have hnl := nameOf_len e.k
        refine said_in h k02.ok (ns := e.head) rfl rfl (head_in he) (Nat.le_of_ble_eq_true rfl) (by omega) fun σ3 k3 => ?_
        have b3 := k3.old _ _ b2 fun e => e
        refine Som_of (bin_add_str _ (by simp; omega)) ?_
        refine Som_of (bin_add_str _ (by simp; omega)) ?_
        rw [show saidOf (nameOf e.k) e.head ++ [32] ++ e.c.words = saidOf (nameOf e.k) e.head ++ 32 :: e.c.words by rw [List.append_assoc]; rfl]
        refine Som_of (vFieldAddr_ptr _ _ _) ?_
        refine Som_of ((load1_of b3).trans rfl) ?_
        unfold Ev.text at hQ
        by_cases h2 : e.k = 2
        · rw [if_pos h2] at hQ
          refine Som_of (eql_t h2) ?_
          rw [WIf_true]
          refine Som_of (bin_add_str _ (by simp; omega)) ?_
          repeat first | refine Som_of (vFieldAddr_ptr _ _ _) ?_ | refine Som_of ((load1_of b3).trans rfl) ?_
          refine said_in h k3.ok (ns := e.tail) rfl rfl (tail_in he) (Nat.le_of_ble_eq_true rfl) (by simp; omega) fun σ4 k4 => ?_
          rw [Ret_1 rfl, saidOf_pre]
          exact hQ σ4 ((k02.trans k3).trans k4)
        · rw [if_neg h2, List.append_nil] at hQ
          refine Som_of (eql_f h2) ?_
          rw [WIf_false, Ret_1 rfl]
          exact hQ σ3 (k02.trans k3)
  refine Som_of (vFieldAddr_ptr _ _ _) ?_
  refine Som_of ((load1_of b1).trans rfl) ?_
  by_cases h1 : e.k = 1
  · refine Som_of (eql_t h1) ?_
    rw [WIf_true]
    exact f12.p0_of (go rfl (by unfold nameOf; rw [if_pos h1]; rfl))
  refine Som_of (eql_f h1) ?_
  rw [WIf_false]
  by_cases h2 : e.k = 2
  · refine Som_of (eql_t h2) ?_
    rw [WIf_true]
    exact f12.p0_of (go rfl (by unfold nameOf; rw [if_neg h1, if_pos h2]; rfl))
  refine Som_of (eql_f h2) ?_
  rw [WIf_false]
  by_cases h3 : e.k = 3
  · refine Som_of (eql_t h3) ?_
    rw [WIf_true]
    exact f12.p0_of (go rfl (by unfold nameOf; rw [if_neg h1, if_neg h2, if_pos h3]; rfl))
  refine Som_of (eql_f h3) ?_
  rw [WIf_false]
  exact f12.p0_of (go rfl (by unfold nameOf; rw [if_neg h1, if_neg h2, if_neg h3]; rfl))
end
end Go.Am
namespace Go.Am
section
variable {tab : Nat → Option PFn} {σ : S} {Q : AVal → S → Prop}
theorem same_sp (s : Sp) : same (.agg s.cells) (.agg s.cells) = true := by
  refine sames_self (l := s.cells) fun v hv => ?_
  simp only [Sp.cells, Cm.cells, List.mem_append, List.mem_cons, List.not_mem_nil, or_false] at hv
  rcases hv with (rfl | rfl | rfl | rfl | rfl | rfl) | (rfl | rfl | rfl | rfl | rfl | rfl | rfl | rfl | rfl | rfl | rfl | rfl | rfl | rfl | rfl | rfl | rfl | rfl | rfl) <;> first | exact same1_int _ | exact same1_bool _
theorem same_ev (e : Ev) : same (.agg e.cells) (.agg e.cells) = true := by
  refine sames_self (l := e.cells) fun v hv => ?_
  simp only [Ev.cells, Cm.cells, List.mem_append, List.mem_cons, List.not_mem_nil, or_false] at hv
  rcases hv with ((rfl | rfl | rfl | rfl) | (rfl | rfl | rfl | rfl | rfl | rfl | rfl | rfl | rfl | rfl | rfl | rfl | rfl | rfl | rfl | rfl | rfl | rfl | rfl)) | (rfl | rfl | rfl | rfl) <;> first | exact same1_int _ | exact same1_bool _
theorem lines_c (h : Hs tab) (hr : Runs tab 8) (ho : Ok σ) {s : Sp} {e : Ev} (hs : s.Ok) (he : e.Ok) (hQ : ∀ σ', Q (.bool true) σ') : WF tab 4 [.agg s.cells, .agg e.cells] σ Q := by
  refine f4_wf h.ht.t4 ?_
  unfold f4
  refine Ala_of (b := ⟨0, .ex, s.cells⟩) (mk := fun p => .ptr p 0) rfl ?_
  obtain ⟨k1, b1⟩ := boxA ho (M := fun _ => False) s.cells
  generalize σ.new ⟨0, .ex, s.cells⟩ = σ1 at k1 b1
  generalize σ.next = p2 at b1
  refine Ala_of (b := ⟨0, .ex, e.cells⟩) (mk := fun p => .ptr p 0) rfl ?_
  obtain ⟨k2, c2⟩ := boxA k1.ok (M := fun _ => False) e.cells
  have b2 := k2.old _ _ b1 fun e => e
  generalize σ1.new ⟨0, .ex, e.cells⟩ = σ2 at k2 b2 c2
  generalize σ1.next = p3 at c2
  have kb := Keep.bump k2.ok 16 (M := fun _ => False)
  have bb := kb.old _ _ b2 fun e => e
  have cb := kb.old _ _ c2 fun e => e
  refine Som_of (ldAll (n := 25) bb rfl) ?_
  refine Som_of (ldAll (n := 25) bb rfl) ?_
  refine Line_c h kb.ok hs fun σ3 k3 => ?_
  have b3 := k3.old _ _ bb fun e => e
  have c3 := k3.old _ _ cb fun e => e
  refine Sure_of (SameO_of (ldAll (n := 25) b3 rfl) (same_sp _)) ?_
  refine RLine_c h k3.ok hs fun σ4 k4 => ?_
  have c4 := k4.old _ _ c3 fun e => e
  refine Som_of (bin_eql_str _ _ _) ?_
  rw [decide_eq_true rfl]
  refine Sq_of rfl (ldAll (n := 27) c4 rfl) ?_
  refine Sq_of rfl (ldAll (n := 27) c4 rfl) ?_
  refine GE_t rfl ?_
  refine Show_c h k4.ok he fun σ5 k5 => ?_
  have c5 := k5.old _ _ c4 fun e => e
  refine Sure_of (SameO_of (ldAll (n := 27) c5 rfl) (same_ev _)) ?_
  refine GE_t rfl ?_
  refine RShow_c h k5.ok he fun σ6 k6 => ?_
  refine Sq_of rfl (bin_eql_str _ _ _) ?_
  rw [decide_eq_true rfl]
  refine Som_of (vPick_true _ _) ?_
  refine GE_t rfl ?_
  refine hr _ _ ?_
  refine Som_of (vPick_true _ _) ?_
  rw [Ret_1 rfl]
  exact hQ _
end
end Go.Am
namespace Go.Am
def glue : List (List Nat) → List Nat
  | [] => []
  | w :: ws => match ws with
    | [] => w
    | v :: vs => w ++ 32 :: glue (v :: vs)
theorem glue_cons {w : List Nat} {ws : List (List Nat)} (h : ws ≠ []) : glue (w :: ws) = w ++ 32 :: glue ws := by
  cases ws with
  | nil => exact absurd rfl h
  | cons v vs => rfl
theorem glue_split (l : List Nat) : glue (splitA 32 l) = l := by
  induction l with
  | nil => rfl
  | cons x l ih =>
    have hne := splitA_ne 32 l
    show glue (if x = 32 then [] :: splitA 32 l else match splitA 32 l with | [] => [[x]] | w :: ws => (x :: w) :: ws) = _
    by_cases hx : x = 32
    · rw [if_pos hx, glue_cons hne, ih, hx]; rfl
    · rw [if_neg hx]
      cases hs : splitA 32 l with
      | nil => exact absurd hs hne
      | cons w ws =>
        rw [hs] at ih
        cases ws with
        | nil => exact congrArg (x :: ·) ih
        | cons v vs => exact congrArg (x :: ·) ih
theorem glue_said (w : List Nat) (ns : List Int) : glue (w :: ns.map itoaN) = saidOf w ns := by
  induction ns generalizing w with
  | nil => rfl
  | cons n ns ih => rw [List.map_cons, glue_cons (by simp), ih, saidOf_cons]
theorem glue_app {us vs : List (List Nat)} (hu : us ≠ []) (hv : vs ≠ []) : glue (us ++ vs) = glue us ++ 32 :: glue vs := by
  induction us with
  | nil => exact absurd rfl hu
  | cons u us ih =>
    cases us with
    | nil => exact glue_cons hv
    | cons u2 us =>
      rw [List.cons_append, glue_cons (w := u) (ws := u2 :: us ++ vs) (by simp), ih (by simp), glue_cons (w := u) (ws := u2 :: us) (by simp), List.append_assoc]; rfl
theorem numsOf_map {ws : List (List Nat)} {ns : List Int} (h : numsOf ws = some ns) : ws = ns.map itoaN ∧ ∀ n ∈ ns, InR n := by
  induction ws generalizing ns with
  | nil => cases h; exact ⟨rfl, fun n hn => by cases hn⟩
  | cons w ws ih =>
    unfold numsOf at h
    cases hw : numOf w with
    | none => rw [hw] at h; cases h
    | some n =>
      rw [hw] at h
      cases hs : numsOf ws with
      | none => rw [hs] at h; cases h
      | some ms =>
        rw [hs] at h
        cases h
        obtain ⟨g1, g2⟩ := ih hs
        obtain ⟨e1, e2, e3⟩ := numOf_iff.1 hw
        refine ⟨by rw [List.map_cons, ← g1, e1], fun m hm => ?_⟩
        rcases List.mem_cons.1 hm with rfl | hm
        · exact ⟨e2, e3⟩
        · exact g2 m hm
theorem fill_map {ws : List (List Nat)} {ps : List Nat} {cs c : List AVal} (h : fill ws ps cs = some c) : ∃ ns : List Int, ws = ns.map itoaN ∧ ns.length = ps.length ∧ (∀ n ∈ ns, InR n) ∧ c = putAll cs ps ns := by
  unfold fill at h
  split at h
  · rename_i hl
    split at h
    · rename_i ns hns
      cases h
      obtain ⟨g1, g2⟩ := numsOf_map hns
      exact ⟨ns, g1, by rw [numsOf_len hns]; exact hl, g2, rfl⟩
    · cases h
  · cases h
theorem len1 {α : Type} {l : List α} (h : l.length = 1) : ∃ a, l = [a] := by
  cases l with
  | nil => cases h
  | cons a l => cases l with
    | nil => exact ⟨a, rfl⟩
    | cons b l => simp at h
theorem len_succ {α : Type} {l : List α} {n : Nat} (h : l.length = n + 1) : ∃ a r, l = a :: r ∧ r.length = n := by
  cases l with
  | nil => cases h
  | cons a l => exact ⟨a, l, rfl, by simpa using h⟩
theorem inR_c {n : Int} (h : decide (-9223372036854775808 ≤ n ∧ n ≤ 9223372036854775807) = true) : InR n := (of_decide_eq_true h : -9223372036854775808 ≤ n ∧ n ≤ 9223372036854775807)
theorem inR0 : InR 0 := inR_c rfl
theorem kOf_rng (w : List Nat) : 0 ≤ kOf w ∧ kOf w ≤ 7 := by
  unfold kOf
  repeat' split
  all_goals decide
theorem cmd_back {w : List Nat} {ws : List (List Nat)} {cs : List AVal} (h : cmdOf (w :: ws) = some cs) : ∃ c : Cm, cs = c.cells ∧ c.Ok ∧ c.right = true ∧ glue (w :: ws) = c.words := by
  have hc : (if kOf w = 0 then none else cmdK (kOf w) ws) = some cs := h
  clear h
  by_cases h0 : kOf w = 0
  · rw [if_pos h0] at hc; cases hc
  · rw [if_neg h0] at hc
    have hw := kOf_ne h0
    have hk : 1 ≤ kOf w ∧ kOf w ≤ 7 := by
      have := kOf_rng w
      omega
    generalize kOf w = k at hc h0 hw hk
    have h := hc
    clear hc
    subst hw
    have fin : ∀ (c : Cm), c.k = k → ws = c.numsT.map itoaN → glue (calledOf k :: ws) = c.words := by
      rintro c rfl e
      rw [e, glue_said]; rfl
    unfold cmdK at h
    by_cases h3 : k = 3
    · rw [if_pos h3] at h
      subst h3
      cases hl : ws.getLast? with
      | none => rw [hl] at h; cases h
      | some l =>
        rw [hl] at h
        have hsn := snoc_of hl
        simp only at h
        split at h
        · rename_i hl01
          obtain ⟨ns, g1, g2, g3, g4⟩ := fill_map h
          have g2 : ns.length = 5 := g2
          obtain ⟨a, r1, rfl, q1⟩ := len_succ g2
          obtain ⟨b, r2, rfl, q2⟩ := len_succ q1
          obtain ⟨c, r3, rfl, q3⟩ := len_succ q2
          obtain ⟨d, r4, rfl, q4⟩ := len_succ q3
          obtain ⟨e, rfl⟩ := len1 q4
          refine ⟨⟨3, 0, 0, 0, 0, 0, 0, 0, 0, 0, 0, a, b, c, d, e, decide (l = [49]), 0, 0⟩, g4, ⟨inR_c rfl, fun n hn => ?_, g3, inR0, inR0⟩, ?_, fin _ rfl ?_⟩
          · simp only [Cm.ord, List.mem_cons, List.not_mem_nil, or_false, or_self] at hn
            rw [hn]; exact inR0
          · simp [Cm.right, Cm.ord]
          · rw [hsn, g1]
            rcases hl01 with rfl | rfl
            · simp [Cm.numsT, Cm.nums, Cm.drv, Cm.flag, itoaN_0]
            · simp [Cm.numsT, Cm.nums, Cm.drv, Cm.flag, itoaN_1]
        · cases h
    · rw [if_neg h3] at h
      obtain ⟨ns, g1, g2, g3, g4⟩ := fill_map h
      have zz : ∀ {P : Int → Prop}, P 0 → ∀ n ∈ ([0, 0, 0, 0, 0, 0, 0, 0, 0, 0] : List Int), P n := by
        intro P hP n hn
        simp only [List.mem_cons, List.not_mem_nil, or_false, or_self] at hn
        rw [hn]; exact hP
      have zd : ∀ {P : Int → Prop}, P 0 → ∀ n ∈ ([0, 0, 0, 0, 0] : List Int), P n := by
        intro P hP n hn
        simp only [List.mem_cons, List.not_mem_nil, or_false, or_self] at hn
        rw [hn]; exact hP
      rcases kinds hk with rfl | rfl | rfl | rfl | rfl | rfl | rfl
      · obtain ⟨a, rfl⟩ := len1 (show ns.length = 1 from g2)
        have ha := g3 a List.mem_cons_self
        exact ⟨⟨7, 0, 0, 0, 0, 0, 0, 0, 0, 0, 0, 0, 0, 0, 0, 0, false, a, 0⟩, g4, ⟨inR_c rfl, zz inR0, zd inR0, ha, inR0⟩, rfl, fin _ rfl g1⟩
      · obtain ⟨a, rfl⟩ := len1 (show ns.length = 1 from g2)
        have ha := g3 a List.mem_cons_self
        exact ⟨⟨2, 0, 0, 0, 0, 0, 0, 0, 0, 0, 0, 0, 0, 0, 0, 0, false, a, 0⟩, g4, ⟨inR_c rfl, zz inR0, zd inR0, ha, inR0⟩, rfl, fin _ rfl g1⟩
      · obtain ⟨a, rfl⟩ := len1 (show ns.length = 1 from g2)
        have ha := g3 a List.mem_cons_self
        exact ⟨⟨4, 0, 0, 0, 0, 0, 0, 0, 0, 0, 0, 0, 0, 0, 0, 0, false, a, 0⟩, g4, ⟨inR_c rfl, zz inR0, zd inR0, ha, inR0⟩, rfl, fin _ rfl g1⟩
      · obtain ⟨a, r5, rfl, q5⟩ := len_succ (show ns.length = 1 + 1 from g2)
        obtain ⟨b, rfl⟩ := len1 q5
        have ha := g3 a List.mem_cons_self
        have hb := g3 b (by simp)
        exact ⟨⟨5, 0, 0, 0, 0, 0, 0, 0, 0, 0, 0, 0, 0, 0, 0, 0, false, a, b⟩, g4, ⟨inR_c rfl, zz inR0, zd inR0, ha, hb⟩, rfl, fin _ rfl g1⟩
      · obtain ⟨a, rfl⟩ := len1 (show ns.length = 1 from g2)
        have ha := g3 a List.mem_cons_self
        exact ⟨⟨6, 0, 0, 0, 0, 0, 0, 0, 0, 0, 0, 0, 0, 0, 0, 0, false, 0, a⟩, g4, ⟨inR_c rfl, zz inR0, zd inR0, inR0, ha⟩, rfl, fin _ rfl g1⟩
      · exact absurd rfl h3
      · obtain ⟨o0, r6, rfl, q6⟩ := len_succ (show ns.length = 9 + 1 from g2)
        obtain ⟨o1, r7, rfl, q7⟩ := len_succ q6
        obtain ⟨o2, r8, rfl, q8⟩ := len_succ q7
        obtain ⟨o3, r9, rfl, q9⟩ := len_succ q8
        obtain ⟨o4, r10, rfl, q10⟩ := len_succ q9
        obtain ⟨o5, r11, rfl, q11⟩ := len_succ q10
        obtain ⟨o6, r12, rfl, q12⟩ := len_succ q11
        obtain ⟨o7, r13, rfl, q13⟩ := len_succ q12
        obtain ⟨o8, r14, rfl, q14⟩ := len_succ q13
        obtain ⟨o9, rfl⟩ := len1 q14
        exact ⟨⟨1, o0, o1, o2, o3, o4, o5, o6, o7, o8, o9, 0, 0, 0, 0, 0, false, 0, 0⟩, g4, ⟨inR_c rfl, g3, zd inR0, inR0, inR0⟩, rfl, fin _ rfl g1⟩
theorem parse_back {l : List Nat} {cs : List AVal} (h : parseOf l = (cs, 0)) : ∃ x : Sp, cs = x.cells ∧ x.Ok ∧ x.line = l := by
  have hg := glue_split l
  unfold parseOf at h
  split at h
  · cases h
  · split at h
    · cases h
    · rename_i w ws hsp
      rw [hsp] at hg
      split at h
      · rename_i cs' hst
        cases h
        unfold stepOf at hst
        have zc : Cm.zero.Ok := ⟨inR0, fun n hn => by
          simp only [Cm.ord, Cm.zero, List.mem_cons, List.not_mem_nil, or_false, or_self] at hn
          rw [hn]; exact inR0, fun n hn => by
          simp only [Cm.drv, Cm.zero, List.mem_cons, List.not_mem_nil, or_false, or_self] at hn
          rw [hn]; exact inR0, inR0, inR0⟩
        split at hst
        · rename_i hwc
          subst hwc
          unfold callOf at hst
          split at hst
          · cases hst
          · rename_i hlen
            split at hst
            · cases hst
            · rename_i ns hns
              split at hst
              · cases hst
              · rename_i c' hc'
                cases hst
                obtain ⟨g1, g2⟩ := numsOf_map hns
                have hl2 : ns.length = 1 + 1 := by
                  rw [numsOf_len hns, List.length_take]; omega
                obtain ⟨a, r15, rfl, q15⟩ := len_succ hl2
                obtain ⟨s, rfl⟩ := len1 q15
                cases hd : ws.drop 2 with
                | nil => rw [hd] at hc'; cases hc'
                | cons cw rest =>
                  rw [hd] at hc'
                  obtain ⟨c, rfl, q1, q2, q3⟩ := cmd_back hc'
                  refine ⟨⟨9, a, 0, 0, s, 0, c⟩, rfl, ⟨inR_c rfl, g2 a List.mem_cons_self, inR0, inR0, g2 s (by simp), inR0, q1⟩, ?_⟩
                  have hws : ws = [a, s].map itoaN ++ cw :: rest := by rw [← g1, ← hd, List.take_append_drop]
                  unfold Sp.line
                  rw [if_pos rfl, if_pos ⟨q2, rfl, rfl, rfl⟩, ← q3, ← glue_said, ← glue_app (by simp) (by simp), List.cons_append, ← hws, hg]
        · split at hst
          · cases hst
          · rename_i hwc hk0
            obtain ⟨_, _, hwk, hwne⟩ := kindOf_ne hk0
            obtain ⟨ns, g1, g2, g3, g4⟩ := fill_map hst
            generalize kindOf w = k at hk0 hwk g2 g4 hst
            subst hwk
            rw [g1, glue_said] at hg
            have fin : ∀ (x : Sp), x.k = k → k ≠ 9 → x.nums = ns → x.clear = Sp.only k → x.line = l := by
              rintro x rfl e9 rfl e2
              unfold Sp.line
              rw [if_neg e9, if_pos ⟨hwne, e2⟩, hg]
            rcases wkinds hwne with rfl | rfl | rfl | rfl | rfl | rfl | rfl | rfl | rfl | rfl | rfl
            · obtain ⟨a, r16, rfl, q16⟩ := len_succ (show ns.length = 2 + 1 from g2)
              obtain ⟨b, r17, rfl, q17⟩ := len_succ q16
              obtain ⟨n, rfl⟩ := len1 q17
              exact ⟨⟨1, a, b, n, 0, 0, Cm.zero⟩, g4, ⟨inR_c rfl, g3 a (by simp), g3 b (by simp), g3 n (by simp), inR0, inR0, zc⟩, fin _ rfl (by decide) rfl rfl⟩
            · obtain ⟨a, r18, rfl, q18⟩ := len_succ (show ns.length = 2 + 1 from g2)
              obtain ⟨b, r19, rfl, q19⟩ := len_succ q18
              obtain ⟨n, rfl⟩ := len1 q19
              exact ⟨⟨2, a, b, n, 0, 0, Cm.zero⟩, g4, ⟨inR_c rfl, g3 a (by simp), g3 b (by simp), g3 n (by simp), inR0, inR0, zc⟩, fin _ rfl (by decide) rfl rfl⟩
            · obtain ⟨a, r20, rfl, q20⟩ := len_succ (show ns.length = 2 + 1 from g2)
              obtain ⟨b, r21, rfl, q21⟩ := len_succ q20
              obtain ⟨n, rfl⟩ := len1 q21
              exact ⟨⟨3, a, b, n, 0, 0, Cm.zero⟩, g4, ⟨inR_c rfl, g3 a (by simp), g3 b (by simp), g3 n (by simp), inR0, inR0, zc⟩, fin _ rfl (by decide) rfl rfl⟩
            · obtain ⟨a, r22, rfl, q22⟩ := len_succ (show ns.length = 1 + 1 from g2)
              obtain ⟨b, rfl⟩ := len1 q22
              exact ⟨⟨4, a, b, 0, 0, 0, Cm.zero⟩, g4, ⟨inR_c rfl, g3 a (by simp), g3 b (by simp), inR0, inR0, inR0, zc⟩, fin _ rfl (by decide) rfl rfl⟩
            · obtain ⟨a, r23, rfl, q23⟩ := len_succ (show ns.length = 1 + 1 from g2)
              obtain ⟨b, rfl⟩ := len1 q23
              exact ⟨⟨5, a, b, 0, 0, 0, Cm.zero⟩, g4, ⟨inR_c rfl, g3 a (by simp), g3 b (by simp), inR0, inR0, inR0, zc⟩, fin _ rfl (by decide) rfl rfl⟩
            · obtain ⟨a, r24, rfl, q24⟩ := len_succ (show ns.length = 1 + 1 from g2)
              obtain ⟨n, rfl⟩ := len1 q24
              exact ⟨⟨6, a, 0, n, 0, 0, Cm.zero⟩, g4, ⟨inR_c rfl, g3 a (by simp), inR0, g3 n (by simp), inR0, inR0, zc⟩, fin _ rfl (by decide) rfl rfl⟩
            · obtain ⟨a, r25, rfl, q25⟩ := len_succ (show ns.length = 2 + 1 from g2)
              obtain ⟨b, r26, rfl, q26⟩ := len_succ q25
              obtain ⟨n, rfl⟩ := len1 q26
              exact ⟨⟨7, a, b, n, 0, 0, Cm.zero⟩, g4, ⟨inR_c rfl, g3 a (by simp), g3 b (by simp), g3 n (by simp), inR0, inR0, zc⟩, fin _ rfl (by decide) rfl rfl⟩
            · obtain ⟨a, r27, rfl, q27⟩ := len_succ (show ns.length = 1 + 1 from g2)
              obtain ⟨n, rfl⟩ := len1 q27
              exact ⟨⟨8, a, 0, n, 0, 0, Cm.zero⟩, g4, ⟨inR_c rfl, g3 a (by simp), inR0, g3 n (by simp), inR0, inR0, zc⟩, fin _ rfl (by decide) rfl rfl⟩
            · obtain ⟨a, rfl⟩ := len1 (show ns.length = 1 from g2)
              exact ⟨⟨10, a, 0, 0, 0, 0, Cm.zero⟩, g4, ⟨inR_c rfl, g3 a (by simp), inR0, inR0, inR0, inR0, zc⟩, fin _ rfl (by decide) rfl rfl⟩
            · obtain ⟨a, rfl⟩ := len1 (show ns.length = 1 from g2)
              exact ⟨⟨11, a, 0, 0, 0, 0, Cm.zero⟩, g4, ⟨inR_c rfl, g3 a (by simp), inR0, inR0, inR0, inR0, zc⟩, fin _ rfl (by decide) rfl rfl⟩
            · obtain ⟨a, r28, rfl, q28⟩ := len_succ (show ns.length = 1 + 1 from g2)
              obtain ⟨n, rfl⟩ := len1 q28
              exact ⟨⟨12, a, 0, n, 0, 0, Cm.zero⟩, g4, ⟨inR_c rfl, g3 a (by simp), inR0, g3 n (by simp), inR0, inR0, zc⟩, fin _ rfl (by decide) rfl rfl⟩
      · cases h
theorem line_back {s : Sp} (hs : s.Ok) (h : s.line ≠ []) : parseOf s.line = (s.cells, 0) := by
  have hl : s.line = s.line := rfl
  conv at hl => rhs; unfold Sp.line
  by_cases h9 : s.k = 9
  · rw [if_pos h9] at hl
    obtain ⟨_, hia, _, _, his, _, hic⟩ := hs
    by_cases hc : s.c.right = true ∧ s.q = 0 ∧ s.b = 0 ∧ s.n = 0
    · rw [if_pos hc] at hl
      obtain ⟨q0, q1, q2, q3⟩ := hc
      rw [hl, parse_call hia his hic q0]
      rcases s with ⟨k, a, b, n, s, q, c⟩
      simp only at h9 q1 q2 q3
      subst h9 q1 q2 q3
      rfl
    · rw [if_neg hc] at hl
      exact absurd hl h
  · rw [if_neg h9] at hl
    by_cases hc : wordOf s.k ≠ [] ∧ s.clear = Sp.only s.k
    · rw [if_pos hc] at hl
      obtain ⟨x, hx1, hx2⟩ := parse_word hs hc.1
      rw [hl, hx1, hx2.2 hc.2]
    · rw [if_neg hc] at hl
      exact absurd hl h
end Go.Am
namespace Go.Am
section
variable {tab : Nat → Option PFn} {σ : S} {Q : AVal → S → Prop}
theorem parse_no {l : List Nat} (h : (parseOf l).2 ≠ 0) : (parseOf l).1 = zero25 := by
  by_cases hl : 400 < l.length
  · unfold parseOf
    rw [if_pos hl]
  · unfold parseOf at h ⊢
    rw [if_neg hl] at h ⊢
    cases hsp : splitA 32 l with
    | nil => rfl
    | cons w ws =>
      rw [hsp] at h
      simp only at h ⊢
      cases hst : stepOf w ws with
      | none => rfl
      | some cs => rw [hst] at h; exact absurd rfl h
theorem back_c (h : Hs tab) (hr : Runs tab 8) (ho : Ok σ) {s : Sp} (hs : s.Ok) {l : List Nat} (hQ : ∀ σ', Q (.bool true) σ') : WF tab 5 [.agg s.cells, .str l] σ Q := by
  refine f5_wf h.ht.t5 ?_
  unfold f5
  refine Ala_of (b := ⟨0, .ex, s.cells⟩) (mk := fun p => .ptr p 0) rfl ?_
  obtain ⟨k1, b1⟩ := boxA ho (M := fun _ => False) s.cells
  generalize σ.new ⟨0, .ex, s.cells⟩ = σ1 at k1 b1
  generalize σ.next = p2 at b1
  refine Som_of (ldAll (n := 25) b1 rfl) ?_
  have second : ∀ {E : En} {τ : S}, E 1 = .str l → Keep (fun _ => False) σ1 τ → f5.p0 (WF tab) Q E τ := by
    intro E τ e1 kt
    unfold f5.p0
    rw [e1]
    refine Parse_c h kt.ok fun τ1 k1 => ?_
    have hlen : (parseOf l).1.length = 25 := (parseOf_fits l).len
    refine Som_of (v := .agg (parseOf l).1) rfl ?_
    refine Som_of (v := .int .i64 (parseOf l).2) rfl ?_
    refine Ala_of (b := ⟨0, .ex, zero25⟩) (mk := fun p => .ptr p 0) rfl ?_
    obtain ⟨k2, b2⟩ := boxA k1.ok (M := fun _ => False) zero25
    generalize hq : τ1.next = p8 at b2
    generalize τ1.new ⟨0, .ex, zero25⟩ = τ2 at k2 b2
    refine Eff_of (stAll b2 hlen rfl (by omega)) ?_
    have k3 : Keep (fun x => x = p8.nat) τ2 _ := Keep.upd k2.ok b2 (c := ⟨0, .ex, (parseOf l).1⟩) rfl
    have b3 := blk_upd_same (σ := τ2) p8 ⟨0, .ex, (parseOf l).1⟩
    generalize τ2.upd p8 ⟨0, .ex, (parseOf l).1⟩ = τ3 at b3 k3
    refine Som_of (bin_neq _ _ _ _) ?_
    refine WIf_dec (fun hne => ?_) (fun he => ?_)
    · rw [parse_no hne] at b3
      refine Som_of (ldAll (n := 25) b3 rfl) ?_
      refine Som_of (v := .agg zero25) rfl ?_
      obtain ⟨r, g1, g2⟩ := eqAgg_dec (ks := ks25) (a := zero25) (b := zero25) trivial trivial false
      refine Som_of g1 ?_
      have hrt : r = true := g2.2 rfl
      rw [hrt]
      refine GE_t rfl ?_
      refine hr _ _ ?_
      refine Som_of (vPick_true _ _) ?_
      rw [Ret_1 rfl]
      exact hQ _
    · have he : (parseOf l).2 = 0 := Classical.not_not.1 he
      obtain ⟨x, hx1, hx2, hx3⟩ := parse_back (l := l) (cs := (parseOf l).1) (by rw [← he])
      rw [hx1] at b3
      refine Som_of (ldAll (n := 25) b3 rfl) ?_
      refine Line_c h k3.ok hx2 fun τ4 k4 => ?_
      rw [hx3]
      refine Som_of (bin_eql_str _ _ _) ?_
      rw [decide_eq_true rfl]
      refine GE_t rfl ?_
      refine hr _ _ ?_
      refine Som_of (vPick_true _ _) ?_
      rw [Ret_1 rfl]
      exact hQ _
  refine Line_c h k1.ok hs fun σ2 k2 => ?_
  have b2 := k2.old _ _ b1 fun e => e
  refine Som_of (bin_neq_str _ _ _) ?_
  refine WIf_dec (fun hne => ?_) (fun he => ?_)
  · have hpl := line_back hs hne
    refine Parse_c h k2.ok fun σ3 k3 => ?_
    have b3 := k3.old _ _ b2 fun e => e
    rw [hpl]
    refine Som_of (v := .agg s.cells) rfl ?_
    refine Som_of (v := .int .i64 0) rfl ?_
    refine Ala_of (b := ⟨0, .ex, zero25⟩) (mk := fun p => .ptr p 0) rfl ?_
    obtain ⟨k4, b6⟩ := boxA k3.ok (M := fun _ => False) zero25
    have b4 := k4.old _ _ b3 fun e => e
    have hlt : σ3.next.nat ≤ σ3.next.nat := Nat.le_refl _
    have hp2 := k3.ok.lt b3
    generalize hq : σ3.next = p6 at b6 hlt hp2
    refine Eff_of (stAll b6 rfl rfl (by omega)) ?_
    have k5 : Keep (fun x => x = p6.nat) _ _ := Keep.upd k4.ok b6 (c := ⟨0, .ex, s.cells⟩) rfl
    have b65 := blk_upd_same (σ := σ3.new ⟨0, .ex, zero25⟩) p6 ⟨0, .ex, s.cells⟩
    have b25 := k5.old _ _ b4 (show ¬ p2.nat = p6.nat by omega)
    have k35 : Keep (fun _ => False) σ3 _ := Keep.then k3.ok k4 k5 fun x hx e => by subst hq; omega
    generalize (σ3.new ⟨0, .ex, zero25⟩).upd p6 ⟨0, .ex, s.cells⟩ = σ5 at b65 b25 k35
    refine Som_of (ldAll (n := 25) b65 rfl) ?_
    refine Som_of (ldAll (n := 25) b25 rfl) ?_
    obtain ⟨r, g1, g2⟩ := eqAgg_dec (ks := ks25) (a := s.cells) (b := s.cells) trivial trivial true
    have hrt : r = true := g2.2 rfl
    rw [hrt] at g1
    refine Som_of g1 ?_
    refine Sq_of rfl rfl ?_
    refine Sq_of (v := .bool false) rfl rfl ?_
    refine Som_of (vPick_false _ _) ?_
    rw [WIf_false]
    exact f5.p0_of (second rfl ((k2.trans k3).trans k35))
  · exact f5.p0_of (second rfl k2)
end
end Go.Am
