/-
  The game of the log, as conditions over the evaluator. Conditions: none.
-/
import Derived.Test.YtkgjghlklniaeaaG0
namespace Go.Am
section
variable {D D' : Dk} {L L' : Lg} {now safe : Rw} {cs : List Cl} {dead : Bool} {q a : Nat} {e : Int}
def totL : List Cl → Nat
  | [] => 0
  | c :: l => c.recs.length + totL l
theorem totL_snoc (c : Cl) : ∀ (l : List Cl), totL (l ++ [c]) = totL l + c.recs.length
  | [] => by show c.recs.length + 0 = 0 + c.recs.length; omega
  | d :: l => by show d.recs.length + totL (l ++ [c]) = d.recs.length + totL l + c.recs.length; rw [totL_snoc c l]; omega
theorem may_len : ∀ {l : List Cl} {s x : Rw}, mayR s l x → x.recs.length ≤ s.recs.length + totL l
  | [], s, x, h => by rw [h]; exact Nat.le_add_right _ _
  | c :: l, s, x, h => by
    have hd := doR_len s c
    rcases h with h | ⟨_, k, _, h⟩ | h
    · rw [h]; exact Nat.le_add_right _ _
    · have h2 := doR_len s ⟨1, c.i, c.recs.take k⟩
      have h3 : (c.recs.take k).length ≤ c.recs.length := by rw [List.length_take]; omega
      rw [h]
      have h2 : (doR s ⟨1, c.i, c.recs.take k⟩).recs.length ≤ s.recs.length + (c.recs.take k).length := h2
      show _ ≤ s.recs.length + (c.recs.length + totL l)
      omega
    · have h4 := may_len h
      show _ ≤ s.recs.length + (c.recs.length + totL l)
      omega
structure PInv (a : Nat) (D : Dk) (L : Lg) (now safe : Rw) (cs : List Cl) (dead : Bool) (q : Nat) : Prop where
  dq : D.quota = q
  q2 : q ≤ 1048576
  row : L.row = now
  st : LgSt a L
  dk : DkSt (4 * a) D
  ok : okCs safe cs
  nl : now.recs.length ≤ a
  cl : cs.length ≤ a
  ab : a ≤ 1000
  tl : safe.recs.length + totL cs ≤ a
  alive : dead = false → Wel (a + 1) D L (mayR safe cs) ∧ now = cs.foldl doR safe
  gone : dead = true → D.off = true ∧ Lost (a + 1) D (mayR safe cs)
theorem PInv.mono {b : Nat} (h : PInv a D L now safe cs dead q) (hab : a ≤ b) (hb : b ≤ 1000) : PInv b D L now safe cs dead q :=
  ⟨h.dq, h.q2, h.row, h.st.mono hab, h.dk.mono (by omega), h.ok, by have := h.nl; omega, by have := h.cl; omega, hb, by have := h.tl; omega, fun hd => ⟨(h.alive hd).1.up (by omega), (h.alive hd).2⟩, fun hd => ⟨(h.gone hd).1, (h.gone hd).2.up (by omega)⟩⟩
theorem PInv.rw (h : PInv a D L now safe cs dead q) : RwOk now ∧ 1 ≤ now.first ∧ now.first + now.recs.length ≤ 1099511627777 ∧ now.first = L.first ∧ now.recs = L.recs := by
  have hr := h.row
  have e1 : now.first = L.first := by rw [← hr]; rfl
  have e2 : now.recs = L.recs := by rw [← hr]; rfl
  have h1 := h.st.inn.lo; have h2 := h.st.inn.hi; have h3 := h.st.ok.recs
  have h5 := h.st.ok.first; have h6 := h.nl; have h7 := h.ab
  exact ⟨⟨by omega, by omega, by rw [e2]; exact h3⟩, by omega, by rw [e1, e2]; exact h2, e1, e2⟩
inductive Came (a : Nat) (now safe : Rw) (cs : List Cl) (dead : Bool) (q : Nat) (k : Nat) (i : Int) (rs : List (List Nat)) : Int → Lg → Dk → Prop
  | bad {L' : Lg} {D' : Dk} : badF now (k : Int) i rs → PInv a D' L' now safe cs dead q → Came a now safe cs dead q k i rs 1 L' D'
  | ok {L' : Lg} {D' : Dk} (j : Nat) : ¬ badF now (k : Int) i rs → dead = false → i = j → PInv a D' L' (doR now ⟨k, j, rs⟩) safe (cs ++ [⟨k, j, rs⟩]) false q → Came a now safe cs dead q k i rs 0 L' D'
  | off {L' : Lg} {D' : Dk} (j : Nat) : ¬ badF now (k : Int) i rs → i = j → PInv a D' L' now safe (if dead then cs else cs ++ [⟨k, j, rs⟩]) true q → Came a now safe cs dead q k i rs 11 L' D'
  | full {L' : Lg} {D' : Dk} : ¬ badF now (k : Int) i rs → dead = false → PInv a D' L' now safe cs false q → q < 4 * (wtF now.recs + wtF rs) + 8192 → Came a now safe cs dead q k i rs 10 L' D'
theorem okCs_snoc {c : Cl} : ∀ {l : List Cl} {s : Rw}, okCs s l → (RwOk (l.foldl doR s) ∧ (l.foldl doR s).recs.length ≤ 10000 ∧ (c.kind = 1 ∨ ((c.kind = 2 ∨ c.kind = 3) ∧ (l.foldl doR s).first ≤ c.i ∧ c.i ≤ (l.foldl doR s).first + (l.foldl doR s).recs.length)) ∧ c.i ≤ 2199023255552 ∧ c.recs.length ≤ 1000) → RwOk (doR (l.foldl doR s) c) → okCs s (l ++ [c])
  | [], s, h, hc, hd => ⟨hc.1, hc.2.1, hc.2.2.1, hc.2.2.2.1, hc.2.2.2.2, hd⟩
  | d :: l, s, h, hc, hd => ⟨h.1, h.2.1, h.2.2.1, h.2.2.2.1, h.2.2.2.2.1, okCs_snoc (l := l) h.2.2.2.2.2 hc hd⟩
theorem foldl_snoc (c : Cl) (l : List Cl) (s : Rw) : (l ++ [c]).foldl doR s = doR (l.foldl doR s) c := by rw [List.foldl_append]; rfl
theorem doR_ok {r : Rw} {c : Cl} (h : RwOk r) (hl : r.recs.length + c.recs.length ≤ 1000000) (hi : c.i ≤ 2199023255552) (hb : ∀ x ∈ c.recs, Bytes x ∧ x.length ≤ 20000) : RwOk (doR r c) := by
  obtain ⟨h1, h2, h3⟩ := h
  unfold doR
  split
  · refine ⟨?_, by show (r.recs ++ c.recs).length ≤ _; rw [List.length_append]; omega, fun x hx => (List.mem_append.1 hx).elim (h3 x) (hb x)⟩
    show (if r.recs = [] then c.i else r.first) ≤ _
    split <;> assumption
  · split
    · exact ⟨h1, by show (r.recs.take _).length ≤ _; rw [List.length_take]; omega, fun x hx => h3 x (List.mem_of_mem_take hx)⟩
    · exact ⟨hi, by show (r.recs.drop _).length ≤ _; rw [List.length_drop]; omega, fun x hx => h3 x (List.mem_of_mem_drop hx)⟩
theorem bad_app (h : PInv a D L now safe cs dead q) {i : Int} {rs : List (List Nat)} (hr : ∀ r ∈ rs, r.length ≤ 600) : badF now ((1 : Nat) : Int) i rs ↔ ¬ L.takes i rs.length := by
  obtain ⟨_, h1, h2, e1, e2⟩ := h.rw
  have hl : now.last = (now.first : Int) + (now.recs.length : Int) - 1 := rfl
  have hn : (L.next : Int) = (now.first : Int) + (now.recs.length : Int) := by unfold Lg.next; rw [← e1, ← e2]; omega
  unfold badF
  rw [if_pos (show ((1 : Nat) : Int) = 1 from rfl)]
  unfold Lg.takes
  rw [hn, ← e2]
  constructor
  · rintro (⟨h3, h4⟩ | h3 | h3 | h3 | ⟨x, hx, h3⟩) ⟨t1, t2, t3⟩
    · have := t1 h3; omega
    · by_cases hz : now.recs = []
      · have := t2 hz; omega
      · have := t1 hz; omega
    · by_cases hz : now.recs = []
      · have := t2 hz; omega
      · have := t1 hz; omega
    · omega
    · have := hr x hx; omega
  · intro ht
    refine Classical.byContradiction fun hb => ht ⟨fun hz => ?_, fun _ => ?_, ?_⟩
    · refine Classical.byContradiction fun hne => hb (.inl ⟨hz, fun e => hne (by omega)⟩)
    · constructor
      · exact Int.not_lt.1 fun h3 => hb (.inr (.inl h3))
      · exact Int.not_lt.1 fun h3 => hb (.inr (.inr (.inl (by omega))))
    · exact Int.not_lt.1 fun h3 => hb (.inr (.inr (.inr (.inl (by omega)))))
theorem Came.of_res (h : PInv a D L now safe cs dead q) (hd : dead = false) {k j b w : Nat} {rs : List (List Nat)} (hb : a + rs.length ≤ b) (hb2 : b ≤ 1000) (hnb : ¬ badF now (k : Int) (j : Int) rs) (hc : okCs safe (cs ++ [⟨k, j, rs⟩])) (hw : w ≤ wtF now.recs + wtF rs) (hst : LgSt b L') (hdk : DkSt (4 * b) D')
    (hl : now.recs.length + rs.length ≤ b) (hcl : cs.length + 1 ≤ b) (hab : a + 1 ≤ b) (hr : Res (a + 1) D L (mayR safe cs) (mayR safe (cs ++ [⟨k, j, rs⟩])) (doR L.row ⟨k, j, rs⟩) w e L' D') : Came b now safe cs dead q k (j : Int) rs e L' D' := by
  obtain ⟨w1, hnow⟩ := h.alive hd
  have hrow := h.row
  have htl0 := h.tl
  have htl : safe.recs.length + totL (cs ++ [⟨k, j, rs⟩]) ≤ b := by
    rw [totL_snoc]
    show _ + (_ + rs.length) ≤ b
    omega
  rw [hrow] at hr
  have hlen := doR_len now ⟨k, j, rs⟩
  have hlen : (doR now ⟨k, j, rs⟩).recs.length ≤ now.recs.length + rs.length := hlen
  cases hr with
  | ok hW hq hrw => exact .ok j hnb hd rfl ⟨by rw [hq]; exact h.dq, h.q2, hrw, hst, hdk, hc, by omega, by rw [List.length_append]; exact hcl, hb2, htl, fun _ => ⟨hW.up (by omega), by rw [foldl_snoc, ← hnow]⟩, fun hx => by cases hx⟩
  | off ho hL hq hrw =>
    refine .off j hnb rfl ?_
    rw [hd]
    exact ⟨by rw [hq]; exact h.dq, h.q2, by rw [hrw]; exact hrow, hst, hdk, hc, by omega, by rw [if_neg (by decide), List.length_append]; exact hcl, hb2, by rw [if_neg (by decide)]; exact htl, fun hx => (by cases hx), fun _ => ⟨ho, hL.up (by omega)⟩⟩
  | full hW hq hrw hlt =>
    refine .full hnb hd ⟨by rw [hq]; exact h.dq, h.q2, by rw [hrw]; exact hrow, hst, hdk, h.ok, by omega, by omega, hb2, by omega, fun _ => ⟨hW.up (by omega), hnow⟩, fun hx => by cases hx⟩ ?_
    rw [h.dq] at hlt
    omega
theorem app_came (h : PInv a D L now safe cs dead q) {i : Int} {rs : List (List Nat)} (hrs : rs.length ≤ 6 ∧ ∀ r ∈ rs, Bytes r ∧ r.length ≤ 600) (ha : a ≤ 980) (hout : AppOut L D i rs e L' D') : Came (a + rs.length + 1) now safe cs dead q 1 i rs e L' D' := by
  obtain ⟨ro, h1, h2, e1, e2⟩ := h.rw
  have hba := bad_app h (i := i) fun r hr => (hrs.2 r hr).2
  have hnolong : ¬ ∃ r ∈ rs, 16284 < r.length := fun ⟨r, hr, hgt⟩ => by have := (hrs.2 r hr).2; omega
  have hnl := h.nl; have hcl := h.cl
  obtain ⟨s1, s2⟩ := hout.st h.st h.dk (by omega) (by omega) (by omega) fun r hr => ⟨(hrs.2 r hr).1, by have := (hrs.2 r hr).2; omega⟩
  cases hd : dead with
  | true =>
    obtain ⟨g1, g2⟩ := h.gone hd
    rw [hd] at h
    cases hout with
    | arg hb => exact .bad (hba.2 (hb.resolve_right hnolong)) (h.mono (by omega) (by omega))
    | off ht _ =>
      have hi : 0 ≤ i := by
        by_cases hz : L.recs = []
        · have := ht.2.1 hz; omega
        · have := ht.1 hz; omega
      obtain ⟨j, rfl⟩ := Int.eq_ofNat_of_zero_le hi
      exact .off j (fun hb => hba.1 hb ht) rfl (by rw [if_pos rfl]; exact h.mono (by omega) (by omega))
    | noop _ ho _ _ => rw [g1] at ho; cases ho
    | left _ _ ho _ _ _ _ => rw [g1] at ho; cases ho
    | fail _ _ ho _ _ _ _ => rw [g1] at ho; cases ho
    | ok _ _ ho _ _ _ => rw [g1] at ho; cases ho
  | false =>
    obtain ⟨W, hnow⟩ := h.alive hd
    rw [hd] at h
    have hage := W.age_le
    rcases append_res (Y := fun x => ∀ j : Nat, i = j → mayR safe (cs ++ [⟨1, j, rs⟩]) x) W (fun r hr => (hrs.2 r hr).1) (by omega) (fun j hij => ⟨fun x hx j' hj' => may_snoc hx, fun k j' hj' => by
      have : j = j' := by omega
      subst this
      rw [h.row, hnow]
      exact may_part (c := ⟨1, j, rs⟩) rfl⟩) hout with ⟨hb, rfl, rfl, rfl⟩ | ⟨ht, _, j, rfl, hres⟩
    · exact .bad (hba.2 (hb.resolve_right hnolong)) (h.mono (by omega) (by omega))
    · have e3 : (fun x => ∀ j' : Nat, (j : Int) = j' → mayR safe (cs ++ [⟨1, j', rs⟩]) x) = mayR safe (cs ++ [⟨1, j, rs⟩]) := by
        funext x
        refine propext ⟨fun hx => hx j rfl, fun hx j' hj' => ?_⟩
        have : j = j' := by omega
        subst this; exact hx
      rw [e3] at hres
      have hj : j ≤ 1099511627777 := by
        by_cases hz : L.recs = []
        · have := ht.2.1 hz; omega
        · have := ht.2.2; omega
      refine Came.of_res h rfl (by omega) (by omega) (fun hb => hba.1 hb ht) (okCs_snoc h.ok ⟨by rw [← hnow]; exact ro, by rw [← hnow]; omega, .inl rfl, by show j ≤ _; omega, by show rs.length ≤ _; omega⟩ ?_) (by rw [← e2]; exact Nat.le_refl _) (s1.mono (by omega)) (s2.mono (by omega)) (by omega) (by omega) (by omega) hres
      rw [← hnow]
      exact doR_ok ro (by show now.recs.length + rs.length ≤ _; omega) (by show j ≤ _; omega) fun x hx => ⟨(hrs.2 x hx).1, by have := (hrs.2 x hx).2; omega⟩
theorem bad_cd (h : PInv a D L now safe cs dead q) {k : Nat} (hk : k ≠ 1) {i : Int} : badF now (k : Int) i [] ↔ (i < L.first ∨ (L.next : Int) < i) := by
  obtain ⟨_, h1, h2, e1, e2⟩ := h.rw
  have hl : now.last = (now.first : Int) + (now.recs.length : Int) - 1 := rfl
  have hn : (L.next : Int) = (now.first : Int) + (now.recs.length : Int) := by unfold Lg.next; rw [← e1, ← e2]; omega
  unfold badF
  rw [if_neg (by omega), hn, ← e1]
  omega
theorem cut_came (h : PInv a D L now safe cs dead q) {i : Int} (ha : a ≤ 980) (hout : CutOut L D i e L' D') : Came (a + 1) now safe cs dead q 2 i [] e L' D' := by
  obtain ⟨ro, h1, h2, e1, e2⟩ := h.rw
  have hba := bad_cd h (k := 2) (by omega) (i := i)
  have hnl := h.nl; have hcl := h.cl
  obtain ⟨s1, s2⟩ := hout.st h.st h.dk (by omega) (by omega)
  have hn : (L.next : Int) = (now.first : Int) + (now.recs.length : Int) := by unfold Lg.next; rw [← e1, ← e2]; omega
  cases hd : dead with
  | true =>
    obtain ⟨g1, g2⟩ := h.gone hd
    rw [hd] at h
    cases hout with
    | arg hb => exact .bad (hba.2 hb) (h.mono (by omega) (by omega))
    | off h3 h4 _ =>
      obtain ⟨j, rfl⟩ := Int.eq_ofNat_of_zero_le (show 0 ≤ i by omega)
      exact .off j (fun hb => by have := hba.1 hb; omega) rfl (by rw [if_pos rfl]; exact h.mono (by omega) (by omega))
    | same _ ho => rw [g1] at ho; cases ho
    | left _ _ _ ho _ => rw [g1] at ho; cases ho
  | false =>
    obtain ⟨W, hnow⟩ := h.alive hd
    rw [hd] at h
    have hage := W.age_le
    rcases cut_res (Y := fun x => ∀ j : Nat, i = j → mayR safe (cs ++ [⟨2, j, []⟩]) x) W (by omega) (fun j hij => ⟨fun x hx j' hj' => may_snoc hx, fun j' hj' => by
      have : j = j' := by omega
      subst this
      rw [h.row, hnow, ← foldl_snoc]
      exact may_end⟩) hout with ⟨hb, rfl, rfl, rfl⟩ | ⟨h3, h4, j, rfl, hres⟩
    · exact .bad (hba.2 hb) (h.mono (by omega) (by omega))
    · have e3 : (fun x => ∀ j' : Nat, (j : Int) = j' → mayR safe (cs ++ [⟨2, j', []⟩]) x) = mayR safe (cs ++ [⟨2, j, []⟩]) := by
        funext x
        refine propext ⟨fun hx => hx j rfl, fun hx j' hj' => ?_⟩
        have : j = j' := by omega
        subst this; exact hx
      rw [e3] at hres
      refine Came.of_res h rfl (by show a + 0 ≤ _; omega) (by omega) (fun hb => by have := hba.1 hb; omega) (okCs_snoc h.ok ⟨by rw [← hnow]; exact ro, by rw [← hnow]; omega, .inr ⟨.inl rfl, by rw [← hnow]; show now.first ≤ j; omega, by rw [← hnow]; show j ≤ _; omega⟩, by show j ≤ _; omega, by show 0 ≤ _; omega⟩ ?_) (by rw [← e2]; exact Nat.le_add_right _ _) s1 (s2.mono (by omega)) (by show now.recs.length + 0 ≤ _; omega) (by omega) (by omega) hres
      rw [← hnow]
      exact doR_ok ro (by show now.recs.length + 0 ≤ _; omega) (by show j ≤ _; omega) fun x hx => by cases hx
theorem drop_came (h : PInv a D L now safe cs dead q) {i : Int} (ha : a ≤ 980) (hout : DropOut L D i e L' D') : Came (a + 1) now safe cs dead q 3 i [] e L' D' := by
  obtain ⟨ro, h1, h2, e1, e2⟩ := h.rw
  have hba := bad_cd h (k := 3) (by omega) (i := i)
  have hnl := h.nl; have hcl := h.cl
  obtain ⟨s1, s2⟩ := hout.st h.st h.dk (by omega) (by omega)
  have hn : (L.next : Int) = (now.first : Int) + (now.recs.length : Int) := by unfold Lg.next; rw [← e1, ← e2]; omega
  cases hd : dead with
  | true =>
    obtain ⟨g1, g2⟩ := h.gone hd
    rw [hd] at h
    cases hout with
    | arg hb => exact .bad (hba.2 hb) (h.mono (by omega) (by omega))
    | off h3 h4 _ =>
      obtain ⟨j, rfl⟩ := Int.eq_ofNat_of_zero_le (show 0 ≤ i by omega)
      exact .off j (fun hb => by have := hba.1 hb; omega) rfl (by rw [if_pos rfl]; exact h.mono (by omega) (by omega))
    | same _ ho => rw [g1] at ho; cases ho
    | left _ _ _ ho _ => rw [g1] at ho; cases ho
  | false =>
    obtain ⟨W, hnow⟩ := h.alive hd
    rw [hd] at h
    have hage := W.age_le
    rcases drop_res (Y := fun x => ∀ j : Nat, i = j → mayR safe (cs ++ [⟨3, j, []⟩]) x) W (by omega) (fun j hij => ⟨fun x hx j' hj' => may_snoc hx, fun j' hj' => by
      have : j = j' := by omega
      subst this
      rw [h.row, hnow, ← foldl_snoc]
      exact may_end⟩) hout with ⟨hb, rfl, rfl, rfl⟩ | ⟨h3, h4, j, rfl, hres⟩
    · exact .bad (hba.2 hb) (h.mono (by omega) (by omega))
    · have e3 : (fun x => ∀ j' : Nat, (j : Int) = j' → mayR safe (cs ++ [⟨3, j', []⟩]) x) = mayR safe (cs ++ [⟨3, j, []⟩]) := by
        funext x
        refine propext ⟨fun hx => hx j rfl, fun hx j' hj' => ?_⟩
        have : j = j' := by omega
        subst this; exact hx
      rw [e3] at hres
      refine Came.of_res h rfl (by show a + 0 ≤ _; omega) (by omega) (fun hb => by have := hba.1 hb; omega) (okCs_snoc h.ok ⟨by rw [← hnow]; exact ro, by rw [← hnow]; omega, .inr ⟨.inr rfl, by rw [← hnow]; show now.first ≤ j; omega, by rw [← hnow]; show j ≤ _; omega⟩, by show j ≤ _; omega, by show 0 ≤ _; omega⟩ ?_) (by rw [← e2]; exact Nat.le_add_right _ _) s1 (s2.mono (by omega)) (by show now.recs.length + 0 ≤ _; omega) (by omega) (by omega) hres
      rw [← hnow]
      exact doR_ok ro (by show now.recs.length + 0 ≤ _; omega) (by show j ≤ _; omega) fun x hx => by cases hx
theorem sync_came (h : PInv a D L now safe cs dead q) : (D.count.off = true ∧ PInv a D.count L now safe cs true q) ∨ (D.count.off = false ∧ dead = false ∧ PInv a D.count.sync L now now [] false q) := by
  obtain ⟨c1, c2, c3, c4⟩ := count_same D
  obtain ⟨ro, _⟩ := h.rw
  cases hoff : D.count.off with
  | true =>
    refine .inl ⟨rfl, by rw [c4]; exact h.dq, h.q2, h.row, h.st, h.dk.count, h.ok, h.nl, h.cl, h.ab, h.tl, fun hx => (by cases hx), fun _ => ⟨hoff, ?_⟩⟩
    have hL : Lost (a + 1) D (mayR safe cs) := by
      cases hd : dead with
      | true => exact (h.gone hd).2
      | false => exact (h.alive hd).1.st.lost
    intro g hg
    rw [c2, c3] at hg
    rw [c4]
    exact hL g hg
  | false =>
    have hd : dead = false := by
      cases hd : dead with
      | false => rfl
      | true =>
        have := (h.gone hd).1
        rw [Dk.count_off D this, this] at hoff; cases hoff
    refine .inr ⟨rfl, hd, by show D.count.quota = q; rw [c4]; exact h.dq, h.q2, h.row, h.st, (h.dk.count.sync).mono (by omega), ro, h.nl, Nat.zero_le _, h.ab, h.nl, fun _ => ⟨?_, rfl⟩, fun hx => by cases hx⟩
    have := sync_res (h.alive hd).1 hoff
    refine this.mono fun x hx => ?_
    show x = now
    rw [hx, h.row]
end
end Go.Am
namespace Go.Am
section
variable {tab : Nat → Option PFn} {σ σ' : S} {Q : AVal → S → Prop} {G G' M M' N : Nat → Prop} {g l d : Pos} {L L' : Lg} {D D' : Dk} {rv rv' nv sv cv : AVal} {mr mr' nm sm mc : Nat} {now safe : Rw} {cs : List Cl} {cc : List AVal} {dead : Bool} {q a : Nat} {e : Int}
def Gm (σ0 σ : S) (g : Pos) (a q : Nat) (now safe : Rw) (cs : List Cl) (dead : Bool) : Prop :=
  ∃ G M l d L D rv mr nv sv cv mc cc, GmAt σ g G M l d L D rv mr now safe nv sv cv mc cs cc dead q ∧ PInv a D L now safe cs dead q ∧ Keep0 σ0 σ ∧ ∀ x, G x → σ0.next.nat ≤ x
theorem young_gr {n : Nat} (hy : ∀ x, G x → n ≤ x) (hn : n ≤ σ.next.nat) (h : Gr σ G G') : ∀ x, G' x → n ≤ x := fun x hx => by
  by_cases hl : x < σ.next.nat
  · exact hy x (h.2 x hl hx)
  · omega
theorem young_keep {σ0 : S} (ho0 : Ok σ0) (k0 : Keep0 σ0 σ) (hy : ∀ x, G x → σ0.next.nat ≤ x) (k : Keep N σ σ') (hN : ∀ x, N x → G x) : Keep0 σ0 σ' := k0.then ho0 k fun x hx hm => by have := hy x (hN x hm); omega
theorem bad_lo {r : Rw} {k : Nat} {i : Int} {rs : List (List Nat)} (h : ¬ badF r (k : Int) i rs) (hlo : 1 ≤ r.first) (hhi : r.first + r.recs.length ≤ 1099511627777) (hk : k = 1 ∨ k = 2 ∨ k = 3) : 1 ≤ i ∧ i ≤ 1099511627777 ∧ (k = 1 ∨ ((k = 2 ∨ k = 3) ∧ (r.first : Int) ≤ i ∧ i ≤ (r.first : Int) + r.recs.length)) := by
  have hl : r.last = (r.first : Int) + (r.recs.length : Int) - 1 := rfl
  unfold badF at h
  by_cases h1 : (k : Int) = 1
  · rw [if_pos h1] at h
    have h2 : ¬ i < 1 := fun hh => h (.inr (.inl hh))
    have h3 : ¬ 1099511627777 < i := fun hh => h (.inr (.inr (.inl hh)))
    exact ⟨by omega, by omega, .inl (by omega)⟩
  · rw [if_neg h1] at h
    exact ⟨by omega, by omega, .inr ⟨by omega, by omega, by omega⟩⟩
theorem one_call (ho : Ok σ) {n j : Nat} (hj : j < n) {a b w : AVal} (hw : ∃ m rs, SsAt σ w rs m) : ∃ σ1, σ1 = (σ.bumpT n).lay (Pos.plusT j σ.next) (Blk.named ⟨3, .ex, [a, b, w]⟩ (Pos.plusT j σ.next)) ∧ Keep0 σ σ1 ∧ SlAt σ1 (.sl (Pos.plusT j σ.next) 0 1 1) 3 1 [a, b, w] (σ.next.nat + j) := by
  have hp : (Pos.plusT j σ.next).nat = σ.next.nat + j := plusT_nat j _
  have k0 : Keep0 σ (σ.bumpT n) := Keep.bump ho n
  have hn := next_bump (σ := σ) n
  obtain ⟨k1, _, _⟩ := Keep.layD k0 ⟨3, .ex, [a, b, w]⟩ (p := Pos.plusT j σ.next) (ho.free _ (by omega)) (by omega) (by omega)
  refine ⟨_, rfl, k1, rfl, rfl, Nat.le_refl 1, fun _ => ⟨⟨3, .ex, [a, b, w]⟩, by rw [blk_lay, if_pos rfl]; rfl, hp, ?_, rfl⟩⟩
  show 0 + 1 * 3 ≤ 3; omega
theorem push_c (ho : Ok σ) (h : GmAt σ g G M l d L D rv mr now safe nv sv cv mc cs cc dead q) {c : Cl} {p5 : Pos} {r5 : AVal} (b5 : σ.blk p5 = some ⟨0, .ex, [.int .i64 (c.kind : Int), .int .i64 (c.i : Int), r5]⟩) (h5 : IsAt σ G r5 c.recs) (hn : cs.length ≤ 100000) {K : AVal → AVal → AVal → AVal → AVal → AVal → AVal → AVal → S → Prop}
    (hK : ∀ (a1 a2 a3 a4 a5 a6 a7 a8 : AVal) (σ' : S) (G' : Nat → Prop) (cv' : AVal) (mc' : Nat) (cc' : List AVal), GmAt σ' g G' M l d L D rv mr now safe nv sv cv' mc' (cs ++ [c]) cc' dead q → Keep G σ σ' → Gr σ G G' → K a1 a2 a3 a4 a5 a6 a7 a8 σ') :
    Som (vNilck (.ptr g 0)) fun a1 => Som (vFieldAddr 6 a1) fun a2 => Som (vLoad1 a2 (σ.bumpT 11)) fun a3 => Som (vLoadN 3 (.ptr p5 0) (σ.bumpT 11)) fun a4 => Alb (aSliceV 3 [(.int .i64 0), (.int .i64 0), .nsl] 1 [(0, 3, a4)]) (Pos.plusT 6 σ.next) (σ.bumpT 11) fun a5 σ4 =>
      Eff (appendA 3 40 a3 a5 σ4) fun a6 σ5 => Som (vNilck (.ptr g 0)) fun a7 => Som (vFieldAddr 6 a7) fun a8 => Eff (storeW 1 a8 a6 σ5) fun _ σ6 => K a1 a2 a3 a4 a5 a6 a7 a8 σ6 := by
  have kb : Keep0 σ (σ.bumpT 11) := Keep.bump ho 11
  obtain ⟨m5, s5, hm5⟩ := h5
  obtain ⟨σ1, e1, k1, x1⟩ := one_call ho (n := 11) (j := 6) (by omega) (a := .int .i64 (c.kind : Int)) (b := .int .i64 (c.i : Int)) (w := r5) ⟨m5, _, s5⟩
  refine Som_of rfl (Som_of (vField0 _ _ _) (Som_of (ld (kb.blk h.blk) rfl) (Som_of (ldN (n := 3) (xs := [.int .i64 (c.kind : Int), .int .i64 (c.i : Int), r5]) (kb.blk b5) (by simp) rfl) ?_)))
  refine Alb_of (show aSliceV 3 [AVal.int .i64 0, .int .i64 0, .nsl] 1 [(0, 3, .agg [.int .i64 (c.kind : Int), .int .i64 (c.i : Int), r5])] = some (⟨3, .ex, [.int .i64 (c.kind : Int), .int .i64 (c.i : Int), r5]⟩, fun p => .sl p 0 1 1) from rfl) ?_
  rw [← e1]
  have h1 := h.k0 ho k1
  have hw : IsAt σ1 G r5 c.recs := ⟨m5, s5.k0 k1, hm5⟩
  obtain ⟨v, σ2, σ3, G2, mc2, cc2, a1, b2, e3, hv, h3, k3, g3, k2⟩ := h1.more k1.ok hw x1 hn
  refine Eff_of a1 (Som_of rfl (Som_of (vField0 _ _ _) (Eff_of (store1_of b2 (by simp [gmCells]) hv) ?_)))
  have e4 : σ2.upd g ⟨0, .ex, (gmCells d l now safe nv sv cv dead q).set (0 + 6) v⟩ = σ3 := e3.symm
  rw [e4]
  have n1 := k1.next
  exact hK _ _ _ _ _ _ _ _ σ3 G2 v mc2 cc2 h3 ((Keep0.to k1).trans (k3.mono fun x hx => by
    rcases hx with hx | hx
    · rw [hx]; exact h.gc
    · rw [hx]; exact h.gg)) ⟨g3.1, fun x hx hg => g3.2 x (by omega) hg⟩
theorem after_c (ht : Tab tab) {σ0 : S} (ho0 : Ok σ0) (hk0 : Keep0 σ0 σ) (hy : ∀ x, G x → σ0.next.nat ≤ x) (h : GmAt σ g G M l d L D rv mr now safe nv sv cv mc cs cc dead q) {k : Nat} {i : Int} {rs : List (List Nat)} (hcm : Came a now safe cs dead q k i rs e L D)
    (hro : RwOk now ∧ 1 ≤ now.first ∧ now.first + now.recs.length ≤ 1099511627777) (hcs : cs.length ≤ 1000) (hk : k = 1 ∨ k = 2 ∨ k = 3) (hI : I64 i) (hrs : rs.length ≤ 6 ∧ ∀ r ∈ rs, Bytes r ∧ r.length ≤ 600) (hq : q ≤ 1048576) {E : En} {p5 : Pos} {r5 : AVal}
    (b5 : σ.blk p5 = some ⟨0, .ex, [.int .i64 (k : Int), .int .i64 i, r5]⟩) (h5 : IsAt σ G r5 rs) (hp5 : ¬ G p5.nat) (e0 : E 0 = .ptr g 0) (e5 : E 5 = .ptr p5 0) (e7 : E 7 = .int .i64 e)
    (hQ : ∀ σ' now' cs' dead', Gm σ0 σ' g a q now' safe cs' dead' → Q (.bool true) σ') : f23.J2 (WF tab) Q E σ := by
  have ho := hk0.ok
  refine f23.p2_of ?_
  unfold f23.p2
  rw [e0, e5, e7]
  obtain ⟨hro1, hro2, hro3⟩ := hro
  have kb : Keep0 σ (σ.bumpT 6) := Keep.bump ho 6
  have h1 := h.k0 ho kb
  have c5 := kb.blk b5
  obtain ⟨m5, s5, hm5⟩ := h5
  have s5b := s5.k0 kb
  have kk1 := hk0.trans kb
  obtain ⟨nm, sn, hnm⟩ := h1.now
  refine Som_of rfl (Som_of (vField0 _ _ _) (Som_of (ldN (n := 2) (xs := [.int .i64 (now.first : Int), nv]) h1.blk (by simp [gmCells]) rfl) (Som_of (ldN (n := 3) (xs := [.int .i64 (k : Int), .int .i64 i, r5]) c5 (by simp) rfl) ?_)))
  refine bad_c ht kb.ok sn hro1 s5b hI ⟨by omega, fun x hx => by have := (hrs.2 x hx).2; omega⟩ fun σ2 k2 => ?_
  have h2 := h1.k0 kb.ok k2
  have c5 := k2.blk c5
  have s5c := s5b.k0 k2
  have kk2 := kk1.trans k2
  have n02 : σ.next.nat ≤ σ2.next.nat := Nat.le_trans kb.next k2.next
  have hfin : ∀ (σ3 : S) {G3 M3 : Nat → Prop} {L3 : Lg} {D3 : Dk} {rv3 nv3 sv3 cv3 : AVal} {mr3 mc3 : Nat} {now3 : Rw} {cs3 : List Cl} {cc3 : List AVal} {dead3 : Bool}, GmAt σ3 g G3 M3 l d L3 D3 rv3 mr3 now3 safe nv3 sv3 cv3 mc3 cs3 cc3 dead3 q → PInv a D3 L3 now3 safe cs3 dead3 q → Keep0 σ0 σ3 → (∀ x, G3 x → σ0.next.nat ≤ x) → Q (.bool true) σ3 :=
    fun σ3 _ _ _ _ _ _ _ _ _ _ _ _ _ _ hg hp hk hy3 => hQ σ3 _ _ _ ⟨_, _, _, _, _, _, _, _, _, _, _, _, _, hg, hp, hk, hy3⟩
  have hI5 : IsAt σ2 G r5 rs := ⟨m5, s5c, hm5⟩
  cases hcm with
  | bad hb hp =>
    rw [decide_eq_true hb, WIf_true]
    refine Som_of (bin_eql _ _ _ _) ?_
    rw [Ret_1 rfl]
    exact hfin σ2 h2 hp kk2 hy
  | ok j hnb hdd hij hp =>
    rw [decide_eq_false hnb, WIf_false]
    subst hij
    obtain ⟨g1, g2, g3⟩ := bad_lo hnb hro2 hro3 hk
    refine Som_of (bin_eql _ _ _ _) (WIf_t rfl ?_)
    have k3 : Keep0 σ2 (σ2.bumpT 10) := Keep.bump k2.ok 10
    have h3 := h2.k0 k2.ok k3
    have c5 := k3.blk c5
    have kk3 := kk2.trans k3
    obtain ⟨nm3, sn3, hnm3⟩ := h3.now
    have n3 := k3.next
    refine Som_of rfl (Som_of (vField0 _ _ _) (Som_of (ldN (n := 2) (xs := [.int .i64 (now.first : Int), nv]) h3.blk (by simp [gmCells]) rfl) (Som_of (ldN (n := 3) (xs := [.int .i64 (k : Int), .int .i64 (j : Int), r5]) c5 (by simp) rfl) ?_)))
    refine do_c ht (c := ⟨k, j, rs⟩) k3.ok sn3 hro1 (s5c.k0 k3) (by show j ≤ _; omega) (g3.imp id fun hh => ⟨hh.1, by show now.first ≤ j; omega, by show j ≤ _; omega⟩) (by show rs.length ≤ _; omega) fun v' m' σ4 hv' k4 hm1 hm2 => ?_
    have h4 := h3.k0 k3.ok k4
    have c5 := k4.blk c5
    have kk4 := kk3.trans k4
    have n4 := k4.next
    have hnG : IsAt σ4 G v' (doR now ⟨k, j, rs⟩).recs := ⟨m', hv', fun _ hg => by have := h3.wl.gl _ hg; omega⟩
    obtain ⟨h5', k5⟩ := h4.set (now' := doR now ⟨k, j, rs⟩) (dead' := dead) k4.ok hnG h4.safe
    refine Som_of rfl (Som_of (vField0 _ _ _) (Eff_of (storeN_of (xs := [.int .i64 ((doR now ⟨k, j, rs⟩).first : Int), v']) h4.blk rfl (by omega) (by simp [gmCells])) ?_))
    have kk5 : Keep0 σ0 (σ4.upd g ⟨0, .ex, gmCells d l (doR now ⟨k, j, rs⟩) safe v' sv cv dead q⟩) := young_keep ho0 kk4 hy k5 fun x hx => by rw [hx]; exact h.gg
    have hpg : p5.nat ≠ g.nat := fun e => hp5 (by rw [e]; exact h.gg)
    have c5 := k5.old _ _ c5 hpg
    have hw5 : IsAt (σ4.upd g ⟨0, .ex, gmCells d l (doR now ⟨k, j, rs⟩) safe v' sv cv dead q⟩) G r5 rs := IsAt.move (σ := σ4) ⟨m5, (s5c.k0 k3).k0 k4, hm5⟩ k4.ok k5 (fun x hx => by rw [hx]; exact h.gg) (Gr.refl _ G)
    have e55 : σ4.upd g ⟨0, .ex, (gmCells d l now safe nv sv cv dead q).take (0 + 2) ++ [.int .i64 ((doR now ⟨k, j, rs⟩).first : Int), v'] ++ (gmCells d l now safe nv sv cv dead q).drop (0 + 2 + 2)⟩ = σ4.upd g ⟨0, .ex, gmCells d l (doR now ⟨k, j, rs⟩) safe v' sv cv dead q⟩ := rfl
    rw [e55]
    generalize hσ5 : σ4.upd g ⟨0, .ex, gmCells d l (doR now ⟨k, j, rs⟩) safe v' sv cv dead q⟩ = σ5 at *
    refine push_c k5.ok h5' (c := ⟨k, j, rs⟩) c5 hw5 (by omega) fun _ _ _ _ _ _ _ _ σ6 G6 cv6 mc6 cc6 h6 k6 g6 => ?_
    have kk6 := young_keep ho0 kk5 hy k6 fun x hx => hx
    refine Som_of rfl (Som_of (vField0 _ _ _) (Som_of (ld h6.blk rfl) (Som_of (un_not _) ?_)))
    rw [Ret_1 rfl]
    subst hdd
    exact hfin σ6 h6 hp kk6 (young_gr hy kk5.next g6)
  | off j hnb hij hp =>
    rw [decide_eq_false hnb, WIf_false]
    subst hij
    -- the power is gone
    have gone : ∀ (E' : En) (σ3 : S) {G3 : Nat → Prop} {cv3 : AVal} {mc3 : Nat} {cs3 : List Cl} {cc3 : List AVal}, E' 0 = .ptr g 0 → GmAt σ3 g G3 M l d L D rv mr now safe nv sv cv3 mc3 cs3 cc3 dead q → PInv a D L now safe cs3 true q → Keep0 σ0 σ3 → (∀ x, G3 x → σ0.next.nat ≤ x) → f23.J3 (WF tab) Q E' σ3 := by
      intro E' σ3 G3 cv3 mc3 cs3 cc3 e0' h3 hp3 kk3 hy3
      refine f23.p3_of ?_
      unfold f23.p3
      rw [e0']
      obtain ⟨h4, k4⟩ := h3.set (dead' := true) kk3.ok h3.now h3.safe
      refine Som_of rfl (Som_of (vField0 _ _ _) (Eff_of (store1_of h3.blk (by simp [gmCells]) rfl) ?_))
      have e44 : σ3.upd g ⟨0, .ex, (gmCells d l now safe nv sv cv3 dead q).set (0 + 7) (.bool true)⟩ = σ3.upd g ⟨0, .ex, gmCells d l now safe nv sv cv3 true q⟩ := rfl
      rw [e44]
      have kk4 := young_keep ho0 kk3 hy3 k4 fun x hx => by rw [hx]; exact h3.gg
      generalize σ3.upd g ⟨0, .ex, gmCells d l now safe nv sv cv3 true q⟩ = σ4 at *
      refine Som_of rfl (Som_of (vField0 _ _ _) (Som_of (ld h4.blk rfl) ?_))
      have hwl := h4.wl
      obtain ⟨pf, ps, fv, sv', wv, wc, mw, hwl, _⟩ := hwl
      refine off_c ht hwl.dk ?_
      rw [(hp3.gone rfl).1, Ret_1 rfl]
      exact hfin σ4 h4 hp3 kk4 hy3
    refine Som_of (bin_eql _ _ _ _) (WIf_f (by omega) (Som_of (bin_eql _ _ _ _) (WIf_t rfl ?_)))
    refine Som_of rfl (Som_of (vField0 _ _ _) (Som_of (ld h2.blk rfl) (Som_of (un_not _) ?_)))
    cases hdd : dead with
    | true =>
      rw [show (!true) = false from rfl, WIf_false]
      rw [hdd, if_pos rfl] at hp
      exact gone _ σ2 (by simp [e0]) h2 hp kk2 hy
    | false =>
      rw [show (!false) = true from rfl, WIf_true]
      rw [hdd, if_neg (by decide)] at hp
      refine push_c k2.ok h2 (c := ⟨k, j, rs⟩) c5 hI5 (by omega) fun _ _ _ _ _ _ _ _ σ6 G6 cv6 mc6 cc6 h6 k6 g6 => ?_
      have kk6 := young_keep ho0 kk2 hy k6 fun x hx => hx
      exact gone _ σ6 (by simp [e0]) h6 hp kk6 (young_gr hy kk2.next g6)
  | full hnb hdd hp hlt =>
    rw [decide_eq_false hnb, WIf_false]
    refine Som_of (bin_eql _ _ _ _) (WIf_f (by omega) (Som_of (bin_eql _ _ _ _) (WIf_f (by omega) (Som_of (bin_eql _ _ _ _) (WIf_t rfl ?_)))))
    have k3 : Keep0 σ2 (σ2.bumpT 19) := Keep.bump k2.ok 19
    have h3 := h2.k0 k2.ok k3
    have c5 := k3.blk c5
    have kk3 := kk2.trans k3
    obtain ⟨nm3, sn3, hnm3⟩ := h3.now
    refine Som_of rfl (Som_of (vField0 _ _ _) (Som_of (ld h3.blk rfl) (Som_of (un_not _) ?_)))
    subst hdd
    rw [show (!false) = true from rfl]
    refine Sq_of rfl rfl (Sq_of rfl rfl (Sq_of rfl (vField0 _ _ _) (Sq_of rfl (ldN (n := 2) (xs := [.int .i64 (now.first : Int), nv]) h3.blk (by simp [gmCells]) rfl) (Sq_of rfl (ldN (n := 3) (xs := [.int .i64 (k : Int), .int .i64 i, r5]) c5 (by simp) rfl) (Sq_of rfl rfl (Sq_of rfl rfl (Sq_of rfl (vField0 _ _ _) (Sq_of rfl (ld h3.blk rfl) (GE_t rfl ?_)))))))))
    refine bulk_c ht k3.ok sn3 hro1 (s5c.k0 k3) ⟨by omega, fun x hx => by have := (hrs.2 x hx).2; omega⟩ fun σ4 k4 => ?_
    have h4 := h3.k0 k3.ok k4
    refine Sure_of (by rw [SameO_of (ld h4.blk rfl) (same_int _ _)]; rfl) ?_
    refine Sq_of rfl (bin_gtr _ _ _ _) (Som_of rfl ?_)
    rw [Ret_1 rfl, decide_eq_true (show (q : Int) < ((4 * (wtF now.recs + wtF rs) + 8192 : Nat) : Int) by omega)]
    exact hfin σ4 h4 hp (kk3.trans k4) hy
end
end Go.Am
namespace Go.Am
section
variable {tab : Nat → Option PFn} {σ σ' : S} {Q : AVal → S → Prop} {G G' M M' N : Nat → Prop} {g l d : Pos} {L L' : Lg} {D D' : Dk} {rv rv' nv sv cv : AVal} {mr mr' nm sm mc : Nat} {now safe : Rw} {cs : List Cl} {cc : List AVal} {dead : Bool} {q a : Nat} {e : Int}
def selF (n : Nat) (rs : List (List Nat)) : List (List Nat) := (rs.take n).filter fun r => decide (r.length ≤ 600)
theorem selF_succ {n : Nat} {rs : List (List Nat)} (h : n < rs.length) : selF (n + 1) rs = if rs[n].length ≤ 600 then selF n rs ++ [rs[n]] else selF n rs := by
  unfold selF
  rw [List.take_succ_eq_append_getElem h, List.filter_append, List.filter_cons, List.filter_nil]
  by_cases hr : rs[n].length ≤ 600
  · rw [if_pos hr, if_pos (decide_eq_true hr)]
  · rw [if_neg hr, if_neg (fun e => hr (of_decide_eq_true e)), List.append_nil]
theorem selF_ok {n : Nat} {rs : List (List Nat)} (hb : ∀ r ∈ rs, Bytes r) : (selF n rs).length ≤ n ∧ ∀ r ∈ selF n rs, Bytes r ∧ r.length ≤ 600 := by
  unfold selF
  refine ⟨Nat.le_trans (List.length_filter_le _ _) (by rw [List.length_take]; omega), fun r hr => ?_⟩
  obtain ⟨h1, h2⟩ := List.mem_filter.1 hr
  exact ⟨hb r (List.mem_of_mem_take h1), of_decide_eq_true h2⟩
theorem one_str (ho : Ok σ) {n j : Nat} (hj : j < n) (r : List Nat) : ∃ σ1, σ1 = (σ.bumpT n).lay (Pos.plusT j σ.next) (Blk.named ⟨1, .ex, [.str r]⟩ (Pos.plusT j σ.next)) ∧ Keep0 σ σ1 ∧ SsAt σ1 (.sl (Pos.plusT j σ.next) 0 1 1) [r] (σ.next.nat + j) := by
  have hp : (Pos.plusT j σ.next).nat = σ.next.nat + j := plusT_nat j _
  have k0 : Keep0 σ (σ.bumpT n) := Keep.bump ho n
  have hn := next_bump (σ := σ) n
  obtain ⟨k1, _, _⟩ := Keep.layD k0 ⟨1, .ex, [.str r]⟩ (p := Pos.plusT j σ.next) (ho.free _ (by omega)) (by omega) (by omega)
  refine ⟨_, rfl, k1, ?_⟩
  rw [← hp]
  exact exSl (by rw [blk_lay, if_pos rfl]; rfl) rfl
theorem call_c (ht : Tab tab) {σ0 : S} (ho0 : Ok σ0) (hk0 : Keep0 σ0 σ) (hy : ∀ x, G x → σ0.next.nat ≤ x) (h : GmAt σ g G M l d L D rv mr now safe nv sv cv mc cs cc dead q) (hp : PInv a D L now safe cs dead q) (ha : a ≤ 980) {ak : Ak} {w : AVal} {k : Nat} {i : Int} {rs : List (List Nat)} (hk : k = 1 ∨ ((k = 2 ∨ k = 3) ∧ rs = [])) (hkk : ak.kind = (k : Int)) (hI : I64 i) (hrs : rs.length ≤ 6 ∧ ∀ r ∈ rs, Bytes r ∧ r.length ≤ 600)
    {E : En} {p3 p5 : Pos} {r5 : AVal} {m5 : Nat} (b3 : σ.blk p3 = some ⟨0, .ex, ak.cells w⟩) (b5 : σ.blk p5 = some ⟨0, .ex, [.int .i64 (k : Int), .int .i64 i, r5]⟩) (s5 : SsAt σ r5 rs m5) (hm5 : rs ≠ [] → ¬ G m5) (hp5 : ¬ G p5.nat) (e0 : E 0 = .ptr g 0) (e3 : E 3 = .ptr p3 0) (e5 : E 5 = .ptr p5 0) {bd : Nat} (hbd : rs.length + 1 ≤ bd ∧ bd ≤ 7)
    (hQ : ∀ σ' now' cs' dead', Gm σ0 σ' g (a + bd) q now' safe cs' dead' → Q (.bool true) σ') : f23.J1 (WF tab) Q E σ := by
  have ho := hk0.ok
  have hst := hp.st
  have c1 := hst.inn.lo; have c2 := hst.inn.hi; have c3 := hst.many; have c4 := hst.live; have c5 := hst.age; have c6 := hp.dk.wn; have c7 := hst.size
  have hrw := hp.rw
  have hcl := hp.cl
  have hq2 := hp.q2
  have hMG := h.wl.hG
  -- behind the call on the log
  have go : ∀ {b : Nat} (e : Int) (L2 : Lg) (D2 : Dk) (σ1 : S), b ≤ a + bd → Keep0 σ σ1 → Came b now safe cs dead q k i rs e L2 D2 → ∀ E' : En, E' 0 = .ptr g 0 → E' 5 = .ptr p5 0 → E' 7 = .int .i64 e → Then σ1 G M l d L2 D2 fun σ2 => f23.J2 (WF tab) Q E' σ2 := by
    intro b e L2 D2 σ1 hb k1 hcm E' e0' e5' e7' σ2 G2 M2 rv2 mr2 hw2 k2 g2 s2
    have h1 := h.k0 ho k1
    have h2 := h1.step k1.ok hw2 k2 g2 s2
    have kk1 := hk0.trans k1
    have kk2 := young_keep ho0 kk1 hy k2 hMG
    have b5' := k2.old _ _ (k1.blk b5) fun hx => hp5 (hMG _ hx)
    have hI5 : IsAt σ2 G2 r5 rs := IsAt.move (σ := σ1) ⟨m5, s5.k0 k1, hm5⟩ k1.ok k2 hMG g2
    have hp5' : ¬ G2 p5.nat := fun hx => hp5 (g2.2 _ (k1.ok.lt (k1.blk b5)) hx)
    refine after_c ht ho0 kk2 (young_gr hy kk1.next g2) h2 hcm ⟨hrw.1, hrw.2.1, hrw.2.2.1⟩ (by have := hp.ab; omega) (hk.imp id fun hh => hh.1) hI hrs hq2 b5' hI5 hp5' e0' e5' e7' fun σ' now' cs' dead' hg => ?_
    obtain ⟨G3, M3, l3, d3, L3, D3, rv3, mr3, nv3, sv3, cv3, mc3, cc3, x1, x2, x3, x4⟩ := hg
    exact hQ σ' now' cs' dead' ⟨G3, M3, l3, d3, L3, D3, rv3, mr3, nv3, sv3, cv3, mc3, cc3, x1, x2.mono hb (by omega), x3, x4⟩
  refine f23.p1_of ?_
  unfold f23.p1
  rw [e0, e3, e5]
  refine Som_of (vField0 _ _ _) (Som_of (ld b3 rfl) (Som_of (bin_eql _ _ _ _) ?_))
  rcases hk with rfl | ⟨hk2, rfl⟩
  · refine WIf_t (by rw [hkk]; rfl) ?_
    have kb : Keep0 σ (σ.bumpT 10) := Keep.bump ho 10
    have h1 := h.k0 ho kb
    have b5' := kb.blk b5
    refine Som_of rfl (Som_of (vField0 _ _ _) (Som_of (ld h1.blk rfl) (Som_of (vField0 _ _ _) (Som_of (ld b5' rfl) (Som_of (vField0 _ _ _) (Som_of (ld b5' rfl) ?_))))))
    refine append_o ht kb.ok h1.wl hst.ok hp.dk.ok (by omega) hst.file (by omega) hI (s5.k0 kb) (fun r hr => ⟨(hrs.2 r hr).1, by have := (hrs.2 r hr).2; omega⟩) (by omega) (fun hz hM => hm5 hz (hMG _ hM)) (by omega) (by omega) fun e L2 D2 hout => ?_
    exact go e L2 D2 _ (by omega) kb (app_came hp hrs ha hout) _ (by simp [e0]) (by simp [e5]) (by simp)
  · refine WIf_f (by rw [hkk]; omega) (Som_of (bin_eql _ _ _ _) ?_)
    have kb : Keep0 σ (σ.bumpT 8) := Keep.bump ho 8
    have h1 := h.k0 ho kb
    have b5' := kb.blk b5
    rcases hk2 with rfl | rfl
    · refine WIf_t (by rw [hkk]; rfl) ?_
      refine Som_of rfl (Som_of (vField0 _ _ _) (Som_of (ld h1.blk rfl) (Som_of (vField0 _ _ _) (Som_of (ld b5' rfl) ?_))))
      refine cut_o ht kb.ok h1.wl hst.ok hp.dk.ok (by omega) hst.file (by omega) (by omega) (by omega) fun e L2 D2 hout => ?_
      exact go e L2 D2 _ (by omega) kb (cut_came hp ha hout) _ (by simp [e0]) (by simp [e5]) (by simp)
    · refine WIf_f (by rw [hkk]; omega) (Som_of (bin_eql _ _ _ _) (WIf_t (by rw [hkk]; rfl) ?_))
      refine Som_of rfl (Som_of (vField0 _ _ _) (Som_of (ld h1.blk rfl) (Som_of (vField0 _ _ _) (Som_of (ld b5' rfl) ?_))))
      refine drop_o ht kb.ok h1.wl hst.ok hp.dk.ok (by omega) hst.file (by omega) (by omega) (by omega) fun e L2 D2 hout => ?_
      exact go e L2 D2 _ (by omega) kb (drop_came hp ha hout) _ (by simp [e0]) (by simp [e5]) (by simp)
theorem change_c (ht : Tab tab) {σ0 : S} (ho0 : Ok σ0) (h : Gm σ0 σ g a q now safe cs dead) (ha : a ≤ 980) {ak : Ak} {w : AVal} {m : Nat} (hw : SsAt σ w ak.recs m) (hok : AkOk ak) {k : Nat} (hkk : ak.kind = (k : Int)) (hk : k = 1 ∨ k = 2 ∨ k = 3) (hb : ∀ r ∈ ak.recs, Bytes r) {bd : Nat} (hbd : min 6 ak.recs.length + 1 ≤ bd ∧ bd ≤ 7)
    (hQ : ∀ σ' now' cs' dead', Gm σ0 σ' g (a + bd) q now' safe cs' dead' → Q (.bool true) σ') : WF tab 23 [.ptr g 0, ak.val w] σ Q := by
  obtain ⟨G, M, l, d, L, D, rv, mr, nv, sv, cv, mc, cc, h, hp, hk0, hy⟩ := h
  have ho := hk0.ok
  obtain ⟨hro, hrw2, hrw3, _⟩ := hp.rw
  refine f23_wf ht.t23 ?_
  unfold f23
  refine Ala_of (show aBoxV (ak.val w) = some (⟨0, .ex, ak.cells w⟩, fun p => .ptr p 0) from rfl) ?_
  obtain ⟨k1, b3, n1⟩ := box_new ho (ak.cells w)
  have hn0 : σ.next.nat < σ.next.nat + 1 := by omega
  generalize hp3 : σ.next = p3 at *
  generalize σ.new ⟨0, .ex, ak.cells w⟩ = σ1 at *
  have kb : Keep0 σ1 (σ1.bumpT 11) := Keep.bump k1.ok 11
  have hnb := next_bump (σ := σ1) 11
  have un5 : Unused (σ1.bumpT 11) (Pos.plusT 9 σ1.next) := k1.ok.free _ (by rw [plusT_nat]; omega)
  have p5n : (Pos.plusT 9 σ1.next).nat = σ1.next.nat + 9 := plusT_nat 9 _
  have k2 : Keep0 σ (σ1.bumpT 11) := k1.trans kb
  have h2 := h.k0 ho k2
  have b3 := kb.blk b3
  generalize σ1.bumpT 11 = σ2 at *
  generalize hp5 : Pos.plusT 9 σ1.next = p5 at *
  obtain ⟨nm, sn, _⟩ := h2.now
  refine Som_of (vField0 _ _ _) (Som_of (ld b3 rfl) (Som_of rfl (Som_of (vField0 _ _ _) (Som_of (ldN (n := 2) (xs := [.int .i64 (now.first : Int), nv]) h2.blk (by simp [gmCells]) rfl) (Som_of (ldN (n := 7) (xs := ak.cells w) b3 (by simp [Ak.cells]) rfl) ?_)))))
  refine place_c ht (a := ak) k2.ok sn hro fun σ3 k3 => ?_
  have k03 : Keep0 σ σ3 := k2.trans k3
  have b3 := k3.blk b3
  refine Sure_of (SameO_of (ld b3 rfl) (same_int _ _)) ?_
  have hpl : I64 (placeF now ak) := by
    obtain ⟨i1, i2⟩ := hok.i
    obtain ⟨q1, q2, _⟩ := hro
    have hl : now.last = (now.first : Int) + (now.recs.length : Int) - 1 := rfl
    unfold placeF
    split
    · exact ⟨i1, i2⟩
    · rename_i hno
      split
      · refine ⟨?_, ?_⟩ <;> omega
      · refine ⟨?_, ?_⟩ <;> omega
  refine Som_of (show vBuild [AVal.int .i64 0, .int .i64 0, .nsl] [(0, 1, .int .i64 ak.kind), (1, 1, .int .i64 (placeF now ak))] = some (.agg [.int .i64 ak.kind, .int .i64 (placeF now ak), .nsl]) from rfl) ?_
  refine Alb_of (show aAllocV [AVal.int .i64 0, .int .i64 0, .nsl] = some (⟨0, .ex, [.int .i64 0, .int .i64 0, .nsl]⟩, fun p => .ptr p 0) from rfl) ?_
  have un3 := k3.unused _ (by omega) un5
  obtain ⟨k4, m4, _⟩ := Keep.layD (M := fun _ => False) k03 ⟨0, .ex, [AVal.int .i64 0, .int .i64 0, .nsl]⟩ (p := p5) un3 (by rw [hp3]; omega) (by have := k3.next; omega)
  have b5 : (σ3.lay p5 (Blk.named ⟨0, .ex, [AVal.int .i64 0, .int .i64 0, .nsl]⟩ p5)).blk p5 = some ⟨0, .ex, [.int .i64 0, .int .i64 0, .nsl]⟩ := by rw [blk_lay, if_pos rfl]; rfl
  have b3 := m4 _ _ b3
  have n4 : (σ3.lay p5 (Blk.named ⟨0, .ex, [AVal.int .i64 0, .int .i64 0, .nsl]⟩ p5)).next = σ3.next := next_lay _ _
  generalize σ3.lay p5 (Blk.named ⟨0, .ex, [AVal.int .i64 0, .int .i64 0, .nsl]⟩ p5) = σ4 at *
  refine Eff_of (storeN_of (xs := [.int .i64 ak.kind, .int .i64 (placeF now ak), .nsl]) b5 rfl (by omega) (by simp)) ?_
  have k5 : Keep (fun x => x = p5.nat) σ4 (σ4.upd p5 ⟨0, .ex, [.int .i64 ak.kind, .int .i64 (placeF now ak), .nsl]⟩) := Keep.upd k4.ok b5 rfl
  have e5 : ([AVal.int .i64 0, .int .i64 0, .nsl].take 0 ++ [.int .i64 ak.kind, .int .i64 (placeF now ak), .nsl] ++ [AVal.int .i64 0, .int .i64 0, .nsl].drop (0 + 3)) = [.int .i64 ak.kind, .int .i64 (placeF now ak), .nsl] := rfl
  rw [e5]
  have b5 : (σ4.upd p5 ⟨0, .ex, [.int .i64 ak.kind, .int .i64 (placeF now ak), .nsl]⟩).blk p5 = some ⟨0, .ex, [.int .i64 ak.kind, .int .i64 (placeF now ak), .nsl]⟩ := blk_upd_same _ _
  have h35 : p3 ≠ p5 := fun e => by have := congrArg Pos.nat e; omega
  have b3 := k5.old _ _ b3 fun e => h35 (Pos.nat_inj e)
  have n5 : (σ4.upd p5 ⟨0, .ex, [.int .i64 ak.kind, .int .i64 (placeF now ak), .nsl]⟩).next = σ4.next := rfl
  generalize σ4.upd p5 ⟨0, .ex, [.int .i64 ak.kind, .int .i64 (placeF now ak), .nsl]⟩ = σ5 at *
  have k05 : Keep0 σ σ5 := k4.then ho k5 fun x hx e => by rw [hp3] at hx; omega
  have nle : p5.nat < σ5.next.nat := by have := k3.next; rw [n5, n4]; omega
  have hGp : ∀ x, G x → x < p3.nat := fun x hx => by have := h.wl.gl x hx; rw [hp3] at this; exact this
  -- the records that are handed on
  have fin : ∀ (E : En) (σ6 : S) (rs : List (List Nat)) (r5 : AVal) (m5 : Nat), Keep0 σ σ6 → (k = 1 ∨ ((k = 2 ∨ k = 3) ∧ rs = [])) → (rs.length ≤ min 6 ak.recs.length ∧ ∀ r ∈ rs, Bytes r ∧ r.length ≤ 600) → σ6.blk p3 = some ⟨0, .ex, ak.cells w⟩ → σ6.blk p5 = some ⟨0, .ex, [.int .i64 ak.kind, .int .i64 (placeF now ak), r5]⟩ → SsAt σ6 r5 rs m5 → p3.nat ≤ m5 → E 0 = .ptr g 0 → E 3 = .ptr p3 0 → E 5 = .ptr p5 0 → f23.J1 (WF tab) Q E σ6 := by
    intro E σ6 rs r5 m5 k6 hkr hrs c3 c5 s5 hm5 e0 e3 e5
    rw [hkk] at c5
    exact call_c ht ho0 (hk0.trans k6) hy (h.k0 ho k6) hp ha hkr hkk hpl ⟨by have := hrs.1; omega, hrs.2⟩ c3 c5 s5 (fun _ hg => by have := hGp _ hg; omega) (fun hg => by have := hGp _ hg; omega) e0 e3 e5 ⟨by have := hrs.1; omega, hbd.2⟩ hQ
  have loop : ∀ (n : Nat) (E : En) (σ6 : S) (i : Nat) (r5 : AVal) (m5 : Nat), Keep0 σ σ6 → i + n = min 6 ak.recs.length → (k ≠ 1 → i = 0) → σ6.blk p3 = some ⟨0, .ex, ak.cells w⟩ → σ6.blk p5 = some ⟨0, .ex, [.int .i64 ak.kind, .int .i64 (placeF now ak), r5]⟩ → GrAt σ6 r5 1 (selF i ak.recs).length (strs (selF i ak.recs)) m5 → p3.nat ≤ m5 → m5 ≠ p3.nat → m5 ≠ p5.nat → E 0 = .ptr g 0 → E 3 = .ptr p3 0 → E 5 = .ptr p5 0 → E 6 = .int .i64 (i : Int) → f23.L0 (WF tab) Q E σ6 := by
    intro n
    induction n with
    | zero =>
      intro E σ6 i r5 m5 k6 hi hk1 c3 c5 g5 q1 q2 q3 e0 e3 e5 e6
      refine f23.p0_of ?_
      unfold f23.p0
      rw [e3, e6]
      have hw6 := hw.k0 k6
      have done : ∀ E : En, E 0 = .ptr g 0 → E 3 = .ptr p3 0 → E 5 = .ptr p5 0 → f23.J1 (WF tab) Q E σ6 := fun E e0 e3 e5 => by
        refine fin E σ6 (selF i ak.recs) r5 m5 k6 ?_ ⟨by have := (selF_ok (n := i) hb).1; omega, (selF_ok hb).2⟩ c3 c5 g5.sl q1 e0 e3 e5
        by_cases hk2 : k = 1
        · exact .inl hk2
        · exact .inr ⟨by omega, by rw [hk1 hk2]; rfl⟩
      refine Som_of (vField0 _ _ _) (Som_of (ld c3 rfl) (Som_of hw6.len (Som_of (bin_lss _ _ _ _) ?_)))
      by_cases hl : (i : Int) < (ak.recs.length : Int)
      · rw [decide_eq_true hl]
        refine Sq_of rfl rfl (Sq_of rfl (bin_lss _ _ _ _) (Som_of rfl ?_))
        rw [decide_eq_false (show ¬ (i : Int) < 6 by omega)]
        refine Som_of rfl (Som_of rfl (Som_of rfl (Som_of (v := .bool false) rfl ?_)))
        rw [WIf_false]
        exact done _ (by simp [e0]) (by simp [e3]) (by simp [e5])
      · rw [decide_eq_false hl]
        refine Som_of rfl (Som_of rfl (Som_of (v := .bool false) rfl (Som_of rfl (Som_of rfl (Som_of rfl (Som_of (v := .bool false) rfl ?_))))))
        rw [WIf_false]
        exact done _ (by simp [e0]) (by simp [e3]) (by simp [e5])
    | succ n ih =>
      intro E σ6 i r5 m5 k6 hi hk1 c3 c5 g5 q1 q2 q3 e0 e3 e5 e6
      refine f23.p0_of ?_
      unfold f23.p0
      rw [e3, e5, e6]
      have hw6 := hw.k0 k6
      have hil : i < ak.recs.length := by omega
      refine Som_of (vField0 _ _ _) (Som_of (ld c3 rfl) (Som_of hw6.len (Som_of (bin_lss _ _ _ _) ?_)))
      rw [decide_eq_true (show (i : Int) < (ak.recs.length : Int) by omega)]
      refine Sq_of rfl rfl (Sq_of rfl (bin_lss _ _ _ _) (Som_of rfl ?_))
      rw [decide_eq_true (show (i : Int) < 6 by omega)]
      refine Sq_of rfl (vField0 _ _ _) (Sq_of rfl (ld c3 rfl) (Sq_of rfl (bin_eql _ _ _ _) (Som_of rfl ?_)))
      refine WIf_dec (fun hk2 => ?_) (fun hk2 => ?_)
      case refine_2 =>
        have hk3 : k ≠ 1 := fun e => hk2 (by rw [hkk, e]; rfl)
        have hi0 := hk1 hk3
        subst hi0
        exact fin _ σ6 [] r5 m5 k6 (.inr ⟨by omega, rfl⟩) ⟨Nat.zero_le _, fun r hr => by cases hr⟩ c3 c5 g5.sl q1 (by simp [e0]) (by simp [e3]) (by simp [e5])
      obtain ⟨ad, a1, a2⟩ := hw6.strAt (k := i) (List.getElem?_eq_getElem hil)
      have hsel := selF_succ hil
      refine Som_of (vField0 _ _ _) (Som_of (ld c3 rfl) (Som_of a1 (Som_of a2 (Som_of (vLenStr_str _) (Som_of (bin_leq _ _ _ _) ?_)))))
      have hk1' : k ≠ 1 → i + 1 = 0 := fun h => absurd hk2 (by rw [hkk]; omega)
      refine WIf_dec (fun hle => ?_) (fun hgt => ?_)
      · have kb : Keep0 σ6 (σ6.bumpT 11) := Keep.bump k6.ok 11
        obtain ⟨ad', a1', a2'⟩ := (hw6.k0 kb).strAt (k := i) (List.getElem?_eq_getElem hil)
        refine Som_of (vField0 _ _ _) (Som_of (ld (kb.blk c5) rfl) (Som_of (vField0 _ _ _) (Som_of (ld (kb.blk c3) rfl) (Som_of a1' (Som_of a2' ?_)))))
        obtain ⟨σ7, es7, k7, x7⟩ := one_str k6.ok (n := 11) (j := 7) (by omega) (ak.recs[i])
        refine Alb_of (show aSliceV 1 [AVal.str []] 1 [(0, 1, .str (ak.recs[i]))] = some (⟨1, .ex, [.str (ak.recs[i])]⟩, fun p => .sl p 0 1 1) from rfl) ?_
        rw [← es7]
        have g7 := g5.keep (M := fun _ => False) (fun h => h) k7
        have hsl := (selF_ok (n := i) hb).1
        obtain ⟨v8, σ8, m8, a8, g8, k8, l8⟩ := append_ss k7.ok g7 x7 (by show (selF i ak.recs).length + 1 ≤ _; omega)
        refine Eff_of a8 (Som_of (vField0 _ _ _) ?_)
        have d3 := k8.old _ _ (k7.blk c3) fun e => q2 (Eq.symm e)
        have d5 := k8.old _ _ (k7.blk c5) fun e => q3 (Eq.symm e)
        refine Eff_of (store1_of d5 (by simp) g8.sl.cells) (Som_of (bin_add _ _ _ _) ?_)
        rw [wrap_i64_in (n := (i : Int) + 1) (by omega) (by omega)]
        have k67 : Keep0 σ σ7 := k6.trans k7
        have k08 : Keep0 σ σ8 := k67.then ho k8 fun x hx e => by rw [hp3] at hx; omega
        have k9 : Keep (fun x => x = p5.nat) σ8 (σ8.upd p5 ⟨0, .ex, [.int .i64 ak.kind, .int .i64 (placeF now ak), v8]⟩) := Keep.upd k08.ok d5 rfl
        have b9 : (σ8.upd p5 ⟨0, .ex, [.int .i64 ak.kind, .int .i64 (placeF now ak), v8]⟩).blk p5 = some ⟨0, .ex, [.int .i64 ak.kind, .int .i64 (placeF now ak), v8]⟩ := blk_upd_same _ _
        have hp7 : p3.nat < σ7.next.nat ∧ p5.nat < σ7.next.nat := ⟨k67.ok.lt (k7.blk c3), k67.ok.lt (k7.blk c5)⟩
        have hm8 : p3.nat ≤ m8 ∧ m8 ≠ p3.nat ∧ m8 ≠ p5.nat := by
          rcases l8 with e | e
          · rw [e]; exact ⟨q1, q2, q3⟩
          · omega
        have k09 : Keep0 σ (σ8.upd p5 ⟨0, .ex, [.int .i64 ak.kind, .int .i64 (placeF now ak), v8]⟩) := k08.then ho k9 fun x hx e => by rw [hp3] at hx; omega
        have d3' := k9.old _ _ d3 fun e => h35 (Pos.nat_inj e)
        have g9 := g8.keep (M := fun x => x = p5.nat) hm8.2.2 k9
        rw [if_pos (show (ak.recs[i]).length ≤ 600 by omega)] at hsel
        rw [← hsel] at g9
        refine ih _ _ (i + 1) v8 m8 k09 (by omega) hk1' d3' b9 g9 hm8.1 hm8.2.1 hm8.2.2 (by simp [e0]) (by simp [e3]) (by simp [e5]) (by simp)
      · refine Som_of (bin_add _ _ _ _) ?_
        rw [wrap_i64_in (n := (i : Int) + 1) (by omega) (by omega)]
        rw [if_neg (show ¬ (ak.recs[i]).length ≤ 600 by omega)] at hsel
        refine ih _ σ6 (i + 1) r5 m5 k6 (by omega) hk1' c3 c5 (by rw [hsel]; exact g5) q1 q2 q3 (by simp [e0]) (by simp [e3]) (by simp [e5]) (by simp)
  exact loop (min 6 ak.recs.length) _ σ5 0 .nsl (p5.nat + 1) k05 (by omega) (fun _ => rfl) b3 b5 (by show GrAt σ5 .nsl 1 (selF 0 ak.recs).length _ _; exact GrAt.nil _ _ _) (by omega) (by omega) (by omega) (by simp) (by simp) (by simp) (by simp)
end
end Go.Am
namespace Go.Am
section
variable {tab : Nat → Option PFn} {σ σ' : S} {Q : AVal → S → Prop} {G G' M M' N : Nat → Prop} {g l d : Pos} {L L' : Lg} {D D' : Dk} {rv rv' nv sv cv : AVal} {mr mr' nm sm mc : Nat} {now safe : Rw} {cs : List Cl} {cc : List AVal} {dead : Bool} {q a : Nat} {e : Int}
theorem open_row {ag : Nat} {X : Rw → Prop} (hag : 1 ≤ ag) (h : Img ag D.quota D.files X) (hl : D.files.length = 64) (hsf : D.safe = D.files) (hw : D.wait = []) (hoff : D.off = false) (hq : D.quota ≤ 1048576) {L' : Lg} {D' : Dk} (ho : OpenS D L' D') :
    Wel ag D' L' (fun x => x = L'.row) ∧ D'.quota = D.quota ∧ X L'.row := by
  obtain ⟨h1, h2⟩ := pick_res h
  have h3 := held_img h1 hl fun i => .inl rfl
  obtain ⟨h4, h5⟩ := (open_res hag h3 hl hsf hw hoff hq).1 L' D' ho
  have h6 := h4.x
  have h6 : L'.row = (openL D).row := h6
  rw [← h6] at h2 h4
  exact ⟨h4, h5, h2⟩
theorem DkOk.of {f : List (List Nat)} (hq : q ≤ 1048576) (hf : FsOk f) {n : Nat} (hn : n ≤ 1000) : DkOk ({ Dk.of q f f with armed := n }) :=
  ⟨hq, hf.2, hf.2, fun c hc => (by cases hc), Nat.zero_le _, by show n ≤ _; omega⟩
structure Fresh (σ σ1 : S) (G G1 : Nat → Prop) (d1 : Pos) (D1 : Dk) (pf ps : Pos) (fv sv : List AVal) (mw : Nat) : Prop where
  dk : DkAt σ1 G1 d1 D1 pf ps fv sv .nsl [] mw
  k : Keep0 σ σ1
  g : Gr σ G G1
  y : ∀ x, dM d1 pf ps mw x → σ.next.nat ≤ x
theorem reopen_end (ht : Tab tab) {σ0 : S} (ho0 : Ok σ0) (hk0 : Keep0 σ0 σ) (hy : ∀ x, G x → σ0.next.nat ≤ x) (h : GmAt σ g G M l d L D rv mr now safe nv sv cv mc cs cc dead q) (hp : PInv a D L now safe cs dead q) (ha : a ≤ 980) {σ1 : S} {G1 : Nat → Prop} {d1 pf ps : Pos} {f : List (List Nat)} {fv sv1 : List AVal} {mw : Nat}
    (hf : Fresh σ σ1 G G1 d1 (Dk.of q f f) pf ps fv sv1 mw) (hfs : FsOk f) (him : Img (a + 1) q f (mayR safe cs)) {E : En} (e0 : E 0 = .ptr g 0) (e7 : E 7 = .ptr d1 0)
    (hQ : ∀ σ' now', Gm σ0 σ' g (a + 7) q now' now' [] false → Q (.bool true) σ') : f26.J0 (WF tab) Q E σ1 := by
  refine f26.p0_of ?_
  unfold f26.p0
  rw [e0, e7]
  have hq2 := hp.q2
  have hok1 : DkOk (Dk.of q f f) := DkOk.of hq2 hfs (Nat.zero_le _)
  have ho := hk0.ok
  refine open_o ht hf.k.ok hf.dk hok1 (by show 0 + 100 < _; omega) (fun hoff => ?_) (fun D' L' l1 σ2 G2 M2 rv2 mr2 hoe hw r hl1 => ?_) (fun D' L' l1 σ2 G2 M2 rv2 mr2 hos hst hw r hl1 => ?_)
  · cases hoff
  · exfalso
    exact ((open_res (D := Dk.of q f f) (by omega) him hfs.1 rfl rfl rfl hq2).2 D' hoe).2.2.2 rfl
  obtain ⟨hW, hWq, hX⟩ := open_row (D := Dk.of q f f) (by omega) him hfs.1 rfl rfl rfl hq2 hos
  obtain ⟨st, dst⟩ := hos.st (w := 40) hst (fun D1 h1 => trim_st 40 8 0 _ D1 h1 ⟨hok1, Nat.zero_le _⟩ (by omega) (by omega))
  have hWq : D'.quota = q := hWq
  have hlen := may_len hX
  have hlen : L'.recs.length ≤ safe.recs.length + totL cs := hlen
  have htl := hp.tl
  have hyf := hf.y
  have k02 : Keep0 σ σ2 := hf.k.then ho r.k fun x hx hm => by have := hyf x hm; omega
  have hM2 : ∀ x, M2 x → σ.next.nat ≤ x := fun x hx => by
    rcases r.s x hx with hh | hh
    · exact hyf x hh
    · have := hf.k.next; omega
  have hG2 : Gr σ G G2 := ⟨fun x hx => r.g.1 x (hf.g.1 x hx), fun x hx hg => hf.g.2 x hx (r.g.2 x (by have := hf.k.next; omega) hg)⟩
  refine Som_of rfl (Som_of rfl (Som_of (eql_pn _ _) ?_))
  refine Sq_of rfl rfl (Sq_of rfl (bin_neq _ _ _ _) (Som_of rfl ?_))
  rw [decide_eq_false (show ¬ (0 : Int) ≠ 0 by omega), WIf_false]
  have s1 := st.inn.lo
  refine row_c ht r.k.ok hw.lg st.ok s1 (by omega) fun v m σ3 hv k3 hm1 hm2 => ?_
  have hw3 := hw.keep0 k3
  refine Som_of rfl (Som_of rfl ?_)
  refine Ala_of (show aAllocV [AVal.int .i64 0, .nsl] = some (⟨0, .ex, [.int .i64 0, .nsl]⟩, fun p => .ptr p 0) from rfl) ?_
  obtain ⟨k4, b4, n4⟩ := box_new k3.ok [AVal.int .i64 0, .nsl]
  have n3 := k3.next
  have n23 := r.k.next
  generalize hp12 : σ3.next = p12 at *
  generalize σ3.new ⟨0, .ex, [AVal.int .i64 0, .nsl]⟩ = σ4 at *
  have r4 : RbAt σ4 p12 ⟨0, []⟩ .nsl 0 := ⟨b4, SlAt.nil σ4 1 0⟩
  have hv4 := hv.k0 k4
  obtain ⟨σ5, es5, r5, k5, n5⟩ := r4.set (r' := L'.row) k4.ok hv4 (fun hz => by have := hm2 hz; omega)
  refine Eff_of es5 (Som_of (un_not _) ?_)
  rw [show (!true) = false from rfl]
  have k25 : Keep0 σ2 σ5 := (k3.trans k4).then r.k.ok k5 fun x hx e => by omega
  have kb : Keep0 σ5 (σ5.bumpT 15) := Keep.bump k25.ok 15
  have k26 : Keep0 σ2 (σ5.bumpT 15) := k25.trans kb
  have r6 := r5.k0 kb
  generalize σ5.bumpT 15 = σ6 at *
  have k06 : Keep0 σ σ6 := k02.trans k26
  have h6 := h.k0 ho k06
  obtain ⟨sm, ss, _⟩ := h6.safe
  refine Sq_of rfl rfl (Sq_of rfl rfl (Sq_of rfl (vField0 _ _ _) (Sq_of rfl (ldN (n := 2) (xs := [.int .i64 (safe.first : Int), sv]) h6.blk (by simp [gmCells]) rfl) (Sq_of rfl rfl (Sq_of rfl rfl (Sq_of rfl (vField0 _ _ _) (Sq_of rfl (ld h6.blk rfl) (Sq_of rfl r6.ld (GE_t rfl ?_)))))))))
  refine may_c ht k06.ok ss r6.2 h6.calls hp.ok (by have := hp.cl; have := hp.ab; omega) hX fun σ7 k7 => ?_
  refine Sq_of rfl (un_not _) (Som_of rfl ?_)
  rw [show (!true) = false from rfl, WIf_false]
  have kb8 : Keep0 σ7 (σ7.bumpT 28) := Keep.bump k7.ok 28
  have k28 : Keep0 σ2 (σ7.bumpT 28) := (k26.trans k7).trans kb8
  have r8 := r6.k0 (k7.trans kb8)
  generalize σ7.bumpT 28 = σ8 at *
  have k08 : Keep0 σ σ8 := k02.trans k28
  have h8 := h.k0 ho k08
  have hw8 := hw.keep0 k28
  have hpg : p12 ≠ g := fun e => by
    have h1 := ho.lt h.blk
    rw [← e] at h1
    have := k02.next
    omega
  have hgn : g.nat < σ.next.nat := ho.lt h.blk
  -- the game's block, field by field
  have put : ∀ (σa : S) (cs0 : List AVal) (o : Nat) (x : AVal), Ok σa → σa.blk g = some ⟨0, .ex, cs0⟩ → RbAt σa p12 L'.row v m → Keep (fun y => y = g.nat) σa (σa.upd g ⟨0, .ex, cs0.set o x⟩) ∧ (σa.upd g ⟨0, .ex, cs0.set o x⟩).blk g = some ⟨0, .ex, cs0.set o x⟩ := fun σa cs0 o x hoa hba _ => ⟨Keep.upd hoa hba rfl, blk_upd_same _ _⟩
  have mgne : L'.row.recs ≠ [] → m ≠ g.nat := fun hz => by have := k02.next; omega
  have rkeep : ∀ (σa σb : S), RbAt σa p12 L'.row v m → Keep (fun y => y = g.nat) σa σb → RbAt σb p12 L'.row v m := fun σa σb hr hk => ⟨hk.old _ _ hr.1 fun e => hpg (Pos.nat_inj e), hr.2.keep (M := fun y => y = g.nat) (fun hz e => mgne (fun h0 => by rw [h0] at hz; exact hz rfl) e) hk⟩
  refine Som_of r8.ld (Som_of r8.ld (Som_of rfl (Som_of (vField0 _ _ _) (Eff_of (store1_of h8.blk (by simp [gmCells]) rfl) ?_))))
  have ka : Keep (fun y => y = g.nat) σ8 (σ8.upd g ⟨0, .ex, (gmCells d l now safe nv sv cv dead q).set (0 + 0) (.ptr d1 0)⟩) := Keep.upd k08.ok h8.blk rfl
  have ba : (σ8.upd g ⟨0, .ex, (gmCells d l now safe nv sv cv dead q).set (0 + 0) (.ptr d1 0)⟩).blk g = some ⟨0, .ex, gmCells d1 l now safe nv sv cv dead q⟩ := blk_upd_same _ _
  have ra := rkeep _ _ r8 ka
  generalize σ8.upd g ⟨0, .ex, (gmCells d l now safe nv sv cv dead q).set (0 + 0) (.ptr d1 0)⟩ = σa at *
  refine Sure_of ra.sm (Sure_of ra.sm ?_)
  refine Som_of rfl (Som_of (vField0 _ _ _) (Eff_of (store1_of ba (by simp [gmCells]) rfl) ?_))
  have kb' : Keep (fun y => y = g.nat) σa (σa.upd g ⟨0, .ex, (gmCells d1 l now safe nv sv cv dead q).set (0 + 1) (.ptr l1 0)⟩) := Keep.upd ka.ok ba rfl
  have bb : (σa.upd g ⟨0, .ex, (gmCells d1 l now safe nv sv cv dead q).set (0 + 1) (.ptr l1 0)⟩).blk g = some ⟨0, .ex, gmCells d1 l1 now safe nv sv cv dead q⟩ := blk_upd_same _ _
  have rb := rkeep _ _ ra kb'
  generalize σa.upd g ⟨0, .ex, (gmCells d1 l now safe nv sv cv dead q).set (0 + 1) (.ptr l1 0)⟩ = σb at *
  refine Sure_of rb.sm (Sure_of rb.sm ?_)
  refine Som_of rfl (Som_of (vField0 _ _ _) (Eff_of (storeN_of (xs := [.int .i64 (L'.row.first : Int), v]) bb rfl (by omega) (by simp [gmCells])) ?_))
  have ec : σb.upd g ⟨0, .ex, (gmCells d1 l1 now safe nv sv cv dead q).take (0 + 2) ++ [.int .i64 (L'.row.first : Int), v] ++ (gmCells d1 l1 now safe nv sv cv dead q).drop (0 + 2 + 2)⟩ = σb.upd g ⟨0, .ex, gmCells d1 l1 L'.row safe v sv cv dead q⟩ := rfl
  rw [ec]
  have kc : Keep (fun y => y = g.nat) σb (σb.upd g ⟨0, .ex, gmCells d1 l1 L'.row safe v sv cv dead q⟩) := Keep.upd kb'.ok bb rfl
  have bc : (σb.upd g ⟨0, .ex, gmCells d1 l1 L'.row safe v sv cv dead q⟩).blk g = some ⟨0, .ex, gmCells d1 l1 L'.row safe v sv cv dead q⟩ := blk_upd_same _ _
  have rc := rkeep _ _ rb kc
  generalize σb.upd g ⟨0, .ex, gmCells d1 l1 L'.row safe v sv cv dead q⟩ = σc at *
  refine Sure_of rc.sm ?_
  refine Som_of rfl (Som_of (vField0 _ _ _) (Eff_of (storeN_of (xs := [.int .i64 (L'.row.first : Int), v]) bc rfl (by omega) (by simp [gmCells])) ?_))
  have ed : σc.upd g ⟨0, .ex, (gmCells d1 l1 L'.row safe v sv cv dead q).take (0 + 4) ++ [.int .i64 (L'.row.first : Int), v] ++ (gmCells d1 l1 L'.row safe v sv cv dead q).drop (0 + 4 + 2)⟩ = σc.upd g ⟨0, .ex, gmCells d1 l1 L'.row L'.row v v cv dead q⟩ := rfl
  rw [ed]
  have kd : Keep (fun y => y = g.nat) σc (σc.upd g ⟨0, .ex, gmCells d1 l1 L'.row L'.row v v cv dead q⟩) := Keep.upd kc.ok bc rfl
  have bd : (σc.upd g ⟨0, .ex, gmCells d1 l1 L'.row L'.row v v cv dead q⟩).blk g = some ⟨0, .ex, gmCells d1 l1 L'.row L'.row v v cv dead q⟩ := blk_upd_same _ _
  have rd := rkeep _ _ rc kd
  generalize σc.upd g ⟨0, .ex, gmCells d1 l1 L'.row L'.row v v cv dead q⟩ = σd at *
  refine Som_of rfl (Som_of (vField0 _ _ _) (Eff_of (store1_of bd (by simp [gmCells]) rfl) ?_))
  have ke : Keep (fun y => y = g.nat) σd (σd.upd g ⟨0, .ex, (gmCells d1 l1 L'.row L'.row v v cv dead q).set (0 + 6) .nsl⟩) := Keep.upd kd.ok bd rfl
  have be : (σd.upd g ⟨0, .ex, (gmCells d1 l1 L'.row L'.row v v cv dead q).set (0 + 6) .nsl⟩).blk g = some ⟨0, .ex, gmCells d1 l1 L'.row L'.row v v .nsl dead q⟩ := blk_upd_same _ _
  have re := rkeep _ _ rd ke
  generalize σd.upd g ⟨0, .ex, (gmCells d1 l1 L'.row L'.row v v cv dead q).set (0 + 6) .nsl⟩ = σe at *
  refine Som_of rfl (Som_of (vField0 _ _ _) (Eff_of (store1_of be (by simp [gmCells]) rfl) ?_))
  have kf : Keep (fun y => y = g.nat) σe (σe.upd g ⟨0, .ex, (gmCells d1 l1 L'.row L'.row v v .nsl dead q).set (0 + 7) (.bool false)⟩) := Keep.upd ke.ok be rfl
  have bf : (σe.upd g ⟨0, .ex, (gmCells d1 l1 L'.row L'.row v v .nsl dead q).set (0 + 7) (.bool false)⟩).blk g = some ⟨0, .ex, gmCells d1 l1 L'.row L'.row v v .nsl false q⟩ := blk_upd_same _ _
  have rf := rkeep _ _ re kf
  generalize σe.upd g ⟨0, .ex, (gmCells d1 l1 L'.row L'.row v v .nsl dead q).set (0 + 7) (.bool false)⟩ = σf at *
  rw [Ret_1 rfl]
  have kall : Keep (fun y => y = g.nat) σ8 σf := ((((ka.trans kb').trans kc).trans kd).trans ke).trans kf
  have hGg : ∀ x, x = g.nat → G2 x := fun x hx => by rw [hx]; exact hG2.1 _ h.gg
  have hgl2 := hw.gl
  have hwf : WL σf G2 l1 d1 L' D' rv2 mr2 M2 := hw8.keepG k08.ok kall hGg (fun x hx hm => by have := hM2 x hm; omega) (Gr.refl _ _) fun x hx => by
    have := hgl2 x hx; have := k28.next; have := kall.next; omega
  have hmG : L'.row.recs ≠ [] → ¬ G2 m := fun _ hg => by have := hgl2 m hg; omega
  have kf0 : Keep0 σ0 σf := (hk0.trans k08).then ho0 kall fun x hx e => by
    have := hy _ h.gg
    have e : x = g.nat := e
    omega
  refine hQ σf L'.row ⟨G2, M2, l1, d1, L', D', rv2, mr2, v, v, .nsl, mc, [], ⟨bf, hwf, ⟨m, rf.2, hmG⟩, ⟨m, rf.2, hmG⟩, GrAt.nil _ _ _, fun j c hj => by simp at hj, hG2.1 _ h.gg, hG2.1 _ h.gc, fun hm => by have := hM2 _ hm; omega, fun hm => by have := hM2 _ hm; have := h.wl.gl _ h.gc; omega, h.n3⟩, ?_, kf0, fun x hx => ?_⟩
  · have hab := hp.ab
    refine ⟨hWq, hq2, rfl, st.mono (by omega), dst.mono (by omega), ?_, ?_, Nat.zero_le _, by omega, ?_, fun _ => ⟨hW.up (by omega), rfl⟩, fun hx => by cases hx⟩
    · have e1 := st.inn.hi
      exact ⟨by show L'.first ≤ _; omega, by show L'.recs.length ≤ _; omega, st.ok.recs⟩
    · show L'.recs.length ≤ _; omega
    · show L'.recs.length + 0 ≤ _; omega
  · by_cases hlt : x < σ.next.nat
    · exact hy x (hG2.2 x hlt hx)
    · have := hk0.next; omega
end
end Go.Am
namespace Go.Am
section
variable {tab : Nat → Option PFn} {σ σ' : S} {Q : AVal → S → Prop} {G G' M M' N : Nat → Prop} {g l d : Pos} {L L' : Lg} {D D' : Dk} {rv rv' nv sv cv : AVal} {mr mr' nm sm mc : Nat} {now safe : Rw} {cs : List Cl} {cc : List AVal} {dead : Bool} {q a : Nat} {e : Int}
theorem arm_w (ht : Tab tab) (ho : Ok σ) (h : WL σ G l d L D rv mr M) {n : Nat} (hQ : ∀ v, Then σ G M l d L (D.arm n) (Q v)) : WF tab 25 [.ptr d 0, .int .i64 (n : Int)] σ Q := by
  have hMG := h.hG
  have hgl := h.gl
  obtain ⟨pf, ps, fv, sv, wv, wc, mw, h, e⟩ := h
  refine arm_d ht ho h.dk fun v σ' hd k => ?_
  have kM : Keep M σ σ' := k.mono fun x hx => by rw [e]; exact .inr (.inl hx)
  refine hQ v σ' G M rv mr ⟨pf, ps, fv, sv, wv, wc, mw, ⟨h.lg.keep k fun x hx hx' => h.ap x hx (.inl hx'), hd, h.ap⟩, e⟩ kM (Gr.refl σ G) (Sub.refl σ M)
theorem DkOk.arm (h : DkOk D) {n : Nat} (hn : n ≤ 1000) : DkOk (D.arm n) := by
  unfold Dk.arm
  split
  · exact h
  · exact ⟨h.q, h.fl, h.sl, h.wl, h.wn, by show n ≤ _; omega⟩
theorem arm_same (D : Dk) (n : Nat) : (D.arm n).files = D.files ∧ (D.arm n).safe = D.safe ∧ (D.arm n).wait = D.wait ∧ (D.arm n).quota = D.quota ∧ (D.arm n).off = D.off := by
  unfold Dk.arm
  split
  · exact ⟨rfl, rfl, rfl, rfl, rfl⟩
  · exact ⟨rfl, rfl, rfl, rfl, rfl⟩
theorem PInv.arm (h : PInv a D L now safe cs dead q) {n : Nat} (hn : n ≤ 1000) : PInv a (D.arm n) L now safe cs dead q := by
  obtain ⟨h1, h2, h3, h4, h5⟩ := arm_same D n
  refine ⟨by rw [h4]; exact h.dq, h.q2, h.row, h.st, ⟨h.dk.ok.arm hn, by rw [h3]; exact h.dk.wn⟩, h.ok, h.nl, h.cl, h.ab, h.tl, fun hd => ?_, fun hd => ?_⟩
  · obtain ⟨w, e⟩ := h.alive hd
    exact ⟨⟨w.st.same h1 h2 h3 h4, w.pl, w.rl, by rw [h4]; exact w.q, by rw [h5]; exact w.off, w.ag⟩, e⟩
  · obtain ⟨w1, w2⟩ := h.gone hd
    refine ⟨by rw [h5]; exact w1, fun f hf => ?_⟩
    rw [h2, h3] at hf
    rw [h4]; exact w2 f hf
theorem PInv.lost (h : PInv a D L now safe cs dead q) : Lost (a + 1) D (mayR safe cs) := by
  cases hd : dead with
  | true => exact (h.gone hd).2
  | false => exact (h.alive hd).1.st.lost
theorem trim_ok : ∀ (n f : Nat) (D D' : Dk) (b : Bool), trim L n f D = (b, D') → DkOk D → f + n ≤ 64 → D.wait.length + n < 1000000000 → DkOk D' ∧ D'.wait.length ≤ D.wait.length + n
  | 0, f, D, D', b, h, hd, _, _ => by cases h; exact ⟨hd, Nat.le_refl _⟩
  | n + 1, f, D, D', b, h, hd, hf, hw => by
    unfold trim at h
    obtain ⟨c1, c2, c3, c4⟩ := count_same D
    split at h
    · rename_i hlt
      split at h
      · cases h; exact ⟨hd.count, by rw [c3]; omega⟩
      · have hcf : D.count.file f = D.file f := by unfold Dk.file; rw [c1]
        obtain ⟨g1, g2⟩ := trim_ok n (f + 1) _ D' b h (hd.count.cutF (by omega) (by rw [hcf]; omega) (Dk.file_ok hd.count f) (by rw [c3]; omega)) (by omega) (by
          show (D.count.wait ++ [_]).length + n < _
          rw [List.length_append, c3]; show D.wait.length + 1 + n < _; omega)
        refine ⟨g1, Nat.le_trans g2 ?_⟩
        show (D.count.wait ++ [_]).length + n ≤ _
        rw [List.length_append, c3]; show D.wait.length + 1 + n ≤ _; omega
    · obtain ⟨g1, g2⟩ := trim_ok n (f + 1) D D' b h hd (by omega) (by omega)
      exact ⟨g1, by omega⟩
theorem reopen_c (ht : Tab tab) {σ0 : S} (ho0 : Ok σ0) (h : Gm σ0 σ g a q now safe cs dead) (ha : a ≤ 980) {ak : Ak} {w : AVal} {n : Nat} (hn : n ≤ 100)
    (hQ : ∀ σ' now', Gm σ0 σ' g (a + 7) q now' now' [] false → Q (.bool true) σ') : WF tab 26 [.ptr g 0, ak.val w, .int .i64 (n : Int)] σ Q := by
  obtain ⟨G, M, l, d, L, D, rv, mr, nv, sv, cv, mc, cc, h, hp, hk0, hy⟩ := h
  have ho := hk0.ok
  have hq2 := hp.q2
  have hdq := hp.dq
  refine f26_wf ht.t26 ?_
  unfold f26
  refine Ala_of (show aBoxV (ak.val w) = some (⟨0, .ex, ak.cells w⟩, fun p => .ptr p 0) from rfl) ?_
  obtain ⟨k1, b4, n1⟩ := box_new ho (ak.cells w)
  generalize hp4 : σ.next = p4 at *
  have hpn : p4.nat = σ.next.nat := by rw [hp4]
  generalize σ.new ⟨0, .ex, ak.cells w⟩ = σ1 at *
  have kb : Keep0 σ1 (σ1.bumpT 10) := Keep.bump k1.ok 10
  have k2 : Keep0 σ (σ1.bumpT 10) := k1.trans kb
  have b4 := kb.blk b4
  generalize σ1.bumpT 10 = σ2 at *
  have h2 := h.k0 ho k2
  have n2 := k2.next
  refine Som_of rfl (Som_of (vField0 _ _ _) (Som_of (ld h2.blk rfl) (Som_of (vField0 _ _ _) (Som_of (ld b4 rfl) (Som_of (vField0 _ _ _) (Som_of (ld b4 rfl) ?_))))))
  obtain ⟨pf0, ps0, fv0, sv0, wv0, wc0, mw0, hwl, _⟩ := h2.wl
  refine crash_c ht k2.ok hwl.dk hp.dk.ok fun d' pf' ps' fv' sv' mw' G' f σ3 hcr hfs hdk3 k3 g3 y1 y2 y3 y4 => ?_
  have him : Img (a + 1) q f (mayR safe cs) := by
    have := hp.lost f hcr
    rw [hdq] at this; exact this
  rw [hdq] at hdk3
  have k03 : Keep0 σ σ3 := k2.trans k3
  have hf3 : Fresh σ σ3 G G' d' (Dk.of q f f) pf' ps' fv' sv' mw' := ⟨hdk3, k03, ⟨g3.1, fun x hx hg => g3.2 x (by omega) hg⟩, fun x hx => by
    rcases hx with hx | hx | hx | hx <;> omega⟩
  have b4 := k3.blk b4
  refine Som_of (eql_pn _ _) ?_
  rw [WIf_false]
  refine Som_of (bin_gtr _ _ _ _) ?_
  refine WIf_dec (fun hgt => ?_) (fun hle => ?_)
  case refine_2 => exact reopen_end ht ho0 hk0 hy h hp ha hf3 hfs him (by simp) (by simp) hQ
  -- the power goes while it is opened
  have hok3 : DkOk (Dk.of q f f) := DkOk.of hq2 hfs (Nat.zero_le _)
  refine arm_d ht k3.ok hdk3 fun v σ4 hd4 k4 => ?_
  have hoka := hok3.arm (n := n) (by omega)
  obtain ⟨s1, s2, s3, s4, s5⟩ := arm_same (Dk.of q f f) n
  have hd4ge : ∀ x, x = d'.nat → σ2.next.nat ≤ x := fun x hx => by omega
  have k04 : Keep0 σ σ4 := k03.then ho k4 fun x hx e => by omega
  have b4 : σ4.blk p4 = some ⟨0, .ex, ak.cells w⟩ := k4.old _ _ b4 fun e => by
    have e : p4.nat = d'.nat := e
    have := k2.ok.lt (show σ2.blk p4 = some ⟨0, .ex, ak.cells w⟩ by assumption)
    omega
  have n4 := k4.next
  have n3 := k3.next
  have himA : Img (a + 1) ((Dk.of q f f).arm n).quota ((Dk.of q f f).arm n).files (mayR safe cs) := by rw [s4, s1]; exact him
  have hor := open_res (D := (Dk.of q f f).arm n) (ag := a + 1) (by omega) himA (by rw [s1]; exact hfs.1) (by rw [s2, s1]; rfl) (by rw [s3]; rfl) (by rw [s5]; rfl) (by rw [s4]; exact hq2)
  -- the second crash, and Open
  have again : ∀ (E' : En) (σ5 : S) (G5 M5 : Nat → Prop) (l5 : Pos) (L5 : Lg) (D5 : Dk) (rv5 : AVal) (mr5 : Nat) (K : AVal → S → Prop), WL σ5 G5 l5 d' L5 D5 rv5 mr5 M5 → Rel3 σ4 G' (dM d' pf' ps' mw') σ5 G5 M5 → Lost (a + 1) D5 (mayR safe cs) → D5.quota = q → DkOk D5 →
      (∀ d6 σ6, (∀ E6 : En, E6 0 = .ptr g 0 → E6 7 = .ptr d6 0 → f26.J0 (WF tab) Q E6 σ6) → K (.ptr d6 0) σ6) → WF tab 46 [.ptr d' 0, .int .i64 ak.torn, .int .i64 ak.keep] σ5 K := by
    intro E' σ5 G5 M5 l5 L5 D5 rv5 mr5 K hw5 r5 hlo hq5 hok5 hK
    have n5 := r5.k.next
    obtain ⟨pf5, ps5, fv5, sv5, wv5, wc5, mw5, hwl5, _⟩ := hw5
    have k05 : Keep0 σ σ5 := k04.then ho r5.k fun x hx hm => by
      rcases hm with hm | hm | hm | hm <;> omega
    refine crash_c ht r5.k.ok hwl5.dk hok5 fun d6 pf6 ps6 fv6 sv6 mw6 G6 f6 σ6 hcr6 hfs6 hdk6 k6 g6 z1 z2 z3 z4 => ?_
    have him6 : Img (a + 1) q f6 (mayR safe cs) := by
      have := hlo f6 hcr6
      rw [hq5] at this; exact this
    rw [hq5] at hdk6
    have n6 := k6.next
    refine hK d6 σ6 fun E6 e0 e7 => ?_
    refine reopen_end ht ho0 hk0 hy h hp ha (σ1 := σ6) (G1 := G6) ⟨hdk6, k05.trans k6, ⟨fun x hx => g6.1 x (r5.g.1 x (g3.1 x hx)), fun x hx hg => ?_⟩, fun x hx => ?_⟩ hfs6 him6 e0 e7 hQ
    · exact g3.2 x (by omega) (r5.g.2 x (by omega) (g6.2 x (by omega) hg))
    · rcases hx with hx | hx | hx | hx <;> omega
  have hcell : ∀ σ5 : S, Keep (fun x => ¬ x < σ2.next.nat) σ4 σ5 → σ5.blk p4 = some ⟨0, .ex, ak.cells w⟩ := fun σ5 k5 => k5.old _ _ b4 fun e => e (by
    have := k2.ok.lt (show σ2.blk p4 = some ⟨0, .ex, ak.cells w⟩ by assumption)
    exact this)
  have hdm : ∀ x, dM d' pf' ps' mw' x → ¬ x < σ2.next.nat := fun x hx => by rcases hx with hx | hx | hx | hx <;> omega
  refine open_o ht k4.ok hd4 hoka (by rw [s3]; show 0 + 100 < _; omega) (fun hoff => ?_) (fun D' L' l1 σ5 G5 M5 rv5 mr5 hoe hw r hl1 => ?_) (fun D' L' l1 σ5 G5 M5 rv5 mr5 hos hst hw r hl1 => ?_)
  · rw [s5] at hoff; cases hoff
  · obtain ⟨q1, q2, q3, _⟩ := hor.2 D' hoe
    have hokD : DkOk D' := by
      cases hoe with
      | trim h => exact (trim_ok 40 8 _ _ _ h hoka (by omega) (by rw [s3]; show 0 + 40 < _; omega)).1
      | sync h _ => exact (trim_ok 40 8 _ _ _ h hoka (by omega) (by rw [s3]; show 0 + 40 < _; omega)).1.count
      | anew _ _ hgt _ =>
        exfalso
        obtain ⟨hh, _⟩ := pick_res himA
        cases hh with
        | none e => rw [e] at hgt; exact absurd hgt (by show ¬ 2 * 0 + 4096 < 0; omega)
        | area A junk hk ho hA hr hn hs => omega
    have b5 := hcell σ5 (r.k.mono hdm)
    refine Som_of rfl (Som_of rfl (Som_of (bin_neq _ _ _ _) ?_))
    rw [decide_eq_true (show (11 : Int) ≠ 0 by omega)]
    refine Sq_of rfl rfl (Sq_of rfl (bin_neq _ _ _ _) (Sq_of rfl rfl (Sq_of rfl rfl (Sq_of rfl rfl (Sq_of rfl rfl (Som_of (v := .bool false) rfl ?_))))))
    rw [WIf_false]
    refine Som_of (vField0 _ _ _) (Som_of (ld b5 rfl) (Som_of (vField0 _ _ _) (Som_of (ld b5 rfl) ?_)))
    refine again E0 σ5 G5 M5 l1 L' D' rv5 mr5 _ hw r q2 (by rw [q3, s4]; rfl) hokD fun d6 σ6 hJ => ?_
    refine Som_of (eql_pn _ _) ?_
    rw [WIf_false]
    exact hJ _ (by simp) (by simp)
  · obtain ⟨q1, q2⟩ := hor.1 L' D' hos
    obtain ⟨_, dst⟩ := hos.st (w := 40) hst (fun D1 h1 => trim_st 40 8 0 _ D1 h1 ⟨hoka, by rw [s3]; exact Nat.zero_le _⟩ (by omega) (by omega))
    have b5 := hcell σ5 (r.k.mono hdm)
    refine Som_of rfl (Som_of rfl (Som_of (bin_neq _ _ _ _) ?_))
    rw [decide_eq_false (show ¬ (0 : Int) ≠ 0 by omega)]
    refine Som_of rfl (Som_of rfl (Som_of rfl (Som_of rfl (Som_of rfl (Som_of rfl (Som_of (v := .bool false) rfl ?_))))))
    rw [WIf_false]
    refine Som_of (vField0 _ _ _) (Som_of (ld b5 rfl) (Som_of (vField0 _ _ _) (Som_of (ld b5 rfl) ?_)))
    refine again E0 σ5 G5 M5 l1 L' D' rv5 mr5 _ hw r q1.st.lost (by rw [q2, s4]; rfl) dst.ok fun d6 σ6 hJ => ?_
    refine Som_of (eql_pn _ _) ?_
    rw [WIf_false]
    exact hJ _ (by simp) (by simp)
end
end Go.Am
namespace Go.Am
section
variable {tab : Nat → Option PFn} {σ σ' : S} {Q : AVal → S → Prop} {G G' M M' N : Nat → Prop} {g l d : Pos} {L L' : Lg} {D D' : Dk} {rv rv' nv sv cv : AVal} {mr mr' nm sm mc : Nat} {now safe : Rw} {cs : List Cl} {cc : List AVal} {dead : Bool} {q a : Nat} {e : Int}
theorem sames_of : ∀ {l : List AVal}, (∀ c ∈ l, same1 c c = true) → sames l l = true
  | [], _ => rfl
  | c :: l, h => by
    show (match same1 c c with | true => sames l l | false => false) = true
    rw [h c List.mem_cons_self]
    exact sames_of fun x hx => h x (List.mem_cons_of_mem _ hx)
theorem ask_same {ak : Ak} {w : AVal} {m : Nat} (hw : SsAt σ w ak.recs m) : same (ak.val w) (ak.val w) = true := by
  refine sames_of (l := ak.cells w) fun c hc => ?_
  simp only [Ak.cells, List.mem_cons, List.not_mem_nil, or_false] at hc
  rcases hc with rfl | rfl | rfl | rfl | rfl | rfl | rfl
  · exact same_int .i64 ak.kind
  · exact same_int .i64 ak.i
  · exact same_int .i64 ak.n
  · exact same_int .i64 ak.keep
  · exact same_int .i64 ak.torn
  · show beqB ak.raw ak.raw = true
    cases ak.raw <;> rfl
  · exact same1_sl _ hw
theorem Gm.k0 {σ0 : S} (h : Gm σ0 σ g a q now safe cs dead) (k : Keep0 σ σ') : Gm σ0 σ' g a q now safe cs dead := by
  obtain ⟨G, M, l, d, L, D, rv, mr, nv, sv, cv, mc, cc, h1, h2, h3, h4⟩ := h
  exact ⟨G, M, l, d, L, D, rv, mr, nv, sv, cv, mc, cc, h1.k0 h3.ok k, h2, h3.trans k, h4⟩
theorem Gm.up {σ0 : S} {b : Nat} (h : Gm σ0 σ g a q now safe cs dead) (hab : a ≤ b) (hb : b ≤ 1000) : Gm σ0 σ g b q now safe cs dead := by
  obtain ⟨G, M, l, d, L, D, rv, mr, nv, sv, cv, mc, cc, h1, h2, h3, h4⟩ := h
  exact ⟨G, M, l, d, L, D, rv, mr, nv, sv, cv, mc, cc, h1, h2.mono hab hb, h3, h4⟩
theorem Gm.ok {σ0 : S} (h : Gm σ0 σ g a q now safe cs dead) : Ok σ := by
  obtain ⟨_, _, _, _, _, _, _, _, _, _, _, _, _, _, _, h, _⟩ := h; exact h.ok
theorem sync_g (ht : Tab tab) {σ0 : S} (ho0 : Ok σ0) (h : Gm σ0 σ g a q now safe cs dead) (hQ : ∀ σ' safe' cs' dead', Gm σ0 σ' g a q now safe' cs' dead' → Q (.bool true) σ') :
    Som (vNilck (.ptr g 0)) fun t18 => Som (vFieldAddr 1 t18) fun t19 => Som (vLoad1 t19 σ) fun t20 => WF tab 20 [t20] σ fun t21 σ1 => Som (binA .eql .num t21 (.int .i64 11)) fun t23 =>
      WIf t23 (Som (vNilck (.ptr g 0)) fun t25 => Som (vFieldAddr 7 t25) fun t26 => Eff (storeW 1 t26 (.bool true) σ1) fun _ σ2 => Som (vNilck (.ptr g 0)) fun t28 => Som (vFieldAddr 0 t28) fun t29 => Som (vLoad1 t29 σ2) fun t30 => WF tab 40 [t30] σ2 fun t31 σ3 => Ret [some t31] σ3 Q)
        (Som (vNilck (.ptr g 0)) fun t35 => Som (vFieldAddr 2 t35) fun t36 => Som (vLoadN 2 t36 σ1) fun t37 => Som (vNilck (.ptr g 0)) fun t38 => Som (vFieldAddr 4 t38) fun t39 => Eff (storeW 2 t39 t37 σ1) fun _ σ2 => Som (vNilck (.ptr g 0)) fun t40 => Som (vFieldAddr 6 t40) fun t41 => Eff (storeW 1 t41 .nsl σ2) fun _ σ3 =>
          Som (binA .eql .num t21 (.int .i64 0)) fun t43 => Som (gq1 (isB t43 true) (some (.ptr g 0))) fun t45 => Som (gq1 (isB t43 true) (vNilck t45)) fun t46 => Som (gq1 (isB t43 true) (vFieldAddr 7 t46)) fun t47 => Som (gq1 (isB t43 true) (vLoad1 t47 σ3)) fun t48 => Som (gq1 (isB t43 true) (unA .not t48)) fun t49 => Som (vPick t43 t49 (.bool false)) fun t50 => Ret [some t50] σ3 Q) := by
  obtain ⟨G, M, l, d, L, D, rv, mr, nv, sv, cv, mc, cc, h, hp, hk0, hy⟩ := h
  have ho := hk0.ok
  have hMG := h.wl.hG
  refine Som_of rfl (Som_of (vField0 _ _ _) (Som_of (ld h.blk rfl) ?_))
  have hsc := sync_came hp
  refine lsync_c ht ho h.wl hp.dk.ok (fun hoff => ?_) (fun hoff => ?_)
  · intro σ1 G1 M1 rv1 mr1 hw1 k1 g1 s1
    rcases hsc with ⟨_, hp1⟩ | ⟨h2, _⟩
    case inr => rw [hoff] at h2; cases h2
    have h1 := h.step ho hw1 k1 g1 s1
    have kk1 := young_keep ho0 hk0 hy k1 hMG
    have hy1 := young_gr hy hk0.next g1
    refine Som_of (bin_eql _ _ _ _) (WIf_t rfl ?_)
    obtain ⟨h2, k2⟩ := h1.set (dead' := true) k1.ok h1.now h1.safe
    refine Som_of rfl (Som_of (vField0 _ _ _) (Eff_of (store1_of h1.blk (by simp [gmCells]) rfl) ?_))
    have e44 : σ1.upd g ⟨0, .ex, (gmCells d l now safe nv sv cv dead q).set (0 + 7) (.bool true)⟩ = σ1.upd g ⟨0, .ex, gmCells d l now safe nv sv cv true q⟩ := rfl
    rw [e44]
    have kk2 := young_keep ho0 kk1 hy1 k2 fun x hx => by rw [hx]; exact h1.gg
    generalize σ1.upd g ⟨0, .ex, gmCells d l now safe nv sv cv true q⟩ = σ2 at *
    refine Som_of rfl (Som_of (vField0 _ _ _) (Som_of (ld h2.blk rfl) ?_))
    have hwl := h2.wl
    obtain ⟨pf, ps, fv, sv', wv, wc, mw, hwl, _⟩ := hwl
    refine off_c ht hwl.dk ?_
    rw [hoff, Ret_1 rfl]
    exact hQ σ2 safe cs true ⟨_, _, _, _, _, _, _, _, _, _, _, _, _, h2, hp1, kk2, hy1⟩
  · intro σ1 G1 M1 rv1 mr1 hw1 k1 g1 s1
    rcases hsc with ⟨h2, _⟩ | ⟨_, hd, hp1⟩
    case inl => rw [hoff] at h2; cases h2
    subst hd
    have h1 := h.step ho hw1 k1 g1 s1
    have kk1 := young_keep ho0 hk0 hy k1 hMG
    have hy1 := young_gr hy hk0.next g1
    refine Som_of (bin_eql _ _ _ _) (WIf_f (by omega) ?_)
    obtain ⟨h2, k2⟩ := h1.set (safe' := now) (sv' := nv) (dead' := false) k1.ok h1.now h1.now
    refine Som_of rfl (Som_of (vField0 _ _ _) (Som_of (ldN (n := 2) (xs := [.int .i64 (now.first : Int), nv]) h1.blk (by simp [gmCells]) rfl) (Som_of rfl (Som_of (vField0 _ _ _) (Eff_of (storeN_of (xs := [.int .i64 (now.first : Int), nv]) h1.blk rfl (by omega) (by simp [gmCells])) ?_)))))
    have e44 : σ1.upd g ⟨0, .ex, (gmCells d l now safe nv sv cv false q).take (0 + 4) ++ [.int .i64 (now.first : Int), nv] ++ (gmCells d l now safe nv sv cv false q).drop (0 + 4 + 2)⟩ = σ1.upd g ⟨0, .ex, gmCells d l now now nv nv cv false q⟩ := rfl
    rw [e44]
    have kk2 := young_keep ho0 kk1 hy1 k2 fun x hx => by rw [hx]; exact h1.gg
    generalize σ1.upd g ⟨0, .ex, gmCells d l now now nv nv cv false q⟩ = σ2 at *
    obtain ⟨h3, k3⟩ := h2.clear k2.ok
    refine Som_of rfl (Som_of (vField0 _ _ _) (Eff_of (store1_of h2.blk (by simp [gmCells]) rfl) ?_))
    have e55 : σ2.upd g ⟨0, .ex, (gmCells d l now now nv nv cv false q).set (0 + 6) .nsl⟩ = σ2.upd g ⟨0, .ex, gmCells d l now now nv nv .nsl false q⟩ := rfl
    rw [e55]
    have kk3 := young_keep ho0 kk2 hy1 k3 fun x hx => by rw [hx]; exact h1.gg
    generalize σ2.upd g ⟨0, .ex, gmCells d l now now nv nv .nsl false q⟩ = σ3 at *
    refine Som_of (bin_eql _ _ _ _) (Sq_of rfl rfl (Sq_of rfl rfl (Sq_of rfl (vField0 _ _ _) (Sq_of rfl (ld h3.blk rfl) (Sq_of rfl (un_not _) (Som_of rfl ?_))))))
    rw [Ret_1 rfl]
    exact hQ σ3 now [] false ⟨_, _, _, _, _, _, _, _, _, _, _, _, _, h3, hp1, kk3, hy1⟩
theorem step_c (ht : Tab tab) {σ0 : S} (ho0 : Ok σ0) (h : Gm σ0 σ g a q now safe cs dead) (ha : a ≤ 980) {ak : Ak} {w : AVal} {m : Nat} (hw : SsAt σ w ak.recs m) (hok : AkOk ak) (hb : ∀ r ∈ ak.recs, Bytes r) {bd : Nat} (hbd : bd = 7 ∨ (ak.kind = 4 ∧ bd ≤ 7))
    (hQ : ∀ σ' now' safe' cs' dead', Gm σ0 σ' g (a + bd) q now' safe' cs' dead' → Q (.bool true) σ') : WF tab 24 [.ptr g 0, ak.val w] σ Q := by
  have ho := h.ok
  refine f24_wf ht.t24 ?_
  unfold f24
  refine Ala_of (show aBoxV (ak.val w) = some (⟨0, .ex, ak.cells w⟩, fun p => .ptr p 0) from rfl) ?_
  obtain ⟨k1, b3, n1⟩ := box_new ho (ak.cells w)
  generalize σ.next = p3 at *
  generalize σ.new ⟨0, .ex, ak.cells w⟩ = σ1 at *
  have h1 := h.k0 k1
  have hw1 := hw.k0 k1
  refine Som_of (vField0 _ _ _) (Som_of (ld b3 rfl) (Som_of (bin_eql _ _ _ _) ?_))
  -- what changes the log
  have chg : ∀ (E : En) (k : Nat), ak.kind = (k : Int) → (k = 1 ∨ k = 2 ∨ k = 3) → E 0 = .ptr g 0 → E 3 = .ptr p3 0 → E 8 = .bool true → f24.J0 (WF tab) Q E σ1 := by
    intro E k hk hk2 e0 e3 e8
    refine f24.p0_of ?_
    unfold f24.p0
    rw [e0, e3, e8, WIf_true]
    refine Som_of (ldN (n := 7) (xs := ak.cells w) b3 (by simp [Ak.cells]) rfl) ?_
    obtain rfl : bd = 7 := by omega
    refine change_c ht ho0 h1 ha hw1 hok hk hk2 hb (bd := 7) ⟨by omega, by omega⟩ fun σ' now' cs' dead' hg => ?_
    rw [Ret_1 rfl]
    exact hQ σ' now' safe cs' dead' hg
  have rest : ∀ E : En, ak.kind ≠ 1 → ak.kind ≠ 2 → ak.kind ≠ 3 → E 0 = .ptr g 0 → E 3 = .ptr p3 0 → E 7 = .int .i64 ak.kind → E 8 = .bool false → f24.J0 (WF tab) Q E σ1 := by
    intro E _ _ _ e0 e3 e7 e8
    refine f24.p0_of ?_
    unfold f24.p0
    rw [e0, e3, e7, e8, WIf_false]
    refine Som_of (bin_eql _ _ _ _) (WIf_dec (fun _ => ?_) (fun _ => ?_))
    · exact sync_g ht ho0 h1 fun σ' safe' cs' dead' hg => hQ σ' now safe' cs' dead' (hg.up (by omega) (by omega))
    obtain rfl : bd = 7 := by omega
    refine Som_of (bin_eql _ _ _ _) (WIf_dec (fun _ => ?_) (fun _ => ?_))
    · refine Som_of (vField0 _ _ _) (Som_of (ld b3 rfl) (Som_of (bin_gtr _ _ _ _) ?_))
      have no : ∀ σ2 : S, σ2 = σ1 → Ret [some (.bool true)] σ2 Q := fun σ2 e => by
        subst e
        rw [Ret_1 rfl]
        exact hQ σ2 now safe cs dead (h1.up (by omega) (by omega))
      by_cases h0 : (0 : Int) < ak.n
      · rw [decide_eq_true h0]
        refine Sq_of rfl (vField0 _ _ _) (Sq_of rfl (ld b3 rfl) (Sq_of rfl (bin_lss _ _ _ _) (Som_of rfl ?_)))
        refine WIf_dec (fun hlt => ?_) (fun _ => no σ1 rfl)
        have kb : Keep0 σ1 (σ1.bumpT 7) := Keep.bump k1.ok 7
        have h2 := h1.k0 kb
        have b3 := kb.blk b3
        obtain ⟨G, M, l, d, L, D, rv, mr, nv, sv, cv, mc, cc, h3, hp, hk0, hy⟩ := h2
        refine Som_of rfl (Som_of (vField0 _ _ _) (Som_of (ld h3.blk rfl) (Som_of (vField0 _ _ _) (Som_of (ld b3 rfl) ?_))))
        obtain ⟨n, hn⟩ := Int.eq_ofNat_of_zero_le (show 0 ≤ ak.n by omega)
        rw [hn]
        refine arm_w ht kb.ok h3.wl (n := n) fun v => ?_
        intro σ4 G4 M4 rv4 mr4 hw4 k4 g4 s4
        have hMG := h3.wl.hG
        have h4 := h3.step kb.ok hw4 k4 g4 s4
        rw [Ret_1 rfl]
        exact hQ σ4 now safe cs dead (Gm.up ⟨_, _, _, _, _, _, _, _, _, _, _, _, _, h4, hp.arm (by omega), young_keep ho0 hk0 hy k4 hMG, young_gr hy hk0.next g4⟩ (by omega) (by omega))
      · rw [decide_eq_false h0]
        refine Som_of rfl (Som_of rfl (Som_of rfl (Som_of (v := .bool false) rfl ?_)))
        rw [WIf_false]
        exact no σ1 rfl
    refine Som_of (bin_eql _ _ _ _) (WIf_dec (fun _ => ?_) (fun _ => ?_))
    · refine Som_of (ldN (n := 7) (xs := ak.cells w) b3 (by simp [Ak.cells]) rfl) ?_
      refine reopen_c ht ho0 h1 ha (n := 0) (by omega) fun σ' now' hg => ?_
      rw [Ret_1 rfl]
      exact hQ σ' now' now' [] false hg
    refine Som_of (bin_eql _ _ _ _) (WIf_dec (fun _ => ?_) (fun _ => ?_))
    · have kb : Keep0 σ1 (σ1.bumpT 7) := Keep.bump k1.ok 7
      have h2 := h1.k0 kb
      have b3 := kb.blk b3
      refine Som_of (ldN (n := 7) (xs := ak.cells w) b3 (by simp [Ak.cells]) rfl) (Som_of (vField0 _ _ _) (Som_of (ld b3 rfl) ?_))
      refine within_c ht (by omega) (by omega) (by omega) fun r hr1 hr2 => ?_
      obtain ⟨n, hn⟩ := Int.eq_ofNat_of_zero_le (show 0 ≤ r by omega)
      subst hn
      refine Sure_of (SameO_of (ldN (n := 7) (xs := ak.cells w) b3 (by simp [Ak.cells]) rfl) (ask_same hw)) ?_
      refine reopen_c ht ho0 h2 ha (n := n) (by omega) fun σ' now' hg => ?_
      rw [Ret_1 rfl]
      exact hQ σ' now' now' [] false hg
    rw [Ret_1 rfl]
    exact hQ σ1 now safe cs dead (h1.up (by omega) (by omega))
  refine WIf_dec (fun hk => ?_) (fun hk1 => ?_)
  · exact chg _ 1 (by omega) (.inl rfl) (by simp) (by simp) (by simp [hk])
  refine Som_of (bin_eql _ _ _ _) (WIf_dec (fun hk => ?_) (fun hk2 => ?_))
  · exact chg _ 2 (by omega) (.inr (.inl rfl)) (by simp) (by simp) (by simp [hk])
  refine Som_of (bin_eql _ _ _ _) ?_
  by_cases hk3 : ak.kind = 3
  · exact chg _ 3 (by omega) (.inr (.inr rfl)) (by simp) (by simp) (by simp [hk3])
  · exact rest _ hk1 hk2 hk3 (by simp) (by simp) (by simp) (by simp [hk3])
end
end Go.Am
namespace Go.Am
section
variable {tab : Nat → Option PFn} {σ σ' : S} {Q : AVal → S → Prop} {G G' M M' N : Nat → Prop} {g l d : Pos} {L L' : Lg} {D D' : Dk} {rv rv' nv sv cv : AVal} {mr mr' nm sm mc : Nat} {now safe : Rw} {cs : List Cl} {cc : List AVal} {dead : Bool} {q a : Nat} {e : Int}
theorem getD_rep (n i : Nat) : (List.replicate n ([] : List Nat)).getD i [] = [] := by
  rw [List.getD_eq_getElem?_getD, List.getElem?_replicate]
  split <;> rfl
theorem begin_g (ht : Tab tab) (ho : Ok σ) (hq : q ≤ 1048576) (hQ : ∀ g σ', Gm σ σ' g 1 q ⟨1, []⟩ ⟨1, []⟩ [] false → Q (.tup [.ptr g 0, .bool true]) σ') : WF tab 22 [.int .i64 (q : Int)] σ Q := by
  refine f22_wf ht.t22 ?_
  unfold f22
  refine new_c ht ho (G := fun _ => False) (fun _ h => h.elim) hq fun d pf ps σ1 hd k1 y1 y2 y3 => ?_
  refine Som_of rfl (Som_of rfl (Som_of (bin_neq _ _ _ _) ?_))
  rw [decide_eq_false (show ¬ (0 : Int) ≠ 0 by omega)]
  refine Sq_of rfl rfl (Sq_of rfl (eql_pn _ _) (Som_of (v := .bool false) rfl ?_))
  rw [WIf_false]
  have him : Img 1 (Dk.fresh q).quota (Dk.fresh q).files (fun x => x = ⟨1, []⟩) := .none (by simp [Dk.fresh]) (fun i _ _ => getD_rep 64 i) (by show readF ((List.replicate 64 []).getD 8 []) 8 = none; rw [getD_rep]; exact readF_nil 8) (by show readF ((List.replicate 64 []).getD 9 []) 9 = none; rw [getD_rep]; exact readF_nil 9) rfl
  have hok1 : DkOk (Dk.fresh q) := DkOk.fresh hq
  have hyf : ∀ x, dM d pf ps σ.next.nat x → σ.next.nat ≤ x := fun x hx => by rcases hx with hx | hx | hx | hx <;> omega
  refine open_o ht k1.ok hd hok1 (by show 0 + 100 < _; omega) (fun hoff => ?_) (fun D' L' l1 σ2 G2 M2 rv2 mr2 hoe hw r hl1 => ?_) (fun D' L' l1 σ2 G2 M2 rv2 mr2 hos hst hw r hl1 => ?_)
  · cases hoff
  · exfalso
    exact ((open_res (D := Dk.fresh q) (Nat.le_refl 1) him (by simp [Dk.fresh]) rfl rfl rfl hq).2 D' hoe).2.2.2 rfl
  obtain ⟨hW, hWq, hX⟩ := open_row (D := Dk.fresh q) (Nat.le_refl 1) him (by simp [Dk.fresh]) rfl rfl rfl hq hos
  have hX : L'.row = ⟨1, []⟩ := hX
  have hWq : D'.quota = q := hWq
  obtain ⟨st, dst⟩ := hos.st (w := 40) hst (fun D1 h1 => trim_st 40 8 0 _ D1 h1 ⟨hok1, Nat.zero_le _⟩ (by omega) (by omega))
  have k02 : Keep0 σ σ2 := k1.then ho r.k fun x hx hm => by have := hyf x hm; omega
  have hM2 : ∀ x, M2 x → x < σ2.next.nat := hw.lt
  have hG2 : ∀ x, G2 x → σ.next.nat ≤ x := fun x hx => by
    by_cases h1 : x < σ1.next.nat
    · rcases r.g.2 x h1 hx with h | h | h | h | h
      · exact h.elim
      all_goals omega
    · have := k1.next; omega
  refine Som_of rfl (Som_of rfl (Som_of (eql_pn _ _) ?_))
  refine Sq_of rfl rfl (Sq_of rfl (bin_neq _ _ _ _) (Som_of rfl ?_))
  rw [decide_eq_false (show ¬ (0 : Int) ≠ 0 by omega), WIf_false]
  refine Som_of (show vBuild [AVal.int .i64 0, .nsl] [(0, 1, .int .i64 1)] = some (.agg [.int .i64 1, .nsl]) from rfl) (Som_of (show vBuild [AVal.int .i64 0, .nsl] [(0, 1, .int .i64 1)] = some (.agg [.int .i64 1, .nsl]) from rfl) ?_)
  refine Som_of (show vBuild [AVal.nptr, .nptr, .int .i64 0, .nsl, .int .i64 0, .nsl, .nsl, .bool false, .int .i64 0] [(0, 1, .ptr d 0), (1, 1, .ptr l1 0), (8, 1, .int .i64 (q : Int)), (2, 2, .agg [.int .i64 1, .nsl]), (4, 2, .agg [.int .i64 1, .nsl])] = some (.agg (gmCells d l1 ⟨1, []⟩ ⟨1, []⟩ .nsl .nsl .nsl false q)) from rfl) ?_
  refine Ala_of (show aBoxV (.agg (gmCells d l1 ⟨1, []⟩ ⟨1, []⟩ .nsl .nsl .nsl false q)) = some (⟨0, .ex, gmCells d l1 ⟨1, []⟩ ⟨1, []⟩ .nsl .nsl .nsl false q⟩, fun p => .ptr p 0) from rfl) ?_
  obtain ⟨k3, bg, n3⟩ := box_new r.k.ok (gmCells d l1 ⟨1, []⟩ ⟨1, []⟩ .nsl .nsl .nsl false q)
  generalize hg : σ2.next = g at *
  have hgn : g.nat = σ2.next.nat := by rw [hg]
  generalize σ2.new ⟨0, .ex, gmCells d l1 ⟨1, []⟩ ⟨1, []⟩ .nsl .nsl .nsl false q⟩ = σ3 at *
  have s1 := st.inn.lo
  have hlr : L'.recs = [] := by have := congrArg Rw.recs hX; exact this
  refine row_c ht k3.ok (hw.keep0 k3).lg st.ok s1 (by rw [hlr]; exact Nat.zero_le _) fun v m σ4 hv k4 hm1 hm2 => ?_
  refine Som_of rfl (Som_of rfl ?_)
  refine Ala_of (show aAllocV [AVal.int .i64 0, .nsl] = some (⟨0, .ex, [.int .i64 0, .nsl]⟩, fun p => .ptr p 0) from rfl) ?_
  obtain ⟨k5, b8, n5⟩ := box_new k4.ok [AVal.int .i64 0, .nsl]
  have n4 := k4.next
  generalize hp8 : σ4.next = p8 at *
  have hp8n : p8.nat = σ4.next.nat := by rw [hp8]
  generalize σ4.new ⟨0, .ex, [AVal.int .i64 0, .nsl]⟩ = σ5 at *
  have r5 : RbAt σ5 p8 ⟨0, []⟩ .nsl 0 := ⟨b8, SlAt.nil σ5 1 0⟩
  have hv5 := hv.k0 k5
  obtain ⟨σ6, es6, r6, k6, n6⟩ := r5.set (r' := L'.row) k5.ok hv5 (fun hz => absurd hlr hz)
  refine Eff_of es6 ?_
  have k26 : Keep0 σ2 σ6 := ((k3.trans k4).trans k5).then r.k.ok k6 fun x hx e => by omega
  have bg6 : σ6.blk g = some ⟨0, .ex, gmCells d l1 ⟨1, []⟩ ⟨1, []⟩ .nsl .nsl .nsl false q⟩ := k6.old _ _ (k5.blk (k4.blk bg)) fun e => by have e : g.nat = p8.nat := e; omega
  have kb : Keep0 σ6 (σ6.bumpT 12) := Keep.bump k26.ok 12
  have k27 : Keep0 σ2 (σ6.bumpT 12) := k26.trans kb
  have r7 := r6.k0 kb
  have bg7 := kb.blk bg6
  generalize σ6.bumpT 12 = σ7 at *
  have rg7 : SsAt σ7 .nsl ([] : List (List Nat)) 0 := SlAt.nil σ7 1 0
  refine Sq_of rfl r7.ld (Sq_of rfl rfl (Sq_of rfl rfl (Sq_of rfl (vField0 _ _ _) (Sq_of rfl (ldN (n := 2) (xs := [.int .i64 ((1 : Nat) : Int), .nsl]) bg7 (by simp [gmCells]) rfl) (GE_t rfl ?_)))))
  refine same_c ht (b := ⟨1, []⟩) (mb := 0) k27.ok r7.2 (SlAt.nil σ7 1 0) (by show L'.recs.length ≤ _; rw [hlr]; exact Nat.zero_le _) fun σ8 k8 => ?_
  rw [decide_eq_true hX]
  refine Som_of rfl ?_
  rw [Ret_2 rfl rfl]
  have k28 : Keep0 σ2 σ8 := k27.trans k8
  have hn8 : σ6.next.nat ≤ σ8.next.nat := Nat.le_trans kb.next k8.next
  have hn56 : σ5.next.nat ≤ σ6.next.nat := k6.next
  have hgr : Gr σ2 G2 (fun x => G2 x ∨ x = g.nat ∨ x = p8.nat) := ⟨fun x hx => .inl hx, fun x hx hgx => by
    rcases hgx with h | h | h
    · exact h
    · omega
    · omega⟩
  have hgl : ∀ x, (G2 x ∨ x = g.nat ∨ x = p8.nat) → x < σ8.next.nat := fun x hx => by
    rcases hx with h | h | h
    · have := hw.gl x h; omega
    · omega
    · omega
  have hw8 : WL σ8 (fun x => G2 x ∨ x = g.nat ∨ x = p8.nat) l1 d L' D' rv2 mr2 M2 := hw.keepG r.k.ok k28 (fun _ h => h.elim) (fun _ h => h.elim) hgr hgl
  have hnil : IsAt σ8 (fun x => G2 x ∨ x = g.nat ∨ x = p8.nat) .nsl ([] : List (List Nat)) := ⟨0, SlAt.nil σ8 1 0, fun h => absurd rfl h⟩
  refine hQ g σ8 ⟨fun x => G2 x ∨ x = g.nat ∨ x = p8.nat, M2, l1, d, L', D', rv2, mr2, .nsl, .nsl, .nsl, p8.nat, [], ⟨k8.blk bg7, hw8, hnil, hnil, GrAt.nil _ _ _, fun j c hj => by simp at hj, .inr (.inl rfl), .inr (.inr rfl), fun hm => by have := hM2 _ hm; omega, fun hm => by have := hM2 _ hm; omega, by omega⟩, ?_, k02.trans k28, fun x hx => ?_⟩
  · rw [hX] at hW
    exact ⟨hWq, hq, hX, st, dst.mono (by omega), ⟨by show (1 : Nat) ≤ _; omega, Nat.zero_le _, fun x hx => by cases hx⟩, Nat.zero_le _, Nat.zero_le _, by omega, Nat.zero_le _, fun _ => ⟨hW.up (by omega), rfl⟩, fun hx => by cases hx⟩
  · have := k02.next
    rcases hx with h | h | h
    · exact hG2 x h
    · omega
    · omega
end
end Go.Am
namespace Go.Am
section
variable {tab : Nat → Option PFn} {σ σ' : S} {Q : AVal → S → Prop} {G G' M M' N : Nat → Prop} {g l d : Pos} {L L' : Lg} {D D' : Dk} {rv rv' nv sv cv : AVal} {mr mr' nm sm mc : Nat} {now safe : Rw} {cs : List Cl} {cc : List AVal} {dead : Bool} {q a : Nat} {e : Int}
theorem told_c (ht : Tab tab) {σ0 : S} (h : Gm σ0 σ g a q now safe cs dead) : ∃ l, vLoad1 (.ptr g (0 + 1)) σ = some (.ptr l 0) ∧ ∀ {Q : AVal → S → Prop}, (∀ v m σ', SsAt σ' v now.recs m → Keep0 σ σ' → (now.recs ≠ [] → m < σ'.next.nat) → Q (.tup [now.val v, .bool true]) σ') → WF tab 27 [.ptr l 0] σ Q := by
  obtain ⟨G, M, l, d, L, D, rv, mr, nv, sv, cv, mc, cc, h, hp, hk0, hy⟩ := h
  obtain ⟨_, r1, r2, e1, e2⟩ := hp.rw
  have hnl := hp.nl; have hab := hp.ab
  refine ⟨l, ld h.blk rfl, fun hK => ?_⟩
  refine row_c ht hk0.ok h.wl.lg hp.st.ok hp.st.inn.lo (by rw [← e2]; omega) fun v m σ' hv k hm1 hm2 => ?_
  rw [hp.row]
  rw [← e2] at hv hm2
  exact hK v m σ' hv k hm2
end
end Go.Am
namespace Go.Am
section
variable {tab : Nat → Option PFn} {σ σ' : S} {Q : AVal → S → Prop} {g p : Pos} {now safe : Rw} {cs : List Cl} {dead : Bool} {q a : Nat} {blk : Blk}
structure Beside (p : Pos) (σ : S) : Prop where
  f : Free p σ
  lt : p.nat < σ.next.nat
theorem Beside.bump (h : Beside p σ) (n : Nat) : Beside p (σ.bumpT n) := ⟨⟨h.f.heap, h.f.fams, h.f.lists, h.f.roots⟩, by rw [next_bump]; have := h.lt; omega⟩
theorem lay_bump {e : Nat} (cs : List AVal) (n : Nat) : (σ.lay p ⟨e, .ex, cs⟩).bumpT n = (σ.bumpT n).lay p ⟨e, .ex, cs⟩ := by rw [lay_eq, lay_eq]; rfl
theorem Beside.at (h : Beside p σ) {e : Nat} {b : Pos} {c : Blk} (hb : σ.blk b = some c) (cs : List AVal) : (σ.lay p ⟨e, .ex, cs⟩).blk b = some c := by
  rw [blk_lay, if_neg (h.f.ne hb)]; exact hb
theorem blk_self {e : Nat} (cs : List AVal) : (σ.lay p ⟨e, .ex, cs⟩).blk p = some ⟨e, .ex, cs⟩ := by rw [blk_lay, if_pos rfl]
theorem beside_c {f e : Nat} {args : List AVal} {cs : List AVal} (hb : Beside p σ) (h : WF tab f args σ fun v σ' => Beside p σ' → Q v (σ'.lay p ⟨e, .ex, cs⟩)) : WF tab f args (σ.lay p ⟨e, .ex, cs⟩) Q := by
  obtain ⟨v, σ', hQ, n, hn⟩ := h
  have key : ∀ m, n ≤ m → Beside p σ' ∧ evalF tab m f args (σ.lay p ⟨e, .ex, cs⟩) = some (v, σ'.lay p ⟨e, .ex, cs⟩) := fun m hm => by
    obtain ⟨h1, h2⟩ := eval_fr tab m f args σ v σ' (hn m hm)
    obtain ⟨h3, h4⟩ := h2 p ⟨e, .ex, cs⟩ hb.lt hb.f (fun _ _ e => by cases e)
    exact ⟨⟨h3, by have := hb.lt; omega⟩, h4⟩
  exact ⟨v, _, hQ (key n (Nat.le_refl _)).1, n, fun m hm => (key m hm).2⟩
theorem beside_new (ho : Ok σ) (e : Nat) (cs : List AVal) : σ.new ⟨e, .ex, cs⟩ = (σ.bumpT 1).lay σ.next ⟨e, .ex, cs⟩ ∧ Beside σ.next (σ.bumpT 1) := by
  refine ⟨?_, ⟨?_, ho.fz _ (Nat.le_refl _), (ho.free _ (Nat.le_refl _)).2.2, fun b c r vb hb hk e => ?_⟩, by rw [next_bump]; omega⟩
  · rw [lay_eq]; rfl
  · exact (ho.free _ (Nat.le_refl _)).1
  · have h1 := ho.root b c r vb hb hk
    have h2 := ho.lt hb
    rw [e] at h1; omega
end
end Go.Am
