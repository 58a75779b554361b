/-
  Memory under conditions: what stays, what slices hold. Conditions: none.
-/
import Derived.Test.YtdolmkdbpnlegaaGreatDoorK31
namespace Go.Am

noncomputable def S.blk (σ : S) (p : Pos) : Option Blk := Tr.get p σ.heap
noncomputable def S.fam (σ : S) (r : Pos) : List Pos := famOf r σ.fams
def Unused (σ : S) (p : Pos) : Prop := σ.blk p = none ∧ Tr.get p σ.maps = none ∧ ∀ r, p ∉ σ.fam r
def ow (p : Pos) (b : Blk) : Nat := match b.kind with
  | .fam r _ => r.nat
  | _ => p.nat
structure Ok (σ : S) : Prop where
  free : ∀ p : Pos, σ.next.nat ≤ p.nat → Unused σ p
  memb : ∀ r q b, q ∈ σ.fam r → σ.blk q = some b → ∃ vb, b.kind = .fam r vb
  root : ∀ q b r vb, σ.blk q = some b → b.kind = .fam r vb → r.nat ≤ q.nat
  fz : ∀ p : Pos, σ.next.nat ≤ p.nat → Tr.get p σ.fams = none
structure Keep (M : Nat → Prop) (σ σ' : S) : Prop where
  ok : Ok σ'
  next : σ.next.nat ≤ σ'.next.nat
  old : ∀ q b, σ.blk q = some b → ¬ M (ow q b) → σ'.blk q = some b
  unused : ∀ q : Pos, q.nat < σ.next.nat → Unused σ q → Unused σ' q
  maps : ∀ q mb, Tr.get q σ.maps = some mb → ¬ M q.nat → Tr.get q σ'.maps = some mb
section
variable {σ σ' σ2 : S} {M N : Nat → Prop}
theorem Ok.lt (h : Ok σ) {q : Pos} {b : Blk} (hb : σ.blk q = some b) : q.nat < σ.next.nat := by
  by_cases hq : q.nat < σ.next.nat
  · exact hq
  · rw [(h.free q (by omega)).1] at hb; cases hb
theorem Ok.ow_lt (h : Ok σ) {q : Pos} {b : Blk} (hb : σ.blk q = some b) : ow q b < σ.next.nat := by
  have := h.lt hb
  unfold ow
  split
  · rename_i r vb hk
    have := h.root q b r vb hb hk
    omega
  · exact this
theorem Keep.refl (h : Ok σ) : Keep M σ σ := ⟨h, Nat.le_refl _, fun _ _ h _ => h, fun _ _ h => h, fun _ _ h _ => h⟩
theorem Keep.trans (h : Keep M σ σ') (k : Keep M σ' σ2) : Keep M σ σ2 :=
  ⟨k.ok, Nat.le_trans h.next k.next, fun q b hb hm => k.old q b (h.old q b hb hm) hm, fun q hq hu => k.unused q (by have := h.next; omega) (h.unused q hq hu), fun q mb hb hm => k.maps q mb (h.maps q mb hb hm) hm⟩
theorem Keep.weak (ho : Ok σ) (h : Keep M σ σ') (hmn : ∀ x, x < σ.next.nat → M x → N x) : Keep N σ σ' :=
  ⟨h.ok, h.next, fun q b hb hn => h.old q b hb fun hm => hn (hmn _ (ho.ow_lt hb) hm), h.unused,
    fun q mb hb hn => h.maps q mb hb fun hm => hn (hmn _ (by
      by_cases hq : q.nat < σ.next.nat
      · exact hq
      · rw [(ho.free q (by omega)).2.1] at hb; cases hb) hm)⟩
theorem Keep.mono (h : Keep M σ σ') (hmn : ∀ x, M x → N x) : Keep N σ σ' :=
  ⟨h.ok, h.next, fun q b hb hn => h.old q b hb fun hm => hn (hmn _ hm), h.unused, fun q mb hb hn => h.maps q mb hb fun hm => hn (hmn _ hm)⟩
theorem Keep.then (ho : Ok σ) (h : Keep M σ σ') (k : Keep N σ' σ2) (hn : ∀ x, x < σ.next.nat → N x → M x) : Keep M σ σ2 :=
  ⟨k.ok, Nat.le_trans h.next k.next, fun q b hb hm => k.old q b (h.old q b hb hm) (fun hx => hm (hn _ (ho.ow_lt hb) hx)),
    fun q hq hu => k.unused q (by have := h.next; omega) (h.unused q hq hu), fun q mb hb hm => k.maps q mb (h.maps q mb hb hm) fun hx => hm (hn _ (by
      by_cases hq : q.nat < σ.next.nat
      · exact hq
      · rw [(ho.free q (by omega)).2.1] at hb; cases hb) hx)⟩

noncomputable def S.upd (σ : S) (p : Pos) (b : Blk) : S := ⟨Tr.set p (some b) σ.heap, σ.next, σ.fams, σ.maps⟩
@[simp] theorem next_upd (p : Pos) (b : Blk) : (σ.upd p b).next = σ.next := rfl
theorem blk_upd (p q : Pos) (b : Blk) : (σ.upd p b).blk q = if q = p then some b else σ.blk q := Tr.get_set _ _ _ _
theorem blk_upd_same (p : Pos) (b : Blk) : (σ.upd p b).blk p = some b := by rw [blk_upd, if_pos rfl]
theorem blk_upd_ne {p q : Pos} (h : q ≠ p) (b : Blk) : (σ.upd p b).blk q = σ.blk q := by rw [blk_upd, if_neg h]
theorem Keep.upd (ho : Ok σ) {p : Pos} {b c : Blk} (hb : σ.blk p = some b) (hk : c.kind = b.kind) : Keep (fun x => x = ow p b) σ (σ.upd p c) := by
  refine ⟨⟨fun q hq => ?_, fun r q d hq hd => ?_, fun q d r vb hd hk' => ?_, ho.fz⟩, Nat.le_refl _, fun q d hd hm => ?_, fun q hq hu => ?_, fun _ _ h _ => h⟩
  · have := ho.lt hb
    have hq : σ.next.nat ≤ q.nat := hq
    have hne : q ≠ p := fun e => by subst e; omega
    obtain ⟨h1, h2, h3⟩ := ho.free q hq
    exact ⟨by rw [blk_upd_ne hne]; exact h1, h2, h3⟩
  · rw [blk_upd] at hd
    split at hd
    · cases hd; subst_vars; rw [hk]; exact ho.memb r _ b hq hb
    · exact ho.memb r q d hq hd
  · rw [blk_upd] at hd
    split at hd
    · cases hd; subst_vars; exact ho.root _ b r vb hb (by rw [← hk]; exact hk')
    · exact ho.root q d r vb hd hk'
  · rw [blk_upd]
    split
    · subst_vars; rw [hb] at hd; cases hd; exact absurd rfl hm
    · exact hd
  · have hne : q ≠ p := fun e => by subst e; rw [hu.1] at hb; cases hb
    exact ⟨by rw [blk_upd_ne hne]; exact hu.1, hu.2.1, hu.2.2⟩

@[simp] theorem next_new (b : Blk) : (σ.new b).next = σ.next.succ := rfl
theorem succ_nat (p : Pos) : p.succ.nat = p.nat + 1 := p.succ_nat
theorem blk_new (b : Blk) (q : Pos) : (σ.new b).blk q = if q = σ.next then some (b.named σ.next) else σ.blk q := Tr.get_set _ _ _ _
theorem blk_layAt (p nx : Pos) (b : Blk) (q : Pos) : (σ.layAt p b nx).blk q = if q = p then some b else σ.blk q := Tr.get_set _ _ _ _
theorem fam_famsOf {k : Kind} {p q r : Pos} {fams : Tr (List Pos)} (h : q ∈ famOf r (famsOf k p fams)) : q ∈ famOf r fams ∨ (q = p ∧ ∃ vb, k = .fam r vb) := by
  unfold famsOf at h
  split at h
  · rename_i root vb
    unfold famOf at h
    rw [Tr.get_set] at h
    by_cases e : r = root
    · rw [if_pos e] at h
      subst e
      simp only [List.mem_cons] at h
      rcases h with h | h
      · exact .inr ⟨h, vb, rfl⟩
      · exact .inl h
    · rw [if_neg e] at h; exact .inl h
  · exact .inl h
theorem fz_famsOf {k : Kind} {p q : Pos} {fams : Tr (List Pos)} (h : ∀ r vb, k = .fam r vb → q ≠ r) (hq : Tr.get q fams = none) : Tr.get q (famsOf k p fams) = none := by
  unfold famsOf
  split
  · rename_i r vb
    rw [Tr.get_set_ne (h r vb rfl)]; exact hq
  · exact hq
theorem Keep.lay (ho : Ok σ) {p nx : Pos} {b : Blk} (hp : Unused σ p) (hnx : σ.next.nat ≤ nx.nat) (hpn : p.nat < nx.nat) (hr : ∀ r vb, b.kind = .fam r vb → r.nat ≤ p.nat)
    (hlt : σ.next.nat ≤ p.nat ∨ True) : (∀ q b', σ.blk q = some b' → (σ.layAt p b nx).blk q = some b') ∧ Ok (σ.layAt p b nx) ∧ (∀ q : Pos, q ≠ p → Unused σ q → Unused (σ.layAt p b nx) q) := by
  have un : ∀ q : Pos, q ≠ p → Unused σ q → Unused (σ.layAt p b nx) q := fun q hne hu => by
    refine ⟨by rw [blk_layAt, if_neg hne]; exact hu.1, hu.2.1, fun r hm => ?_⟩
    rcases fam_famsOf hm with h | ⟨h, _⟩
    · exact hu.2.2 r h
    · exact hne h
  refine ⟨fun q b' hq => ?_, ⟨fun q hq => ?_, fun r q d hq hd => ?_, fun q d r vb hd hk => ?_, fun q hq => ?_⟩, un⟩
  · rw [blk_layAt, if_neg]
    · exact hq
    · intro e; subst e; rw [hp.1] at hq; cases hq
  · have hq : nx.nat ≤ q.nat := hq
    exact un q (fun e => by subst e; omega) (ho.free q (by omega))
  · rw [blk_layAt] at hd
    rcases fam_famsOf hq with h | ⟨h, vb, hk⟩
    · by_cases e : q = p
      · subst e; exact absurd h (hp.2.2 r)
      · rw [if_neg e] at hd; exact ho.memb r q d h hd
    · subst h; rw [if_pos rfl] at hd; cases hd; exact ⟨vb, hk⟩
  · rw [blk_layAt] at hd
    split at hd
    · cases hd; subst_vars; exact hr r vb hk
    · exact ho.root q d r vb hd hk
  · exact fz_famsOf (fun r vb hk e => by have := hr r vb hk; have hq : nx.nat ≤ q.nat := hq; subst e; omega) (ho.fz q (Nat.le_trans hnx hq))
theorem named_le (b : Blk) (p : Pos) : ∀ r vb, (b.named p).kind = .fam r vb → r.nat ≤ p.nat := by
  obtain ⟨e, k, cs⟩ := b
  cases k with
  | ex => intro r vb h; cases h
  | ro => intro r vb h; cases h
  | fam r0 vb0 => intro r vb h; cases h; exact Nat.le_refl _
theorem Keep.new (ho : Ok σ) (b : Blk) : Keep M σ (σ.new b) := by
  obtain ⟨h1, h2, h3⟩ := Keep.lay ho (ho.free σ.next (Nat.le_refl _)) (nx := σ.next.succ) (by rw [succ_nat]; omega) (by rw [succ_nat]; omega) (named_le b σ.next) (.inr trivial)
  refine ⟨h2, by show σ.next.nat ≤ σ.next.succ.nat; rw [succ_nat]; omega, fun q d hd _ => h1 q d hd, fun q hq hu => h3 q (fun e => by subst e; omega) hu, fun _ _ h _ => h⟩
theorem lay_layAt (p : Pos) (b : Blk) : σ.lay p b = σ.layAt p b σ.next := lay_eq σ p b
theorem Keep.lay' (ho : Ok σ) {p : Pos} (b : Blk) (hp : Unused σ p) (hpn : p.nat < σ.next.nat) :
    Ok (σ.lay p (b.named p)) ∧ (∀ q b', σ.blk q = some b' → (σ.lay p (b.named p)).blk q = some b') ∧ (∀ q : Pos, q ≠ p → Unused σ q → Unused (σ.lay p (b.named p)) q) := by
  obtain ⟨h1, h2, h3⟩ := Keep.lay ho hp (nx := σ.next) (Nat.le_refl _) hpn (named_le b p) (.inr trivial)
  rw [lay_layAt]
  exact ⟨h2, h1, h3⟩
theorem plusT_nat (n : Nat) (p : Pos) : (Pos.plusT n p).nat = p.nat + n := by
  induction n generalizing p with
  | zero => rfl
  | succ n ih => show (Pos.plusT n p.succ).nat = _; rw [ih, succ_nat]; omega
@[simp] theorem blk_bump (n : Nat) (q : Pos) : (σ.bumpT n).blk q = σ.blk q := rfl
theorem next_bump (n : Nat) : (σ.bumpT n).next.nat = σ.next.nat + n := plusT_nat n σ.next
theorem Keep.bump (ho : Ok σ) (n : Nat) : Keep M σ (σ.bumpT n) :=
  ⟨⟨fun q hq => ho.free q (by rw [next_bump] at hq; omega), ho.memb, ho.root, fun q hq => ho.fz q (by rw [next_bump] at hq; omega)⟩, by rw [next_bump]; omega, fun _ _ h _ => h, fun _ _ h => h, fun _ _ h _ => h⟩

def SlAt (σ : S) (v : AVal) (esz n : Nat) (cs : List AVal) (m : Nat) : Prop := cs.length = n * esz ∧ match v with
  | .nsl => n = 0
  | .sl b o len cap => len = n ∧ n ≤ cap ∧ (n * esz ≠ 0 → ∃ blk, σ.blk b = some blk ∧ ow b blk = m ∧ o + n * esz ≤ blk.cells.length ∧ (blk.cells.drop o).take (n * esz) = cs)
  | .slu b o len z => z = esz ∧ len = n ∧ (n * esz ≠ 0 → ∃ blk, σ.blk b = some blk ∧ ow b blk = m ∧ o + n * esz ≤ blk.cells.length ∧ (blk.cells.drop o).take (n * esz) = cs)
  | _ => False
theorem SlAt.keep {v : AVal} {esz n m : Nat} {cs : List AVal} (h : SlAt σ v esz n cs m) (hm : n * esz ≠ 0 → ¬ M m) (k : Keep M σ σ') : SlAt σ' v esz n cs m := by
  obtain ⟨h0, h⟩ := h
  refine ⟨h0, ?_⟩
  cases v with
  | nsl => exact h
  | sl b o len cap =>
    obtain ⟨h1, h2, h3⟩ := h
    refine ⟨h1, h2, fun hz => ?_⟩
    obtain ⟨blk, hb, ho, hl, hc⟩ := h3 hz
    exact ⟨blk, k.old b blk hb (by rw [ho]; exact hm hz), ho, hl, hc⟩
  | slu b o len z =>
    obtain ⟨h1, h2, h3⟩ := h
    refine ⟨h1, h2, fun hz => ?_⟩
    obtain ⟨blk, hb, ho, hl, hc⟩ := h3 hz
    exact ⟨blk, k.old b blk hb (by rw [ho]; exact hm hz), ho, hl, hc⟩
  | _ => exact h.elim
theorem SlAt.v1 {v : AVal} {esz n m : Nat} {cs : List AVal} (h : SlAt σ v esz n cs m) : isV1 v = true := by
  cases v <;> first | rfl | exact h.2.elim
theorem SlAt.len {v : AVal} {esz n m : Nat} {cs : List AVal} (h : SlAt σ v esz n cs m) : vLenSl v = some (.int .i64 (n : Int)) := by
  obtain ⟨_, h⟩ := h
  cases v with
  | nsl => have h : n = 0 := h; subst h; rfl
  | sl b o len cap => obtain ⟨h, _⟩ := h; subst h; rfl
  | slu b o len z => obtain ⟨_, h, _⟩ := h; subst h; rfl
  | _ => exact h.elim
theorem SlAt.slLen {v : AVal} {esz n m : Nat} {cs : List AVal} (h : SlAt σ v esz n cs m) : slLen v = some n := by
  obtain ⟨_, h⟩ := h
  cases v with
  | nsl => have h : n = 0 := h; subst h; rfl
  | sl b o len cap => obtain ⟨h, _⟩ := h; subst h; rfl
  | slu b o len z => obtain ⟨_, h, _⟩ := h; subst h; rfl
  | _ => exact h.elim
theorem SlAt.isSl {v : AVal} {esz n m : Nat} {cs : List AVal} (h : SlAt σ v esz n cs m) : isSl v = true := by
  cases v <;> first | rfl | exact h.2.elim
theorem read_of {b : Pos} {o k : Nat} {blk : Blk} (hb : σ.blk b = some blk) (hl : o + k ≤ blk.cells.length) : σ.read b o k = some ((blk.cells.drop o).take k) := by
  unfold S.read
  rw [show Tr.get b σ.heap = some blk from hb, andThen_s, takeN_eq, dropN_eq]
  exact ⟨by simp; omega, rfl⟩
theorem rdN_of {b : Pos} {o k : Nat} {blk : Blk} (hb : k ≠ 0 → σ.blk b = some blk) (hl : k ≠ 0 → o + k ≤ blk.cells.length) : rdN σ b o k = some ((blk.cells.drop o).take k) := by
  cases k with
  | zero => simp [rdN]
  | succ k => exact read_of (hb (by omega)) (hl (by omega))
theorem SlAt.slRead {v : AVal} {esz n m : Nat} {cs : List AVal} (h : SlAt σ v esz n cs m) {k : Nat} (hk : k ≤ n) : slRead esz k v σ = some (cs.take (k * esz)) := by
  obtain ⟨h0, h⟩ := h
  have key : ∀ (b : Pos) (o : Nat), (n * esz ≠ 0 → ∃ blk, σ.blk b = some blk ∧ ow b blk = m ∧ o + n * esz ≤ blk.cells.length ∧ (blk.cells.drop o).take (n * esz) = cs) → rdN σ b o (k * esz) = some (cs.take (k * esz)) := by
    intro b o hx
    have hle : k * esz ≤ n * esz := Nat.mul_le_mul_right _ hk
    by_cases hz : n * esz = 0
    · rw [show k * esz = 0 by omega]; simp [rdN]
    · obtain ⟨blk, hb, _, hl, hc⟩ := hx hz
      rw [rdN_of (fun _ => hb) (fun _ => by omega), ← hc, List.take_take, Nat.min_eq_left hle]
  cases v with
  | nsl =>
    have h : n = 0 := h
    have : k = 0 := by omega
    subst this
    show test (isZero 0) _ = _
    simp [isZero]
  | sl b o len cap => obtain ⟨h1, _, h3⟩ := h; exact key b o h3
  | slu b o len z => obtain ⟨h1, _, h3⟩ := h; exact key b o h3
  | _ => exact h.elim
theorem SlAt.at {v : AVal} {esz n m : Nat} {cs : List AVal} (h : SlAt σ v esz n cs m) {k : Nat} (hk : k < n) (he : 0 < esz) :
    ∃ b o blk, vIxSl esz v (.int .i64 (k : Int)) = some (.ptr b (o + k * esz)) ∧ σ.blk b = some blk ∧ ow b blk = m ∧ ∀ j, j < esz → blk.cells[o + k * esz + j]? = cs[k * esz + j]? := by
  obtain ⟨h0, h⟩ := h
  have hle : k * esz + esz ≤ n * esz := by
    have : (k + 1) * esz ≤ n * esz := Nat.mul_le_mul_right _ hk
    rw [Nat.add_mul] at this; omega
  have hix : ixOf (.int .i64 (k : Int)) n = some k := by
    show (match Nat.ble (Nat.succ k) n with | true => some k | false => none) = _
    rw [Nat.ble_eq_true_of_le hk]
  have key : ∀ (b : Pos) (o : Nat), (n * esz ≠ 0 → ∃ blk, σ.blk b = some blk ∧ ow b blk = m ∧ o + n * esz ≤ blk.cells.length ∧ (blk.cells.drop o).take (n * esz) = cs) →
      (andThen (ixOf (.int .i64 (k : Int)) n) fun j => outPtr b (o + j * esz)) = some (.ptr b (o + k * esz)) ∧ ∃ blk, σ.blk b = some blk ∧ ow b blk = m ∧ ∀ j, j < esz → blk.cells[o + k * esz + j]? = cs[k * esz + j]? := by
    intro b o hx
    obtain ⟨blk, hb, ho, hl, hc⟩ := hx (by omega)
    refine ⟨by rw [hix, andThen_s]; unfold outPtr; rw [forceNat_eq], blk, hb, ho, fun j hj => ?_⟩
    rw [← hc, List.getElem?_take_of_lt (by omega), List.getElem?_drop, Nat.add_assoc]
  cases v with
  | nsl => have h : n = 0 := h; omega
  | sl b o len cap =>
    obtain ⟨h1, _, h3⟩ := h
    obtain ⟨k1, blk, k2⟩ := key b o h3
    subst h1
    exact ⟨b, o, blk, k1, k2⟩
  | slu b o len z =>
    obtain ⟨_, h1, h3⟩ := h
    obtain ⟨k1, blk, k2⟩ := key b o h3
    subst h1
    exact ⟨b, o, blk, k1, k2⟩
  | _ => exact h.elim
theorem load1_of {b : Pos} {o : Nat} {blk : Blk} (hb : σ.blk b = some blk) : vLoad1 (.ptr b o) σ = blk.cells[o]? := by
  show andThen (Tr.get b σ.heap) _ = _
  rw [show Tr.get b σ.heap = some blk from hb, andThen_s, nthV_eq]
theorem SlAt.get1 {v : AVal} {n m : Nat} {cs : List AVal} (h : SlAt σ v 1 n cs m) {k : Nat} (hk : k < n) : ∃ p, vIxSl 1 v (.int .i64 (k : Int)) = some p ∧ vLoad1 p σ = cs[k]? := by
  obtain ⟨b, o, blk, h1, h2, _, h4⟩ := h.at hk (by omega)
  refine ⟨_, h1, ?_⟩
  rw [load1_of h2]
  have := h4 0 (by omega)
  simpa using this
end
end Go.Am
