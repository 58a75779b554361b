/-
  THE EVALUATOR IS SOUND: what it answers, calls come to, on every tape. Conditions: none.
-/
import Derived.Test.YthnjfpfcnpefaaaGreatK23
import Derived.KernelRfl
namespace Go.Am
open Go.RowKit (Below)
section
variable {P : Program} {w0 w : World} {m : Mp} {σ σ' : S} {T T' : Tm} {a : Act} {v : AVal} {call : Caller} {nt : Nat}
/-! Sets as numbers. -/
theorem hasBit_eq (m i : Nat) : hasBit m i = Nat.testBit m i := by
  unfold hasBit Nat.testBit
  show (match Nat.beq (1 &&& m >>> i) 0 with | true => false | false => true) = ((1 &&& m >>> i) != 0)
  generalize (1 &&& m >>> i) = x
  cases x <;> rfl
theorem testBit_lor (a b i : Nat) : Nat.testBit (Nat.lor a b) i = (Nat.testBit a i || Nat.testBit b i) := Nat.testBit_or a b i
theorem testBit_bitN (i j : Nat) : Nat.testBit (bitN i) j = decide (i = j) := by
  show Nat.testBit (1 <<< i) j = _
  rw [Nat.one_shiftLeft, Nat.testBit_two_pow]
theorem apart_iff {a b : Nat} (h : apart a b = true) (i : Nat) (ha : Nat.testBit a i = true) : Nat.testBit b i = false := by
  have h0 : a &&& b = 0 := Nat.eq_of_beq_eq_true h
  have : Nat.testBit (a &&& b) i = false := by rw [h0, Nat.zero_testBit]
  rw [Nat.testBit_and, ha, Bool.true_and] at this
  exact this
theorem maskN_iff {l : List Nat} {i : Nat} : Nat.testBit (maskN l) i = true ↔ i ∈ l := by
  induction l with
  | nil => simp [maskN]
  | cons j l ih =>
    unfold maskN
    rw [testBit_lor, testBit_bitN, Bool.or_eq_true, decide_eq_true_eq, ih, List.mem_cons]
    exact ⟨fun h => h.imp Eq.symm id, fun h => h.imp Eq.symm id⟩
theorem maskS_of {l : List Slot} {s : Slot} (h : s ∈ l) : Nat.testBit (maskS l) s.nat = true := by
  induction l with
  | nil => cases h
  | cons t l ih =>
    unfold maskS
    rw [testBit_lor, show slotNat t = t.nat from rfl, testBit_bitN, Bool.or_eq_true, decide_eq_true_eq]
    cases h with
    | head => exact .inl rfl
    | tail _ h => exact .inr (ih h)
theorem dmask_of {p : POp} {s : Slot} (h : p.dst = some s) : Nat.testBit p.dmask s.nat = true := by
  unfold POp.dmask
  rw [h]
  show Nat.testBit (bitN s.nat) s.nat = true
  rw [testBit_bitN, decide_eq_true_eq]
theorem hasN_iff {i : Nat} {l : List Nat} : hasN i l = true ↔ i ∈ l := by
  induction l with
  | nil => exact ⟨fun h => (by cases h), fun h => (by cases h)⟩
  | cons j l ih =>
    unfold hasN
    cases hb : Nat.beq j i with
    | true => exact ⟨fun _ => by rw [Nat.eq_of_beq_eq_true hb]; exact List.mem_cons_self, fun _ => rfl⟩
    | false =>
      simp only
      rw [ih]
      refine ⟨fun h => List.mem_cons_of_mem _ h, fun h => ?_⟩
      cases h with
      | head => rw [Nat.beq_refl] at hb; cases hb
      | tail _ h => exact h
theorem apart_noClash {x y : POp} {lk : Nat} (hl : lk = Nat.lor (maskS y.looks) y.dmask) (h : apart x.dmask lk = true) : noClash x y = true := by
  refine noClash_iff.2 fun s hs => ?_
  have h1 := apart_iff h _ (dmask_of hs)
  rw [hl, testBit_lor, Bool.or_eq_false_iff] at h1
  refine ⟨fun hm => ?_, fun hd => ?_⟩
  · rw [maskS_of hm] at h1; cases h1.1
  · rw [dmask_of hd] at h1; cases h1.2
/-- A row is what it says. -/
structure MOk (P : Program) (nt : Nat) (ops : Array Oper) (x : MRow) : Prop where
  op : ∃ o, ops[x.ix]? = some o ∧ cpop P nt ops o = some x.p ∧ x.pl = preOf o
  d : x.d = x.p.dmask
  lk : x.lk = Nat.lor (maskS x.p.looks) x.p.dmask
  pre : x.pre = maskN x.pl
  q : x.q = x.p.isQ
  e : x.e = x.p.isE
  r : x.r = x.p.reads
  c : x.c = x.p.calm
theorem mrowsOf_ok {ops : Array Oper} : ∀ (l : List Oper) (i : Nat) (acc out : List MRow), mrowsOf P nt ops l i acc = some out → (∀ k o, l[k]? = some o → ops[i + k]? = some o) → (∀ x ∈ acc, MOk P nt ops x) → ∀ x ∈ out, MOk P nt ops x
  | [], i, acc, out, h, _, ha => by cases h; exact ha
  | o :: l, i, acc, out, h, hl, ha => by
    unfold mrowsOf at h
    split at h
    · rename_i p hp
      simp only [mrow, forceNat_eq, forceBool_eq] at h
      refine mrowsOf_ok l _ _ out h (fun k o' hk => ?_) (fun x hx => ?_)
      · have := hl (k + 1) o' (by simpa using hk)
        rw [← this]
        show ops[i.succ + k]? = _
        congr 1
        omega
      · cases hx with
        | head => exact ⟨⟨o, by simpa using hl 0 o rfl, hp, rfl⟩, rfl, rfl, rfl, rfl, rfl, rfl, rfl⟩
        | tail _ hx => exact ha x hx
    · cases h
theorem findQ_mem {done : Nat} {l : List MRow} {x : MRow} (h : findQ done l = some x) : x ∈ l := by
  induction l with
  | nil => cases h
  | cons y l ih =>
    unfold findQ at h
    split at h
    · split at h
      · cases h; exact List.mem_cons_self
      · exact List.mem_cons_of_mem _ (ih h)
    · exact List.mem_cons_of_mem _ (ih h)
theorem findE_mem {done : Nat} {l : List MRow} {x : MRow} (h : findE done l = some x) : x ∈ l := by
  induction l with
  | nil => cases h
  | cons y l ih =>
    unfold findE at h
    split at h
    · split at h
      · cases h; exact List.mem_cons_self
      · exact List.mem_cons_of_mem _ (ih h)
    · exact List.mem_cons_of_mem _ (ih h)
theorem findR_mem {done : Nat} {l : List MRow} {x : MRow} (h : findR done l = some x) : x ∈ l := by
  induction l with
  | nil => cases h
  | cons y l ih =>
    unfold findR at h
    split at h
    · cases h; exact List.mem_cons_self
    · exact List.mem_cons_of_mem _ (ih h)
theorem pickM_mem {done : Nat} {l : List MRow} {x : MRow} (h : pickM done l = some x) : x ∈ l := by
  unfold pickM at h
  split at h
  · rename_i y hy; cases h; exact findQ_mem hy
  · split at h
    · rename_i y hy; cases h; exact findE_mem hy
    · exact findR_mem h
theorem without_eq {R : Type} (i : Nat) : ∀ (l : List MRow) (k : List MRow → R), ∃ l', without i l k = k l' ∧ ∀ x ∈ l', x ∈ l
  | [], k => ⟨[], rfl, fun _ h => h⟩
  | x :: l, k => by
    unfold without
    cases Nat.beq x.ix i with
    | true => exact ⟨l, rfl, fun _ h => List.mem_cons_of_mem _ h⟩
    | false =>
      obtain ⟨l', h1, h2⟩ := without_eq i l fun l => k (x :: l)
      refine ⟨x :: l', h1, fun y hy => ?_⟩
      cases hy with
      | head => exact List.mem_cons_self
      | tail _ hy => exact List.mem_cons_of_mem _ (h2 y hy)
theorem without_ind {R : Type} {Q : R → Prop} {i : Nat} {l : List MRow} {k : List MRow → R} (h : ∀ l' : List MRow, (∀ x ∈ l', x ∈ l) → Q (k l')) : Q (without i l k) := by
  obtain ⟨l', h1, h2⟩ := without_eq i l k
  rw [h1]; exact h l' h2
theorem cksM_eq {R : Type} (anc : Nat) : ∀ (l : List MRow) (k : List Nat → Nat → R), ∃ c m, cksM anc l k = k c m
  | [], k => ⟨[], 0, rfl⟩
  | x :: l, k => by
    unfold cksM
    cases x.r with
    | false => exact cksM_eq anc l k
    | true =>
      simp only
      cases hasBit anc x.ix with
      | true => exact cksM_eq anc l k
      | false =>
        obtain ⟨c, m, h⟩ := cksM_eq anc l fun c m => forceNat (Nat.lor m x.lk) fun m => k (x.ix :: c) m
        simp only
        rw [h, forceNat_eq]
        exact ⟨_, _, rfl⟩
theorem mem_revM {α : Type} {x : α} : ∀ {l acc : List α}, x ∈ revM l acc ↔ x ∈ l ∨ x ∈ acc
  | [], acc => by simp [revM]
  | y :: l, acc => by
    unfold revM
    rw [mem_revM (l := l)]
    simp only [List.mem_cons]
    constructor
    · rintro (h | h | h)
      · exact .inl (.inr h)
      · exact .inl (.inl h)
      · exact .inr h
    · rintro ((h | h) | h)
      · exact .inr (.inl h)
      · exact .inl h
      · exact .inr (.inr h)
theorem planM_mem {M : MRow → Prop} : ∀ (f done : Nat) (dl left : List MRow) (acc : List PRow), (∀ x ∈ left, M x) → (∀ x ∈ acc, M x.m) → ∀ x ∈ planM f done dl left acc, M x.m
  | 0, done, dl, left, acc, _, ha, x, hx => by
    unfold planM at hx
    rcases mem_revM.1 hx with h | h
    · exact ha x h
    · cases h
  | f + 1, done, dl, left, acc, hl, ha, x, hx => by
    unfold planM at hx
    split at hx
    · cases hx
    · rename_i r hr
      revert hx
      refine without_ind (Q := fun z => x ∈ z → M x.m) fun l' h2 => ?_
      rw [forceNat_eq]
      intro hx
      have hrl := hl r (pickM_mem hr)
      have hl' : ∀ x ∈ l', M x := fun x hx => hl x (h2 x hx)
      cases he : r.e with
      | false =>
        rw [he] at hx
        refine planM_mem f _ _ _ _ hl' (fun y hy => ?_) x hx
        cases hy with
        | head => exact hrl
        | tail _ hy => exact ha y hy
      | true =>
        rw [he] at hx
        simp only at hx
        obtain ⟨c, m, h3⟩ := cksM_eq r.anc dl fun c m => planM f (Nat.lor done (bitN r.ix)) (r :: dl) l' (⟨r, c, m⟩ :: acc)
        rw [h3] at hx
        refine planM_mem f _ _ _ _ hl' (fun y hy => ?_) x hx
        cases hy with
        | head => exact hrl
        | tail _ hy => exact ha y hy
def PRow.toD (n : Nat) (x : PRow) : DRow := ⟨x.m.ix, x.m.p, x.cks, x.m.pl, (List.range n).filter fun k => hasBit x.m.anc k⟩
theorem opsIn_eq (n : Nat) (x : PRow) : ∀ (l : List PRow), opsIn x.cks l = checksOf (l.map (PRow.toD n)) (x.toD n)
  | [] => rfl
  | z :: l => by
    unfold opsIn checksOf
    have ih := opsIn_eq n x l
    unfold checksOf at ih
    rw [List.map_cons, List.filter_cons]
    have hc : (x.toD n).cks.contains (z.toD n).ix = hasN z.m.ix x.cks := by
      rw [Bool.eq_iff_iff, List.contains_iff_mem, hasN_iff]; exact Iff.rfl
    rw [hc]
    cases hasN z.m.ix x.cks with
    | true => simp only [if_true, List.map_cons]; rw [ih]; rfl
    | false => simp only [Bool.false_eq_true, if_false]; exact ih
theorem opsIn_nil : ∀ (l : List PRow), opsIn [] l = []
  | [] => rfl
  | z :: l => by unfold opsIn; exact opsIn_nil l
theorem dopM_eq (n : Nat) (l : List PRow) (x : PRow) : dopM l x = dopOf (l.map (PRow.toD n)) (x.toD n) := by
  unfold dopM dopOf
  have h := opsIn_eq n x l
  cases hc : x.cks with
  | nil => rw [hc, opsIn_nil] at h; simp only; rw [← h]; rfl
  | cons c r => rw [hc] at h; simp only; rw [← h]; rfl
theorem cmOk_of {cks : List Nat} {cm : Nat} : ∀ {all : List PRow}, cmOk all cks cm = true → ∀ z ∈ all, z.m.ix ∈ cks → ∀ i, Nat.testBit z.m.lk i = true → Nat.testBit cm i = true
  | [], _, z, hz => by cases hz
  | y :: all, h, z, hz => by
    unfold cmOk at h
    cases hy : hasN y.m.ix cks with
    | true =>
      rw [hy] at h
      simp only [Bool.and_eq_true] at h
      cases hz with
      | head =>
        intro _ i hi
        have := Nat.eq_of_beq_eq_true h.1
        rw [← this, testBit_lor, hi]; rfl
      | tail _ hz => exact cmOk_of h.2 z hz
    | false =>
      rw [hy] at h
      cases hz with
      | head => intro hm; rw [hasN_iff.2 hm] at hy; cases hy
      | tail _ hz => exact cmOk_of h z hz
theorem ancsM_of {pre k : Nat} : ∀ {l : List PRow}, Nat.testBit (ancsM pre l) k = true → Nat.testBit pre k = true ∨ ∃ z ∈ l, Nat.testBit pre z.m.ix = true ∧ Nat.testBit z.m.anc k = true
  | [], h => .inl h
  | z :: l, h => by
    unfold ancsM at h
    cases hz : hasBit pre z.m.ix with
    | true =>
      rw [hz] at h
      simp only at h
      rw [testBit_lor, Bool.or_eq_true] at h
      rcases h with h | h
      · exact .inr ⟨z, List.mem_cons_self, by rw [← hasBit_eq]; exact hz, h⟩
      · exact (ancsM_of h).imp id fun ⟨y, h1, h2⟩ => ⟨y, List.mem_cons_of_mem _ h1, h2⟩
    | false =>
      rw [hz] at h
      exact (ancsM_of h).imp id fun ⟨y, h1, h2⟩ => ⟨y, List.mem_cons_of_mem _ h1, h2⟩
theorem rowM_of {all : List PRow} {x : PRow} (h : rowM all x = true) : (∀ k, Nat.testBit x.m.anc k = true → Nat.testBit (ancsM x.m.pre all) k = true) ∧ (x.m.r = true → apart x.m.d (maskS x.m.p.looks) = true) ∧ (x.cks = [] ∨ cmOk all x.cks x.cm = true) := by
  unfold rowM at h
  split at h
  · cases h
  · rename_i h1
    split at h
    · cases h
    · rename_i h2
      refine ⟨fun k hk => ?_, implies_iff.1 h2, ?_⟩
      · rw [← Nat.eq_of_beq_eq_true h1, testBit_lor, hk]; rfl
      · split at h
        · rename_i hc; exact .inl hc
        · rename_i c l hc; rw [hc]; exact .inr h
theorem rowsM_of {all : List PRow} : ∀ {l : List PRow}, rowsM all l = true → ∀ x ∈ l, rowM all x = true
  | [], _, x, hx => by cases hx
  | y :: l, h, x, hx => by
    unfold rowsM at h
    split at h
    · rename_i hy
      cases hx with
      | head => exact hy
      | tail _ hx => exact rowsM_of h x hx
    · cases h
theorem reads_isQ {p : POp} (h : p.reads = true) : p.isQ = true := by
  obtain ⟨d, g, k⟩ := p
  cases k <;> first | rfl | cases h
theorem isE_notQ {p : POp} (h : p.isE = true) : p.isQ = false := by
  obtain ⟨d, g, k⟩ := p
  cases k <;> first | rfl | cases h
theorem pairM_of {ops : Array Oper} {all : List PRow} {x y : PRow} (hx : MOk P nt ops x.m) (hy : MOk P nt ops y.m) (hall : ∀ z ∈ all, MOk P nt ops z.m) (hr : rowM all x = true) (h : pairM x y = true) : Pair (all.map (PRow.toD ops.size)) (x.toD ops.size) (y.toD ops.size) := by
  unfold pairM at h
  split at h
  · cases h
  · rename_i h1
    split at h
    · cases h
    · rename_i h2
      have h2 := implies_iff.1 h2
      refine ⟨fun e => ?_, fun hrd => ?_, fun hu => ?_⟩
      · have e : x.m.ix = y.m.ix := e
        rw [e, Nat.beq_refl] at h1; cases h1
      · have := h2 (by rw [hx.r]; exact hrd)
        rw [hy.d] at this
        exact apart_noClash hx.lk this
      · have hlt : x.m.ix < ops.size := by
          obtain ⟨o, ho, _⟩ := hx.op
          exact (Array.getElem?_eq_some_iff.1 ho).1
        have hb : hasBit y.m.anc x.m.ix = false := by
          cases hb : hasBit y.m.anc x.m.ix with
          | false => rfl
          | true =>
            have : x.m.ix ∈ (y.toD ops.size).anc := List.mem_filter.2 ⟨List.mem_range.2 hlt, hb⟩
            rw [← Bool.not_eq_true, List.contains_iff_mem] at hu
            exact absurd this hu
        rw [hb] at h
        simp only at h
        split at h
        · cases h
        · rename_i a1
          split at h
          · cases h
          · rename_i a2
            have n1 : noClash x.m.p y.m.p = true := apart_noClash hy.lk (by rw [← hx.d]; exact a1)
            have n2 : noClash y.m.p x.m.p = true := apart_noClash hx.lk (by rw [← hy.d]; exact a2)
            cases hq : x.m.q with
            | true =>
              have hxq : x.m.p.isQ = true := by rw [← hx.q]; exact hq
              refine ⟨n1, n2, .inl hxq, fun hrd he => ?_, fun he => ?_⟩
              · rw [hq] at h
                have he' : y.m.e = true := by rw [hy.e]; exact he
                simp only [he'] at h
                have := implies_iff.1 h (by rw [hx.r]; exact hrd)
                exact List.contains_iff_mem.2 (hasN_iff.1 this)
              · have he : x.m.p.isE = true := he
                rw [isE_notQ he] at hxq; cases hxq
            | false =>
              have hxq : x.m.p.isQ = false := by rw [← hx.q]; exact hq
              rw [hq] at h
              simp only at h
              split at h
              · cases h
              · rename_i hc
                refine ⟨n1, n2, .inr (by show y.m.p.calm = true; rw [← hy.c]; exact hc), fun hrd => ?_, fun he z hz => ?_⟩
                · have hrd : x.m.p.reads = true := hrd
                  rw [reads_isQ hrd] at hxq; cases hxq
                · have hap := implies_iff.1 h (by rw [hx.e]; exact he)
                  unfold checksOf at hz
                  obtain ⟨zd, hzd, rfl⟩ := List.mem_map.1 hz
                  obtain ⟨hz1, hz2⟩ := List.mem_filter.1 hzd
                  obtain ⟨zr, hzr, rfl⟩ := List.mem_map.1 hz1
                  have hz2 : zr.m.ix ∈ x.cks := List.contains_iff_mem.1 hz2
                  have hcm : cmOk all x.cks x.cm = true := by
                    rcases (rowM_of hr).2.2 with h0 | h0
                    · rw [h0] at hz2; cases hz2
                    · exact h0
                  refine apart_noClash (hall zr hzr).lk ?_
                  show apart y.m.p.dmask zr.m.lk = true
                  rw [← hy.d]
                  have hz0 : y.m.d &&& zr.m.lk = 0 := by
                    apply Nat.eq_of_testBit_eq
                    intro i
                    rw [Nat.testBit_and, Nat.zero_testBit]
                    cases hd : Nat.testBit y.m.d i with
                    | false => rfl
                    | true =>
                      rw [Bool.true_and]
                      cases hl : Nat.testBit zr.m.lk i with
                      | false => rfl
                      | true =>
                        have h1 := cmOk_of hcm zr hzr hz2 i hl
                        rw [apart_iff hap i hd] at h1; cases h1
                  show Nat.beq (y.m.d &&& zr.m.lk) 0 = true
                  rw [hz0]; rfl
theorem pairsM1_of {x : PRow} : ∀ {l : List PRow}, pairsM1 x l = true → ∀ y ∈ l, pairM x y = true
  | [], _, y, hy => by cases hy
  | z :: l, h, y, hy => by
    unfold pairsM1 at h
    split at h
    · rename_i hz
      cases hy with
      | head => exact hz
      | tail _ hy => exact pairsM1_of h y hy
    · cases h
theorem pairsM_of {ops : Array Oper} {all : List PRow} (hall : ∀ z ∈ all, MOk P nt ops z.m) (hrows : ∀ z ∈ all, rowM all z = true) : ∀ {l : List PRow}, (∀ x ∈ l, x ∈ all) → pairsM l = true → (l.map (PRow.toD ops.size)).Pairwise (Pair (all.map (PRow.toD ops.size)))
  | [], _, _ => .nil
  | x :: l, hs, h => by
    unfold pairsM at h
    split at h
    · rename_i hx
      have hxa := hs x List.mem_cons_self
      refine .cons (fun y hy => ?_) (pairsM_of hall hrows (fun y hy => hs y (List.mem_cons_of_mem _ hy)) h)
      obtain ⟨y', hy', rfl⟩ := List.mem_map.1 hy
      exact pairM_of (hall x hxa) (hall y' (hs y' (List.mem_cons_of_mem _ hy'))) hall (hrows x hxa) (pairsM1_of hx y' hy')
    · cases h
theorem topoM_of {ops : Array Oper} : ∀ {l : List PRow} {done : Nat} {L : Nat → Prop}, (∀ x ∈ l, MOk P nt ops x.m) → (∀ j, Nat.testBit done j = true → L j) → topoM done l = true → Topo L (l.map (PRow.toD ops.size))
  | [], _, _, _, _, _ => trivial
  | x :: l, done, L, hm, hd, h => by
    unfold topoM at h
    split at h
    · rename_i hr
      have hx := hm x List.mem_cons_self
      refine ⟨fun j hj => hd j ?_, topoM_of (done := Nat.lor done (bitN x.m.ix)) (fun y hy => hm y (List.mem_cons_of_mem _ hy)) (fun j hj => ?_) h⟩
      · have hj : j ∈ x.m.pl := hj
        have h1 : Nat.testBit x.m.pre j = true := by rw [hx.pre]; exact maskN_iff.2 hj
        have h2 : x.m.pre &&& done = x.m.pre := Nat.eq_of_beq_eq_true hr
        rw [← h2, Nat.testBit_and, Bool.and_eq_true] at h1
        exact h1.2
      · rw [testBit_lor, testBit_bitN, Bool.or_eq_true, decide_eq_true_eq] at hj
        exact hj.imp (hd j) Eq.symm
    · cases h
theorem lenP_eq (l : List PRow) : lenP l = l.length := by induction l <;> simp [lenP, *]
theorem ixsM_of {k : Nat} : ∀ {l : List PRow}, Nat.testBit (ixsM l) k = true → ∃ x ∈ l, x.m.ix = k
  | [], h => by simp [ixsM] at h
  | x :: l, h => by
    unfold ixsM at h
    rw [testBit_lor, testBit_bitN, Bool.or_eq_true, decide_eq_true_eq] at h
    rcases h with h | h
    · exact ⟨x, List.mem_cons_self, h⟩
    · obtain ⟨y, h1, h2⟩ := ixsM_of h; exact ⟨y, List.mem_cons_of_mem _ h1, h2⟩
theorem planOf_ok {ops : Array Oper} {l : List DOp} (h : planOf P nt ops = some l) : ∃ all, Plan P nt ops all ∧ l = all.map (dopOf all) := by
  unfold planOf at h
  split at h
  · rename_i rows hrows
    generalize hpl : planM ops.size 0 [] (revM rows []) [] = pl at h
    simp only at h
    split at h
    · rename_i hc
      cases h
      have hm1 : ∀ x ∈ rows, MOk P nt ops x := mrowsOf_ok _ 0 [] rows hrows (fun k o hk => by simpa using hk) (fun x hx => by cases hx)
      have hm : ∀ x ∈ pl, MOk P nt ops x.m := by
        rw [← hpl]
        refine planM_mem _ _ _ _ _ (fun x hx => ?_) (fun x hx => by cases hx)
        rcases mem_revM.1 hx with h | h
        · exact hm1 x h
        · cases h
      unfold chkM at hc
      simp only [Bool.and_eq_true] at hc
      obtain ⟨c1, c2, c3, c4, c5⟩ := hc
      have hrw := rowsM_of c4
      refine ⟨pl.map (PRow.toD ops.size), ⟨?_, pairsM_of hm hrw (fun x hx => hx) c5, ?_, ?_, ?_, ?_, topoM_of hm (fun j hj => by simp at hj) c3⟩, ?_⟩
      · intro r hr
        obtain ⟨x, hx, rfl⟩ := List.mem_map.1 hr
        obtain ⟨o, h1, h2, h3⟩ := (hm x hx).op
        exact ⟨o, h1, cpop_ok h2, h3⟩
      · intro r hr hrd
        obtain ⟨x, hx, rfl⟩ := List.mem_map.1 hr
        have := (rowM_of (hrw x hx)).2.1 (by rw [(hm x hx).r]; exact hrd)
        show selfApart x.m.p = true
        unfold selfApart
        split
        · rfl
        · rename_i s hs
          rw [Bool.not_eq_true', ← Bool.not_eq_true, slotIn_iff]
          intro hmem
          rw [(hm x hx).d] at this
          have h1 := apart_iff this _ (dmask_of hs)
          rw [maskS_of hmem] at h1; cases h1
      · intro r hr k hk
        obtain ⟨x, hx, rfl⟩ := List.mem_map.1 hr
        obtain ⟨hk1, hk2⟩ := List.mem_filter.1 hk
        rw [hasBit_eq] at hk2
        rcases ancsM_of ((rowM_of (hrw x hx)).1 k hk2) with h | ⟨z, hz, z1, z2⟩
        · rw [(hm x hx).pre] at h; exact .inl (maskN_iff.1 h)
        · rw [(hm x hx).pre] at z1
          exact .inr ⟨z.toD ops.size, List.mem_map.2 ⟨z, hz, rfl⟩, maskN_iff.1 z1, List.mem_filter.2 ⟨hk1, by rw [hasBit_eq]; exact z2⟩⟩
      · rw [List.length_map, ← lenP_eq]; exact Nat.eq_of_beq_eq_true c1
      · intro j hj
        have h2 : Nat.succ (ixsM pl) = bitN ops.size := Nat.eq_of_beq_eq_true c2
        have h3 : ixsM pl = 2 ^ ops.size - 1 := by
          have : bitN ops.size = 2 ^ ops.size := Nat.one_shiftLeft _
          rw [this] at h2; omega
        have h4 : Nat.testBit (ixsM pl) j = true := by rw [h3, Nat.testBit_two_pow_sub_one]; simpa using hj
        obtain ⟨x, hx, hxj⟩ := ixsM_of h4
        exact ⟨x.toD ops.size, List.mem_map.2 ⟨x, hx, rfl⟩, hxj⟩
      · rw [List.map_map]
        apply List.map_congr_left
        intro x _
        exact dopM_eq _ _ _
    · cases h
  · cases h
theorem draw_sim (hm : P.follows .mixedOrders = true) (hC : SimCall P w0 call) (hF : Framed call) : DrawSim P w0 call := by
  intro nt ops l id T σ m a w T' σ' σ1 Q hl hb hv hR K
  obtain ⟨all, hP, rfl⟩ := planOf_ok hl
  obtain ⟨nx, k1, rfl⟩ := bumpN_eq hb
  have hn := Pos.plus_nat k1
  have hW : WR w0 m ⟨σ.heap, nx, σ.fams, σ.maps⟩ { w with drawn := w.drawn + 1 } := by
    have h := hR.wr.drawn (w.drawn + 1)
    exact ⟨h.below, fun b mi hb => ⟨by have := (h.dom b mi hb).1; simp only; omega, (h.dom b mi hb).2⟩, h.blk, h.alias, h.fam, fun p hp => h.tidy p (by simp only at hp; omega), h.mp, h.mpi⟩
  refine wp_region_any hm ?_
  refine draw_walk (base := σ.next) (σ0 := σ) (m0 := m) hC hF hP rfl K all ops.size _ T ⟨σ.heap, nx, σ.fams, σ.maps⟩ m a _ hP.len ⟨⟨hW, hR.tr, hR.size, hR.defers⟩, hv, fun x hx => hx, hP.pairs, by simp, ?_, ?_, ?_, ?_, ?_⟩ ⟨m.le_refl, fun _ _ => rfl, by simp only; omega⟩
  · intro x hx
    simp [Array.getD_eq_getD_getElem?, Array.getElem?_replicate]
    split <;> rfl
  · intro j hj; exact .inr (hP.cover j hj)
  · exact hP.topo.mono fun j hj => hj.elim
  · intro r hr hlr
    simp [Array.getD_eq_getD_getElem?, Array.getElem?_replicate] at hlr
    split at hlr <;> cases hlr
  · intro x hx
    obtain ⟨o, ho, _, _⟩ := hP.op x hx
    have hlt := (Array.getElem?_eq_some_iff.1 ho).1
    refine ⟨fun q hq p hp => ?_, fun q hq p hp => ?_⟩
    · have hpn := Pos.plus_nat hp
      obtain ⟨t1, t2, t3⟩ := hR.wr.tidy p (by omega)
      exact ⟨⟨hR.wr.fresh' (by omega), t1, t2, t3⟩, by simp only; omega⟩
    · have hpn := Pos.plus_nat hp
      exact hR.wr.fresh (by omega)
/-- THE THEOREM. -/
theorem sound {tab : Nat → Option PFn} (hm : P.follows .mixedOrders = true) (hT : ∀ f p, tab f = some p → tabOf P f = some p ∨ HookOk P f p) (n : Nat) : SimCall P w0 (evalF tab n) :=
  sim hT (fun n h => draw_sim hm h (eval_fr tab n)) n
/-- The empty memory. -/
noncomputable def S.start : S := ⟨Tr.empty, Pos.first, Tr.empty, Tr.empty⟩
theorem WR.start (w : World) : WR w (fun _ => none) S.start w := by
  refine ⟨Below.refl _ _, fun b mi h => (by cases h), fun b blk h => ?_, fun b b' blk blk' mi mi' h => ?_, fun b blk root vb h => ?_, fun p hp => ⟨Tr.get_empty p, fun root => ?_, fun b blk root vb h => ?_⟩, fun b mb h => ?_, fun b b' mb mb' mi mi' h => ?_⟩
  · rw [show S.start.heap = Tr.empty from rfl, Tr.get_empty] at h; cases h
  · rw [show S.start.heap = Tr.empty from rfl, Tr.get_empty] at h; cases h
  · rw [show S.start.heap = Tr.empty from rfl, Tr.get_empty] at h; cases h
  · rw [show S.start.fams = Tr.empty from rfl]; unfold famOf; rw [Tr.get_empty]; exact List.not_mem_nil
  · rw [show S.start.heap = Tr.empty from rfl, Tr.get_empty] at h; cases h
  · rw [show S.start.maps = Tr.empty from rfl, Tr.get_empty] at h; cases h
  · rw [show S.start.maps = Tr.empty from rfl, Tr.get_empty] at h; cases h
/-- A CALL WITHOUT ARGUMENTS THAT THE EVALUATOR ANSWERS WITH A BOOLEAN. -/
theorem calls_closed {tab : Nat → Option PFn} (hm : P.follows .mixedOrders = true) (hT : ∀ f p, tab f = some p → tabOf P f = some p ∨ HookOk P f p) {n f : Nat} {b : Bool} {σ' : S} (h : evalF tab n f [] S.start = some (.bool b, σ')) (w : World) :
    Calls P f #[] w fun | .returned x, w' => x = .bool b ∧ Below w.heap.size w w' | _, _ => False := by
  obtain ⟨_, h2⟩ := sound (w0 := w) hm hT n f [] S.start (.bool b) σ' w (fun _ => none) #[] h (WR.start w) .nil
  refine Calls.mono h2 fun e w' he => ?_
  cases e with
  | returned x =>
    obtain ⟨m', h1, _, h3⟩ := he
    exact ⟨h1.bool, h3.below⟩
  | panicked c => exact he.elim
  | outgrown => exact he.elim
/-- The table laid out ahead is the table, but for what is known otherwise. -/
def TabOk (P : Program) (t : Tr PFn) : Prop := ∀ f p, tabT t f = some p → tabOf P f = some p ∨ HookOk P f p
theorem tabOk_empty : TabOk P Tr.empty := fun f p h => by
  unfold tabT at h
  obtain ⟨q, _, h2⟩ := andThen_eq.1 h
  rw [Tr.get_empty] at h2; cases h2
theorem tabOk_set {t : Tr PFn} {f : Nat} {q : Pos} {p : PFn} (h : TabOk P t) (hf : tabOf P f = some p ∨ HookOk P f p) (hq : Pos.ofNat f = some q) : TabOk P (Tr.set q (some p) t) := fun f' p' h' => by
  unfold tabT at h'
  obtain ⟨q', h1, h2⟩ := andThen_eq.1 h'
  rw [Tr.get_set] at h2
  by_cases e : q' = q
  · rw [if_pos e] at h2; cases h2
    have h3 := Pos.ofNat_nat h1
    have h4 := Pos.ofNat_nat hq
    rw [e, h4] at h3; subst h3; exact hf
  · rw [if_neg e] at h2
    exact h f' p' (by unfold tabT; rw [h1]; exact h2)
theorem und_eq : und P.info? = P.underlying := by funext t; rfl
theorem cfnF_eq (fn : Func) : cfnF P P.underlying P.info? fn = cfn P fn := by kernel_rfl
def TypesOk (P : Program) (t : Tr TypeInfo) : Prop := ∀ q x, Tr.get q t = some x → P.info? q.nat = some x
theorem infoT_eq {t : Tr TypeInfo} (h : TypesOk P t) : infoT P t = P.info? := by
  funext i
  unfold infoT
  split
  · rename_i x hx
    obtain ⟨p, h1, h2⟩ := andThen_eq.1 hx
    have := h p x h2
    rw [Pos.ofNat_nat h1] at this
    exact this.symm
  · rfl
theorem layTypes_ok {k : Tr TypeInfo → Bool} : ∀ (l : List TypeInfo) (i : Nat) (t : Tr TypeInfo), TypesOk P t → (∀ j x, l[j]? = some x → P.info? (i + j) = some x) → layTypes l i t k = true → ∃ t, TypesOk P t ∧ k t = true
  | [], i, t, ht, _, h => ⟨t, ht, h⟩
  | x :: l, i, t, ht, hl, h => by
    unfold layTypes at h
    split at h
    · rename_i q hq
      rw [forcePos_eq] at h
      obtain ⟨a1, a2, a3, a4, a5, a6, a7, a8, a9, b1⟩ := x
      simp only [Tr.setK_eq, forceNat_eq] at h
      refine layTypes_ok l _ _ (fun q' x' hq' => ?_) (fun j x' hj => ?_) h
      · rw [Tr.get_set] at hq'
        by_cases e : q' = q
        · rw [if_pos e] at hq'; cases hq'
          rw [e, Pos.ofNat_nat hq]
          exact hl 0 _ rfl
        · rw [if_neg e] at hq'; exact ht q' x' hq'
      · have := hl (j + 1) x' (by simpa using hj)
        rw [show i.succ + j = i + (j + 1) by omega]
        exact this
    · cases h
theorem hookOf_mem {hk : List (Nat × PFn)} {f : Nat} {p : PFn} (h : hookOf hk f = some p) : (f, p) ∈ hk := by
  induction hk with
  | nil => cases h
  | cons x hk ih =>
    obtain ⟨g, q⟩ := x
    unfold hookOf at h
    split at h
    · rename_i hb
      cases h
      rw [Nat.eq_of_beq_eq_true hb]; exact List.mem_cons_self
    · exact List.mem_cons_of_mem _ (ih h)
theorem layOne_ok {k : Tr PFn → Bool} {f : Nat} {fn : Option PFn} {t : Tr PFn} (ht : TabOk P t) (hf : ∀ p, fn = some p → tabOf P f = some p ∨ HookOk P f p) (h : layOne f fn t k = true) : ∃ t, TabOk P t ∧ k t = true := by
  unfold layOne at h
  split at h
  · rename_i p
    split at h
    · rename_i q hq
      rw [forcePos_eq, forceFn_eq, Tr.setK_eq] at h
      exact ⟨_, tabOk_set ht (hf p rfl) hq, h⟩
    · cases h
  · exact ⟨t, ht, h⟩
theorem layFns_ok {k : Tr PFn → Bool} {hk : List (Nat × PFn)} {need : Nat} (hh : ∀ f p, (f, p) ∈ hk → HookOk P f p) : ∀ (l : List Func) (f : Nat) (t : Tr PFn), TabOk P t → (∀ j fn, l[j]? = some fn → P.funcs[f + j]? = some fn) →
    layFns P P.info? hk need l f t k = true → ∃ t, TabOk P t ∧ k t = true
  | [], f, t, ht, _, h => ⟨t, ht, h⟩
  | fn :: l, f, t, ht, hl, h => by
    have hl' : ∀ j fn', l[j]? = some fn' → P.funcs[Nat.succ f + j]? = some fn' := fun j fn' hj => by
      have := hl (j + 1) fn' (by simpa using hj)
      rw [show f.succ + j = f + (j + 1) by omega]
      exact this
    unfold layFns at h
    split at h
    · rw [forceNat_eq] at h
      exact layFns_ok hh l _ t ht hl' h
    · split at h
      · rename_i p hp
        obtain ⟨t', h1, h2⟩ := layOne_ok ht (fun q hq => by cases hq; exact .inr (hh f _ (hookOf_mem hp))) h
        rw [forceNat_eq] at h2
        exact layFns_ok hh l _ t' h1 hl' h2
      · rw [und_eq, cfnF_eq] at h
        obtain ⟨t', h1, h2⟩ := layOne_ok ht (fun q hq => by
          left
          unfold tabOf
          have := hl 0 fn rfl
          rw [Nat.add_zero] at this
          rw [this]; exact hq) h
        rw [forceNat_eq] at h2
        exact layFns_ok hh l _ t' h1 hl' h2
/-- IF A TEST OF THE LAID TABLE SAYS YES, A TABLE IS THERE FOR WHICH IT DOES. -/
theorem layTab_ok {k : Tr PFn → Bool} {hk : List (Nat × PFn)} {need : Nat} (hh : ∀ f p, (f, p) ∈ hk → HookOk P f p) (h : layTab P hk need k = true) : ∃ t, TabOk P t ∧ k t = true := by
  unfold layTab at h
  obtain ⟨types, h1, h2⟩ := layTypes_ok (P := P) P.types.toList 0 Tr.empty (fun q x hq => by rw [Tr.get_empty] at hq; cases hq) (fun j x hj => by
    rw [Nat.zero_add]
    have hj : P.types[j]? = some x := by rw [← Array.getElem?_toList]; exact hj
    have hlt := (Array.getElem?_eq_some_iff.1 hj).1
    show Tables.info? _ j = _
    unfold Tables.info?
    rw [if_pos hlt]; exact hj) h
  rw [infoT_eq h1] at h2
  exact layFns_ok hh _ 0 _ tabOk_empty (fun j fn hj => by rw [Nat.zero_add, ← Array.getElem?_toList]; exact hj) h2
noncomputable def isTrue (o : Option (AVal × S)) : Bool := match o with
  | some x => match x with
    | (v, _) => match v with
      | .bool b => b
      | _ => false
  | none => false
theorem isTrue_iff {o : Option (AVal × S)} (h : isTrue o = true) : ∃ σ', o = some (.bool true, σ') := by
  unfold isTrue at h
  split at h
  · split at h
    rename_i v σ'
    split at h
    · subst h; exact ⟨σ', rfl⟩
    · cases h
  · cases h
/-- ONE TEST BY THE KERNEL. -/
theorem closed {hk : List (Nat × PFn)} {need n f : Nat} (hm : P.follows .mixedOrders = true) (hh : ∀ f p, (f, p) ∈ hk → HookOk P f p) (h : layTab P hk need (fun t => isTrue (evalF (tabT t) n f [] S.start)) = true) (w : World) :
    Calls P f #[] w fun | .returned x, w' => x = .bool true ∧ Below w.heap.size w w' | _, _ => False := by
  obtain ⟨t, ht, h⟩ := layTab_ok hh h
  obtain ⟨σ', h⟩ := isTrue_iff h
  exact calls_closed hm ht h w
end
end Go.Am
