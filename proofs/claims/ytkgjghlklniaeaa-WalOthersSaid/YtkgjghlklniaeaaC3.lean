/-
  What the functions do, as conditions over the evaluator. Conditions: none.
-/
import Derived.Test.YtkgjghlklniaeaaC2
namespace Go.Am
section
variable {tab : Nat → Option PFn} {σ : S} {Q : AVal → S → Prop} {G M : Nat → Prop} {l d : Pos} {L : Lg} {D : Dk} {rv : AVal} {mr : Nat}
noncomputable def appB (L : Lg) (j : Nat) (rs : List (List Nat)) : List Nat := begunF L ++ framesF L.hd.age j rs
inductive AppOut (L : Lg) (D : Dk) (i : Int) (rs : List (List Nat)) : Int → Lg → Dk → Prop
  | arg : (¬ L.takes i rs.length ∨ ∃ r ∈ rs, 16284 < r.length) → AppOut L D i rs 1 L D
  | off : L.takes i rs.length → D.off = true → AppOut L D i rs 11 L D
  | noop : L.takes i rs.length → D.off = false → rs = [] → (L.recs ≠ [] ∨ i = L.first) → AppOut L D i rs 0 L D
  | left {j : Nat} {e : Int} {L' : Lg} {D' : Dk} : i = j → L.takes i rs.length → D.off = false → rs = [] → L.recs = [] → j ≠ L.first → LeftOut L D 4 j j [] e L' D' → AppOut L D i rs e L' D'
  | fail {j : Nat} {e : Int} {L' : Lg} {D' : Dk} : i = j → L.takes i rs.length → D.off = false → rs ≠ [] → (∀ r ∈ rs, r.length ≤ 16284) → PutOut L.hd D (appB L j rs) e L' D' → e ≠ 0 → AppOut L D i rs e L' D'
  | ok {j : Nat} {L' : Lg} {D' : Dk} : i = j → L.takes i rs.length → D.off = false → rs ≠ [] → (∀ r ∈ rs, r.length ≤ 16284) → PutOut L.hd D (appB L j rs) 0 L' D' → AppOut L D i rs 0 (L'.adds j rs) D'
theorem append_o (ht : Tab tab) (ho : Ok σ) (h : WL σ G l d L D rv mr M) (hok : LgOk L) (hdk : DkOk D) (hwn : D.wait.length + 10 < 1000000000) (hfile : L.file = 8 ∨ L.file = 9) (hage : L.age < 1152921504606846975) {v : AVal} {rs : List (List Nat)} {m : Nat} {i : Int} (hi : -9223372036854775808 ≤ i ∧ i ≤ 9223372036854775807)
    (hv : SlAt σ v 1 rs.length (strs rs) m) (hrs : ∀ r ∈ rs, Bytes r ∧ r.length ≤ 20000) (hrl : rs.length ≤ 100) (hmm : rs ≠ [] → ¬ M m) (hmany : L.recs.length ≤ 999990000) (hlive : L.live ≤ 99999900000000)
    (hQ : ∀ e L' D', AppOut L D i rs e L' D' → Then σ G M l d L' D' (Q (.int .i64 e))) : WF tab 18 [.ptr l 0, .int .i64 i, v] σ Q := by
  refine f18_wf ht.t18 ?_
  unfold f18
  refine Som_of hv.len ?_
  refine takes_c ht ho h.lg hok (n := rs.length) (by omega) hi fun σ1 k1 => ?_
  refine Som_of (un_not _) ?_
  by_cases htk : L.takes i rs.length
  case neg =>
    rw [decide_eq_false htk, show (!false) = true from rfl, WIf_true, Ret_1 rfl]
    exact Then.here (hQ _ _ _ (.arg (.inl htk))) h k1
  rw [decide_eq_true htk, show (!true) = false from rfl, WIf_false]
  have h1 := h.keep0 k1
  have hv1 := hv.keep (M := fun _ => False) (fun _ h => h) k1
  refine Som_of hv1.len ?_
  refine app_loop0 (l := l) rs.length _ σ1 i 0 v rs m hv1 hrs (by omega) (by omega) (by simp) (by simp) (by simp) (by simp) (by simp) (by simp) (by simp) (fun hb => ?_) (fun hsm E e1 e0 e2 => ?_)
  · exact Then.here (hQ _ _ _ (.arg (.inr hb))) h k1
  refine f18.p1_of ?_
  unfold f18.p1
  rw [e0, e1, e2]
  refine Som_of rfl (Som_of (vField0 _ _ _) (Som_of (ld h1.lg.blk rfl) ?_))
  have hd := h1
  obtain ⟨pf, ps, fv, sv, wv, wc, mw, hd, _⟩ := hd
  refine off_c ht hd.dk ?_
  cases hoff : D.off with
  | true =>
    rw [WIf_true, Ret_1 rfl]
    exact Then.here (hQ _ _ _ (.off htk hoff)) h k1
  | false =>
  rw [WIf_false]
  have hf := hok.first; have hm := hok.many
  have hi0 : 0 ≤ i ∧ i ≤ 1099511627777 := by
    have h3 := htk.2.2
    by_cases hz : L.recs = []
    · have := htk.2.1 hz; omega
    · have := htk.1 hz; omega
  obtain ⟨j, hj⟩ := Int.eq_ofNat_of_zero_le hi0.1
  refine Som_of hv1.len (Som_of (bin_eql _ _ _ _) ?_)
  by_cases hz : rs = []
  · have hl0 : (rs.length : Int) = 0 := by rw [hz]; rfl
    rw [decide_eq_true hl0]
    refine Sq_of rfl rfl (Sq_of rfl rfl (Sq_of rfl (vField0 _ _ _) (Sq_of rfl (ld h1.lg.blk rfl) (Sq_of rfl h1.lg.rg.sl.len (Sq_of rfl (bin_gtr _ _ _ _) ?_)))))
    have leave : ∀ (_ : L.recs = []) (_ : j ≠ L.first), WF tab 47 [.ptr l 0, .int .i64 4, .int .i64 i, .int .i64 i, .nsl] σ1 fun t61 σ2 => Ret [some t61] σ2 Q := fun hr hne => by
      subst hj
      refine left_o ht k1.ok h1 hok hdk hwn hfile (kind := 4) (rs := []) (m := mr) (by omega) (by omega) (GrAt.nil σ1 1 mr).sl (fun h => absurd rfl h) (by simp) (by omega) (by simp) hage fun e L' D' hout => ?_
      refine Then.of k1 ?_
      intro σ' G' M' rv' mr' hw' a b c
      rw [Ret_1 rfl]
      exact hQ _ _ _ (.left rfl htk hoff hz hr hne hout) σ' G' M' rv' mr' hw' a b c
    by_cases hr : (0 : Int) < (L.recs.length : Int)
    · rw [decide_eq_true hr]
      refine Sq_of rfl rfl (Som_of rfl (Som_of rfl (Som_of rfl (Som_of rfl (Som_of rfl (Som_of rfl (Sq_of rfl rfl (Som_of rfl ?_))))))))
      rw [WIf_true, Ret_1 rfl]
      exact Then.here (hQ _ _ _ (.noop htk hoff hz (.inl fun e => by rw [e] at hr; simp at hr))) h k1
    · rw [decide_eq_false hr]
      have hr0 : L.recs = [] := List.eq_nil_of_length_eq_zero (by omega)
      refine Sq_of rfl rfl (Sq_of rfl rfl (Sq_of rfl rfl (Sq_of rfl rfl (Sq_of rfl (vField0 _ _ _) (Sq_of rfl (ld h1.lg.blk rfl) (Sq_of rfl (bin_eql _ _ _ _) (Sq_of rfl rfl (Som_of rfl ?_))))))))
      refine WIf_dec (fun he => ?_) (fun hne => ?_)
      · rw [Ret_1 rfl]
        exact Then.here (hQ _ _ _ (.noop htk hoff hz (.inr he))) h k1
      · refine Som_of hv1.len (Som_of (bin_eql _ _ _ _) (WIf_t hl0 ?_))
        exact leave hr0 (by omega)
  · have hl0 : (rs.length : Int) ≠ 0 := fun e => hz (List.eq_nil_of_length_eq_zero (by omega))
    rw [decide_eq_false hl0]
    refine Som_of rfl (Som_of rfl (Som_of rfl (Som_of rfl (Som_of rfl (Som_of rfl (Som_of rfl (Som_of rfl (Som_of rfl (Som_of rfl (Som_of rfl (Som_of rfl (Som_of rfl (Som_of rfl (Som_of rfl ?_))))))))))))))
    rw [WIf_false]
    refine Som_of hv1.len (Som_of (bin_eql _ _ _ _) (WIf_f hl0 ?_))
    have hmM : M mr := h.hr
    have hlt := h.lt
    refine begun_c ht k1.ok h1.lg hok fun bv mb σ2 h2 g2 l2 k2 => ?_
    obtain ⟨q1, q2, q3, q4, q5, q6⟩ := L.hd_same
    have hok1 := hok.hd
    have hlM : M l.nat := h.hl
    have hv2 := hv1.keep (M := fun x => x = l.nat) (fun _ e => hmm hz (by rw [e]; exact hlM)) k2
    have hb1 := begunF_len L hok
    have hbb1 := begunF_bytes L
    have hage1 : L.hd.age ≤ 1152921504606846975 := by omega
    have hpB : appB L j rs = begunF L ++ framesF L.hd.age j rs := rfl
    have hfl := framesF_len (age := L.hd.age) (i := j) (rs := rs) (by omega) (by omega) hrs
    have hfb := framesF_bytes (age := L.hd.age) (i := j) hrs
    generalize hLh : L.hd = Lh at *
    refine Som_of hv2.len ?_
    have n1 := k1.next; have n2 := k2.next
    have hmlt0 : m < σ.next.nat := SlAt.own_lt hv ho (by have := List.length_pos_iff.2 hz; omega)
    have hmlt : m < σ1.next.nat := by omega
    have hllt := k1.ok.lt h1.lg.blk
    subst hj
    refine app_loop2 ht rs.length _ σ2 l _ Lh.age j 0 v rs m bv (begunF L) mb k2.ok h2.blk rfl hv2 hrs (by omega) (by omega) (by omega) (by omega) g2 (by omega) (fun _ => by omega) (by omega) (by simp [e0]) (by simp) (by simp [e1]) (by simp) (by simp) (by simp) (by simp [e2]) ?_
    intro E' σ3 bv' mb' g3 k3 l3 f0 f9 f1 f2
    have g3 : ByGr σ3 bv' (appB L j rs) mb' := by rw [hpB]; exact g3
    have k12 : Keep (fun x => x = l.nat) σ σ2 := (Keep0.to k1).trans k2
    have k13 : Keep (fun x => x = l.nat) σ σ3 := k12.then ho k3 fun x hx e => by omega
    have h3 : LgAt σ3 G l d Lh rv mr := h2.keep k3 fun x hx e => by
      have : x < σ1.next.nat := by
        rcases hx with hx | hx
        · rw [hx]; exact hllt
        · rw [hx]; exact h1.lg.gl _ h1.lg.g2
      omega
    obtain ⟨M3, hw3, k3', s3⟩ := h.setL ho h3 (k13.mono fun x e => .inl e) (Gr.refl _ _) (.inl rfl)
    have r3 : Rel3 σ G M σ3 G M3 := ⟨k3', Gr.refl _ _, s3⟩
    have hv3 := hv.keep (fun _ => hmm hz) k3'
    refine f18.p3_of ?_
    unfold f18.p3
    rw [f0, f9, f2]
    have hGm : ¬ G mb' := fun hg => by
      have := h.gl mb' hg; omega
    refine put_o ht k13.ok hw3 hok1 hdk (by omega) (by rw [q1]; omega) g3.sl (by rw [hpB]; exact hbb1.app hfb) (fun _ => hGm) (by rw [hpB, List.length_append]; omega) fun e L' D' hout => ?_
    intro σ' G' M' rv' mr' hw' a b c
    have r' : Rel3 σ3 G M3 σ' G' M' := ⟨a.mono fun x hx => hx.1, b, c⟩
    refine Som_of (bin_neq _ _ _ _) ?_
    refine WIf_dec (fun hne => ?_) (fun hez => ?_)
    · rw [Ret_1 rfl]
      exact Then.go (hQ _ _ _ (.fail rfl htk hoff hz hsm (by rw [hLh]; exact hout) hne)) hw' (r3.trans ho r')
    · have he : e = 0 := by omega
      subst he
      have hM3 : ¬ M3 m := fun hx => by
        rcases s3 m hx with hx | hx
        · exact hmm hz hx
        · omega
      have hv4 := hv3.keep (fun _ => hM3) r'.k
      refine Som_of hv4.len ?_
      have hokL' : LgOk L' ∧ L'.recs = Lh.recs ∧ L'.live = Lh.live := by
        cases hout with
        | ok a b c =>
          have := room_len hdk.count c b
          have hLs := hok1.size
          exact ⟨⟨hok1.age, hok1.first, hok1.recs, hok1.many, by show Lh.size + _ ≤ _; omega, hok1.live⟩, rfl, rfl⟩
      obtain ⟨o1, o2, o3⟩ := hokL'
      have hM' : ¬ M' m := fun hx => by
        rcases c m hx with hx | hx
        · exact hM3 hx
        · have := k13.next; omega
      refine app_loop4 ht rs.length _ σ' G' M' L' rv' mr' j 0 v rs m a.ok hw' o1 hv4 hrs (by omega) (by omega) (by omega) (by rw [o2, q3]; omega) (by rw [o3, q5]; omega) (fun _ => hM') (by simp [f0]) (by simp [f1]) (by simp) (by simp) (by simp) ?_
      intro σ5 G5 M5 rv5 mr5 hw5 a5 b5 c5
      exact Then.go (hQ _ _ _ (.ok rfl htk hoff hz hsm (by rw [hLh]; exact hout))) hw5 ((r3.trans ho r').trans ho ⟨a5, b5, c5⟩)
end
end Go.Am
namespace Go.Am
section
variable {tab : Nat → Option PFn} {σ : S} {Q : AVal → S → Prop} {G M : Nat → Prop}
theorem bin_rem (tk : TK) (k : IntKind) (a b : Int) (h : b ≠ 0) : binA .rem tk (.int k a) (.int k b) = some (.int k (Int.tmod a b)) := by
  rw [binA_int rfl]
  show remI k a b = _
  unfold remI
  have : ieq b 0 = false := by
    rw [ieq_eq]; exact decide_eq_false h
  rw [this]; show outI k (Int.tmod a b) = _; rw [outI_eq]
theorem within_c (ht : Tab tab) {a lo hi : Int} (h0 : 0 ≤ lo) (h1 : lo ≤ hi) (h2 : hi ≤ 1000000000) (hQ : ∀ r, lo ≤ r → r ≤ hi → Q (.int .i64 r) σ) : WF tab 11 [.int .i64 a, .int .i64 lo, .int .i64 hi] σ Q := by
  refine f11_wf ht.t11 ?_
  unfold f11
  refine Som_of (bin_sub _ _ _ _) (Som_of (bin_add _ _ _ _) ?_)
  rw [wrap_i64_in (n := hi - lo) (by omega) (by omega), wrap_i64_in (n := hi - lo + 1) (by omega) (by omega)]
  refine Som_of (bin_rem _ _ _ _ (by omega)) (Som_of (bin_lss _ _ _ _) ?_)
  have b1 : -(hi - lo + 1) < Int.tmod a (hi - lo + 1) := by
    have := Int.lt_tmod_of_pos a (b := hi - lo + 1) (by omega)
    omega
  have b2 : Int.tmod a (hi - lo + 1) < hi - lo + 1 := Int.tmod_lt_of_pos a (by omega)
  generalize Int.tmod a (hi - lo + 1) = t at *
  refine WIf_dec (fun hn => ?_) (fun hp => ?_)
  · refine Som_of (bin_add _ _ _ _) (Som_of (bin_sub _ _ _ _) (Som_of (bin_add _ _ _ _) (Som_of (bin_add _ _ _ _) ?_)))
    rw [wrap_i64_in (n := t + hi) (by omega) (by omega), wrap_i64_in (n := t + hi - lo) (by omega) (by omega), wrap_i64_in (n := t + hi - lo + 1) (by omega) (by omega), wrap_i64_in (n := lo + (t + hi - lo + 1)) (by omega) (by omega), Ret_1 rfl]
    exact hQ _ (by omega) (by omega)
  · refine Som_of (bin_add _ _ _ _) ?_
    rw [wrap_i64_in (n := lo + t) (by omega) (by omega), Ret_1 rfl]
    exact hQ _ (by omega) (by omega)
theorem new_c (ht : Tab tab) (ho : Ok σ) (hg : ∀ x, G x → x < σ.next.nat) {q : Nat} (hq : q ≤ 1048576)
    (hQ : ∀ d pf ps σ', DkAt σ' (fun x => G x ∨ x = d.nat ∨ x = pf.nat ∨ x = ps.nat ∨ x = σ.next.nat) d (Dk.fresh q) pf ps (List.replicate 64 .nsl) (List.replicate 64 .nsl) .nsl [] σ.next.nat → Keep0 σ σ' →
      σ.next.nat ≤ d.nat → σ.next.nat ≤ pf.nat → σ.next.nat ≤ ps.nat → Q (.tup [.ptr d 0, .int .i64 0]) σ') : WF tab 9 [.int .i64 (q : Int)] σ Q := by
  refine f9_wf ht.t9 ?_
  unfold f9
  refine Som_of (bin_lss _ _ _ _) ?_
  rw [decide_eq_false (show ¬ (q : Int) < 0 by omega)]
  refine Sq_of rfl rfl (Sq_of rfl (bin_gtr _ _ _ _) (Som_of rfl (WIf_dec (fun h => absurd h (by omega)) fun _ => ?_)))
  refine fresh_c ht ho hg fun d pf ps σ' hd k a b c => ?_
  rw [Ret_2 rfl rfl]
  exact hQ d pf ps σ' hd k a b c
end
end Go.Am
namespace Go.Am
section
variable {tab : Nat → Option PFn} {σ : S} {Q : AVal → S → Prop} {G M : Nat → Prop} {l d : Pos} {L : Lg} {D : Dk} {rv : AVal} {mr : Nat}
theorem loopF_age (b : List Nat) (n : Nat) : ∀ (L : Lg) (w : Nat), (loopF b n L w).1.age = L.age ∧ (loopF b n L w).1.file = L.file := by
  induction n with
  | zero => intro L w; exact ⟨rfl, rfl⟩
  | succ n ih =>
    intro L w
    unfold loopF
    split
    · rename_i x to hx
      split
      · rename_i ha
        split
        · rename_i L' hr
          have h1 := ih { L' with size := to } (if x.kind = 1 ∧ 0 < w then w - 1 else w)
          have h2 := redoF_age hr
          exact ⟨h1.1.trans h2.1, h1.2.trans h2.2⟩
        · exact ⟨rfl, rfl⟩
      · exact ⟨rfl, rfl⟩
    · exact ⟨rfl, rfl⟩
theorem readF_file {b : List Nat} {k : Nat} {L : Lg} (h : readF b k = some L) : L.file = k ∧ 1 ≤ L.age ∧ L.age < 1125899906842624 := by
  unfold readF at h
  split at h
  · rename_i x to hx
    split at h
    · rename_i hh
      split at h
      · have e := Option.some.inj h
        have := loopF_age b (b.length + 1) ⟨k, x.age.toNat, x.i.toNat, [], to, 0⟩ x.n.toNat
        rw [e] at this
        obtain ⟨c1, c2, c3, c4, c5, c6⟩ := hh
        exact ⟨this.2, by rw [this.1]; show 1 ≤ x.age.toNat; omega, by rw [this.1]; show x.age.toNat < _; omega⟩
      · cases h
    · cases h
  · cases h
/-- What holds of a log as it is used. -/
structure LgSt (a : Nat) (L : Lg) : Prop where
  ok : LgOk L
  inn : LgIn L
  many : L.recs.length ≤ 3200000 + a
  size : L.size ≤ 3200000
  live : L.live ≤ L.recs.length * 20048
  file : L.file = 8 ∨ L.file = 9
  age : L.age < 1125899906842624 + a
def Lg.none : Lg := ⟨8, 0, 1, [], 0, 0⟩
theorem LgSt.none : LgSt 0 Lg.none := ⟨⟨by show 0 ≤ _; omega, by show 1 ≤ _; omega, fun r hr => (by cases hr), Nat.zero_le _, Nat.zero_le _, Nat.zero_le _⟩, ⟨Nat.le_refl 1, by show 1 + 0 ≤ _; omega⟩, Nat.zero_le _, Nat.zero_le _, Nat.zero_le _, .inl rfl, by show 0 < _; omega⟩
theorem RdIn.st {b : List Nat} {k : Nat} (h : RdIn b L) (hr : readF b k = some L) (hb : b.length ≤ 2097152) (hk : k = 8 ∨ k = 9) : LgSt 0 L := by
  obtain ⟨h1, h2, h3⟩ := readF_file hr
  have := h.size; have := h.many
  exact ⟨h.ok, h.inn, by omega, by omega, h.live, by rw [h1]; exact hk, by omega⟩
def pickL (L : Lg) (x : Option Lg) : Lg := match x with | .none => L | some y => if L.age < y.age then y else L
theorem Dk.file_at (D : Dk) {k : Nat} {bs : List Nat} (h : D.files[k]? = some bs) : D.file k = bs := by
  unfold Dk.file; rw [List.getD_eq_getElem?_getD, h]; rfl
theorem open_step0 (ht : Tab tab) {pf ps : Pos} {fv sv wc : List AVal} {wv : AVal} {mw : Nat} {E : En} (ho : Ok σ) (h : WlAt σ G l d L D rv mr pf ps fv sv wv wc mw) (hst : LgSt 0 L) (hdk : DkOk D) (hoff : D.off = false) {i : Nat} (hi : i < 2) {v : AVal} {m : Nat}
    (hv : SlAt σ v 1 2 [.int .i64 8, .int .i64 9] m) (h0 : E 0 = .ptr d 0) (h4 : E 4 = .ptr l 0) (h17 : E 17 = v) (h18 : E 18 = .int .i64 2) (h19 : E 19 = .int .i64 (i : Int))
    (hK : ∀ E' σ' G' l' L' rv' mr', L' = pickL L (readF (D.file (8 + i)) (8 + i)) → WlAt σ' G' l' d L' D rv' mr' pf ps fv sv wv wc mw → LgSt 0 L' → Keep0 σ σ' → Gr σ G G' → ((l' = l ∧ mr' = mr) ∨ (σ.next.nat ≤ l'.nat ∧ σ.next.nat ≤ mr')) →
      E' 0 = .ptr d 0 → E' 4 = .ptr l' 0 → E' 17 = v → E' 18 = .int .i64 2 → E' 19 = .int .i64 ((i + 1 : Nat) : Int) → f12.L0 (WF tab) Q E' σ') : f12.L0 (WF tab) Q E σ := by
  refine f12.p0_of ?_
  unfold f12.p0
  rw [h19, h18, h17, h0, h4]
  refine Som_of (bin_lss _ _ _ _) (WIf_t (by omega) ?_)
  obtain ⟨q, q1, q2⟩ := hv.get1 (k := i) hi
  have q2' : vLoad1 q σ = some (.int .i64 ((8 + i : Nat) : Int)) := by
    rw [q2]
    have : i = 0 ∨ i = 1 := by omega
    rcases this with e | e <;> subst e <;> rfl
  refine Som_of q1 (Som_of q2' ?_)
  have e1 : IntKind.i64.wrap ((i : Int) + 1) = ((i + 1 : Nat) : Int) := by
    rw [wrap_i64_in (n := (i : Int) + 1) (by omega) (by omega)]; omega
  refine readw_c ht ho h.dk hdk hoff (k := 8 + i) (by omega) (fun σ' bs hf hr k => ?_) (fun σ' bs G' l' L' rv' mr' hf hr hl hin k g n1 n2 => ?_)
  · rw [show binA .neq .ptr AVal.nptr .nptr = some (.bool false) from rfl]
    refine Som_of rfl ?_
    refine Som_of rfl (Som_of rfl (Som_of rfl (Som_of rfl (Som_of rfl (Som_of rfl (Som_of rfl (Som_of rfl (Som_of rfl (Som_of rfl ?_)))))))))
    rw [WIf_false]
    refine Som_of (bin_add _ _ _ _) ?_
    rw [e1]
    have k2 := k.trans (Keep.bump k.ok 13)
    have hf' := D.file_at hf
    refine hK _ _ G l L rv mr ?_ ⟨h.lg.keep0 k2, h.dk.keep0 k2, h.ap⟩ hst k2 (Gr.refl _ _) (.inl ⟨rfl, rfl⟩) (by simp [h0]) (by simp [h4]) (by simp [h17]) (by simp [h18]) (by simp)
    rw [hf', hr]; rfl
  · have hf' := D.file_at hf
    have hb := hdk.fl bs (List.mem_of_getElem? hf)
    have hst' : LgSt 0 L' := hin.st hr hb.1 (by omega)
    have k2 := k.trans (Keep.bump k.ok 13)
    have hl2 := hl.keep0 (Keep.bump k.ok 13)
    have hdM : ∀ x, dM d pf ps mw x → x < σ.next.nat := fun x hd => by
      rcases hd with hd | hd | hd | hd
      · rw [hd]; exact h.dk.gl _ h.dk.g1
      · rw [hd]; exact h.dk.gl _ h.dk.g2
      · rw [hd]; exact h.dk.gl _ h.dk.g3
      · rw [hd]; exact h.dk.gl _ h.dk.g4
    have hdk2 : DkAt (σ'.bumpT 13) G' d D pf ps fv sv wv wc mw := h.dk.move ho k2 (fun _ h => h.elim) (fun _ _ h => h.elim) g hl2.gl
    have hlo : LgAt (σ'.bumpT 13) G' l d L rv mr := h.lg.move k2 (fun _ _ h => h.elim) g hl2.gl
    rw [show binA .neq .ptr (AVal.ptr l' 0) .nptr = some (.bool true) from rfl]
    refine Som_of rfl ?_
    refine Sq_of rfl rfl (Sq_of rfl rfl (Sq_of rfl (vField0 _ _ _) (Sq_of rfl (ld hl2.blk rfl) (Sq_of rfl rfl (Sq_of rfl rfl (Sq_of rfl (vField0 _ _ _) (Sq_of rfl (ld hlo.blk rfl) (Sq_of rfl (bin_gtr _ _ _ _) (Som_of rfl ?_)))))))))
    refine WIf_dec (fun hgt => ?_) (fun hle => ?_)
    · refine Som_of (bin_add _ _ _ _) ?_
      rw [e1]
      refine hK _ _ G' l' L' rv' mr' ?_ ⟨hl2, hdk2, fun x hx hd => ?_⟩ hst' k2 g (.inr ⟨n1, n2⟩) (by simp [h0]) (by simp) (by simp [h17]) (by simp [h18]) (by simp)
      · rw [hf', hr]; show L' = if L.age < L'.age then L' else L
        rw [if_pos (by omega)]
      · have := hdM x hd
        rcases hx with hx | hx <;> omega
    · refine Som_of (bin_add _ _ _ _) ?_
      rw [e1]
      refine hK _ _ G' l L rv mr ?_ ⟨hlo, hdk2, h.ap⟩ hst k2 g (.inl ⟨rfl, rfl⟩) (by simp [h0]) (by simp [h4]) (by simp [h17]) (by simp [h18]) (by simp)
      rw [hf', hr]; show L = if L.age < L'.age then L' else L
      rw [if_neg (by omega)]
end
end Go.Am
namespace Go.Am
section
variable {tab : Nat → Option PFn} {σ : S} {Q : AVal → S → Prop} {G M : Nat → Prop} {l d : Pos} {L : Lg} {D : Dk} {rv : AVal} {mr : Nat}
def keepN (L : Lg) (f : Nat) : Nat := if f = L.file then L.size else 0
def trim (L : Lg) : Nat → Nat → Dk → Bool × Dk
  | 0, _, D => (true, D)
  | n + 1, f, D => if keepN L f < (D.file f).length then (if D.count.off = true then (false, D.count) else trim L n (f + 1) (D.count.cutF f (keepN L f))) else trim L n (f + 1) D
theorem open_trim (ht : Tab tab) (n : Nat) : ∀ (E : En) (σ : S) (G M : Nat → Prop) (D : Dk) (f : Nat), Ok σ → WL σ G l d L D rv mr M → LgOk L → DkOk D → D.wait.length + n < 1000000000 → 8 ≤ f → f + n = 48 → E 0 = .ptr d 0 → E 4 = .ptr l 0 → E 8 = .int .i64 (f : Int) →
    (∀ D', trim L n f D = (false, D') → ∀ σ' G' M', WL σ' G' l d L D' rv mr M' → Rel3 σ G M σ' G' M' → Q (.tup [.nptr, .int .i64 11]) σ') →
    (∀ D', trim L n f D = (true, D') → DkOk D' → D'.wait.length ≤ D.wait.length + n → ∀ E' σ' G' M', WL σ' G' l d L D' rv mr M' → Rel3 σ G M σ' G' M' → E' 0 = .ptr d 0 → E' 4 = .ptr l 0 → f12.J4 (WF tab) Q E' σ') →
    f12.L2 (WF tab) Q E σ := by
  induction n with
  | zero =>
    intro E σ G M D f ho h hok hdk hwn hf8 hf h0 h4 h8 hB hK
    refine f12.p2_of ?_
    unfold f12.p2
    rw [h8]
    refine Som_of (bin_leq _ _ _ _) (WIf_f (by omega) ?_)
    exact hK D rfl hdk (by omega) _ σ G M h (Rel3.refl ho G M) (by simp [h0]) (by simp [h4])
  | succ n ih =>
    intro E σ G M D f ho h hok hdk hwn hf8 hf h0 h4 h8 hB hK
    refine f12.p2_of ?_
    unfold f12.p2
    rw [h8, h4]
    refine Som_of (bin_leq _ _ _ _) (WIf_t (by omega) ?_)
    refine Som_of rfl (Som_of (vField0 _ _ _) (Som_of (ld h.lg.blk rfl) (Som_of (bin_eql _ _ _ _) ?_)))
    have main : ∀ E' : En, E' 0 = .ptr d 0 → E' 4 = .ptr l 0 → E' 8 = .int .i64 (f : Int) → E' 9 = .int .i64 (keepN L f : Int) → f12.J3 (WF tab) Q E' σ := by
      intro E' e0 e4 e8 e9
      refine f12.p3_of ?_
      unfold f12.p3
      rw [e0, e8, e9]
      have hd := h
      obtain ⟨pf, ps, fv, sv, wv, wc, mw, hd, _⟩ := hd
      refine size_c ht hd.dk (by omega) fun bs hbs => ?_
      have hfb := D.file_at hbs
      have hbl := hdk.fl bs (List.mem_of_getElem? hbs)
      refine Som_of (bin_gtr _ _ _ _) ?_
      have ef : IntKind.i64.wrap ((f : Int) + 1) = ((f + 1 : Nat) : Int) := by
        rw [wrap_i64_in (n := (f : Int) + 1) (by omega) (by omega)]; omega
      by_cases hgt : keepN L f < bs.length
      · have htr : trim L (n + 1) f D = if D.count.off = true then (false, D.count) else trim L n (f + 1) (D.count.cutF f (keepN L f)) := by
          show (if keepN L f < (D.file f).length then _ else _) = _
          rw [hfb, if_pos hgt]
        rw [decide_eq_true (show (keepN L f : Int) < (bs.length : Int) by omega)]
        refine Sq_of rfl rfl (Sq_of rfl rfl (Sq_of rfl rfl (GE_t rfl ?_)))
        refine wcut_c ht ho h hdk (by omega) (by omega) (by rw [hfb]; omega) (fun σ' M' ho' hw r => ?_) (fun σ' G' M' ho' hw r => ?_)
        · refine Sq_of rfl (bin_neq _ _ _ _) (Som_of rfl (WIf_t (by omega) ?_))
          rw [Ret_2 rfl rfl]
          exact hB D.count (by rw [htr, if_pos ho']) σ' G M' hw r
        · refine Sq_of rfl (bin_neq _ _ _ _) (Som_of rfl (WIf_f (by omega) ?_))
          refine Som_of (bin_add _ _ _ _) ?_
          rw [ef]
          have hdk' : DkOk (D.count.cutF f (keepN L f)) := by
            have hcf : D.count.file f = D.file f := by unfold Dk.count; split; rfl; split <;> rfl
            refine hdk.count.cutF (by omega) (by rw [hcf, hfb]; omega) (by rw [hcf, hfb]; exact hbl) (by rw [Dk.count_wait]; omega)
          have hwl : (D.count.cutF f (keepN L f)).wait.length = D.wait.length + 1 := by
            show (D.count.wait ++ [_]).length = _
            rw [List.length_append, Dk.count_wait]; rfl
          refine ih _ σ' G' M' _ (f + 1) r.k.ok hw hok hdk' (by omega) (by omega) (by omega) (by simp [e0]) (by simp [e4]) (by simp) (fun D' hD σ2 G2 M2 hw2 r2 => ?_) (fun D' hD hdk2 hwl2 E2 σ2 G2 M2 hw2 r2 g0 g4 => ?_)
          · exact hB D' (by rw [htr, if_neg (by rw [ho']; exact Bool.false_ne_true)]; exact hD) σ2 G2 M2 hw2 (r.trans ho r2)
          · exact hK D' (by rw [htr, if_neg (by rw [ho']; exact Bool.false_ne_true)]; exact hD) hdk2 (by omega) E2 σ2 G2 M2 hw2 (r.trans ho r2) g0 g4
      · have htr : trim L (n + 1) f D = trim L n (f + 1) D := by
          show (if keepN L f < (D.file f).length then _ else _) = _
          rw [hfb, if_neg hgt]
        rw [decide_eq_false (show ¬ (keepN L f : Int) < (bs.length : Int) by omega)]
        refine Som_of rfl (Som_of rfl (Som_of rfl (GE_n rfl (Som_of rfl (Som_of rfl ?_)))))
        rw [WIf_false]
        refine Som_of (bin_add _ _ _ _) ?_
        rw [ef]
        refine ih _ σ G M D (f + 1) ho h hok hdk (by omega) (by omega) (by omega) (by simp [e0]) (by simp [e4]) (by simp) (fun D' hD σ2 G2 M2 hw2 r2 => hB D' (by rw [htr]; exact hD) σ2 G2 M2 hw2 r2) (fun D' hD hdk2 hwl2 E2 σ2 G2 M2 hw2 r2 g0 g4 => hK D' (by rw [htr]; exact hD) hdk2 (by omega) E2 σ2 G2 M2 hw2 r2 g0 g4)
    refine WIf_dec (fun he => ?_) (fun hne => ?_)
    · refine Som_of rfl (Som_of (vField0 _ _ _) (Som_of (ld h.lg.blk rfl) ?_))
      refine main _ (by simp [h0]) (by simp [h4]) (by simp [h8]) ?_
      unfold keepN; rw [if_pos (by omega)]; simp
    · refine main _ (by simp [h0]) (by simp [h4]) (by simp [h8]) ?_
      unfold keepN; rw [if_neg (by omega)]; simp
end
end Go.Am
namespace Go.Am
section
variable {tab : Nat → Option PFn} {σ : S} {Q : AVal → S → Prop} {G M : Nat → Prop} {l d : Pos} {L : Lg} {D : Dk} {rv : AVal} {mr : Nat}
noncomputable def openL (D : Dk) : Lg := pickL (pickL Lg.none (readF (D.file 8) 8)) (readF (D.file 9) 9)
inductive OpenE (D : Dk) : Dk → Prop
  | trim {D' : Dk} : trim (openL D) 40 8 D = (false, D') → OpenE D D'
  | sync {D1 : Dk} : trim (openL D) 40 8 D = (true, D1) → D1.count.off = true → OpenE D D1.count
  | anew {D1 D' : Dk} {L' : Lg} : trim (openL D) 40 8 D = (true, D1) → D1.count.off = false → 2 * (openL D).live + 4096 < (openL D).size → AnewOut (openL D) D1.count.sync (openL D).first (openL D).recs 11 L' D' → OpenE D D'
inductive OpenS (D : Dk) : Lg → Dk → Prop
  | same {D1 : Dk} : trim (openL D) 40 8 D = (true, D1) → D1.count.off = false → ¬ 2 * (openL D).live + 4096 < (openL D).size → OpenS D (openL D) D1.count.sync
  | anew {D1 D' : Dk} {L' : Lg} {e : Int} : trim (openL D) 40 8 D = (true, D1) → D1.count.off = false → 2 * (openL D).live + 4096 < (openL D).size → AnewOut (openL D) D1.count.sync (openL D).first (openL D).recs e L' D' → e ≠ 11 → OpenS D L' D'
theorem made2i (a b : Int) (z : AVal) : aSliceV 1 [z] 2 [(0, 1, .int .i64 a), (1, 1, .int .i64 b)] = some (⟨1, .ex, [.int .i64 a, .int .i64 b]⟩, fun p => .sl p 0 2 2) := rfl
theorem made2_sl (a b : AVal) : SlAt (σ.new ⟨1, .ex, [a, b]⟩) (.sl σ.next 0 2 2) 1 2 [a, b] σ.next.nat := by
  refine ⟨rfl, rfl, Nat.le_refl _, fun _ => ⟨⟨1, .ex, [a, b]⟩, by rw [blk_new, if_pos rfl]; rfl, rfl, ?_, rfl⟩⟩
  show 0 + 2 * 1 ≤ 2; omega
theorem open_end (ht : Tab tab) {E : En} (ho : Ok σ) (h : WL σ G l d L D rv mr M) (hst : LgSt 0 L) (hdk : DkOk D) (h0 : E 0 = .ptr d 0) (h4 : E 4 = .ptr l 0)
    (hO : D.count.off = true → Then σ G M l d L D.count (Q (.tup [.nptr, .int .i64 11])))
    (hE : D.count.off = false → 2 * L.live + 4096 < L.size → ∀ L' D', AnewOut L D.count.sync L.first L.recs 11 L' D' → Then σ G M l d L' D' (Q (.tup [.nptr, .int .i64 11])))
    (hA : D.count.off = false → 2 * L.live + 4096 < L.size → ∀ e L' D', AnewOut L D.count.sync L.first L.recs e L' D' → e ≠ 11 → Then σ G M l d L' D' (Q (.tup [.ptr l 0, .int .i64 0])))
    (hS : D.count.off = false → ¬ 2 * L.live + 4096 < L.size → Then σ G M l d L D.count.sync (Q (.tup [.ptr l 0, .int .i64 0]))) : f12.J4 (WF tab) Q E σ := by
  refine f12.p4_of ?_
  unfold f12.p4
  rw [h0, h4]
  refine wsync_c ht ho h hdk (fun σ' M' hoff hw r => ?_) (fun σ' M' hoff hw r => ?_)
  · refine Som_of (bin_neq _ _ _ _) (WIf_t (by omega) ?_)
    rw [Ret_2 rfl rfl]
    exact Then.go (hO hoff) hw r
  · refine Som_of (bin_neq _ _ _ _) (WIf_f (by omega) ?_)
    have k1 : Keep0 σ' (σ'.bumpT 24) := Keep.bump r.k.ok 24
    have h1 := hw.keep0 k1
    have r1 : Rel3 σ G M (σ'.bumpT 24) G M' := r.trans ho (Rel3.keep0 k1 G M')
    have hl := hst.ok.live; have hs := hst.ok.size
    have hm := hst.many; have hsz := hst.size
    refine Som_of rfl (Som_of (vField0 _ _ _) (Som_of (ld h1.lg.blk rfl) (Som_of rfl (Som_of (vField0 _ _ _) (Som_of (ld h1.lg.blk rfl) (Som_of (bin_mul _ _ _ _) (Som_of (bin_add _ _ _ _) (Som_of (bin_gtr _ _ _ _) ?_))))))))
    rw [wrap_i64_in (n := (2 : Int) * (L.live : Int)) (by omega) (by omega), wrap_i64_in (n := (2 : Int) * (L.live : Int) + 4096) (by omega) (by omega)]
    by_cases hgt : 2 * L.live + 4096 < L.size
    · rw [decide_eq_true (show (2 : Int) * (L.live : Int) + 4096 < (L.size : Int) by omega)]
      refine Sq_of rfl rfl (Sq_of rfl rfl (Sq_of rfl rfl (Sq_of rfl (vField0 _ _ _) (Sq_of rfl (ld h1.lg.blk rfl) (Sq_of rfl rfl (Sq_of rfl rfl (Sq_of rfl (vField0 _ _ _) (Sq_of rfl (ld h1.lg.blk rfl) (GE_t rfl ?_)))))))))
      have hage := hst.age; have hfi := hst.inn.hi
      refine anew_o ht k1.ok h1 hst.ok hdk.count.sync (by show 0 + 10 < _; omega) hst.file h1.lg.rg.sl (fun _ => rfl) hst.ok.recs (by omega) (by omega) (by omega) fun e L' D' hout => ?_
      intro σ2 G2 M2 rv2 mr2 hw2 a b c
      refine Sq_of rfl (bin_eql _ _ _ _) (Som_of rfl ?_)
      refine WIf_dec (fun he => ?_) (fun hne => ?_)
      · rw [Ret_2 rfl rfl]
        subst he
        exact Then.go (hE hoff hgt _ _ hout) hw2 (r1.trans ho ⟨a, b, c⟩)
      · rw [Ret_2 rfl rfl]
        exact Then.go (hA hoff hgt _ _ _ hout hne) hw2 (r1.trans ho ⟨a, b, c⟩)
    · rw [decide_eq_false (show ¬ (2 : Int) * (L.live : Int) + 4096 < (L.size : Int) by omega)]
      refine Som_of rfl (Som_of rfl (Som_of rfl (Som_of rfl (Som_of rfl (Som_of rfl (Som_of rfl (Som_of rfl (Som_of rfl (GE_n rfl (Som_of rfl (Som_of rfl ?_)))))))))))
      rw [WIf_false, Ret_2 rfl rfl]
      exact Then.go (hS hoff hgt) h1 r1
theorem open_o (ht : Tab tab) {pf ps : Pos} {fv sv wc : List AVal} {wv : AVal} {mw : Nat} (ho : Ok σ) (h : DkAt σ G d D pf ps fv sv wv wc mw) (hdk : DkOk D) (hwn : D.wait.length + 100 < 1000000000)
    (hOff : D.off = true → Q (.tup [.nptr, .int .i64 11]) σ)
    (hE : ∀ D' L' l σ' G' M' rv mr, OpenE D D' → WL σ' G' l d L' D' rv mr M' → Rel3 σ G (dM d pf ps mw) σ' G' M' → σ.next.nat ≤ l.nat → Q (.tup [.nptr, .int .i64 11]) σ')
    (hS : ∀ D' L' l σ' G' M' rv mr, OpenS D L' D' → LgSt 0 (openL D) → WL σ' G' l d L' D' rv mr M' → Rel3 σ G (dM d pf ps mw) σ' G' M' → σ.next.nat ≤ l.nat → Q (.tup [.ptr l 0, .int .i64 0]) σ') : WF tab 12 [.ptr d 0] σ Q := by
  refine f12_wf ht.t12 ?_
  unfold f12
  refine Som_of (v := .bool false) rfl ?_
  rw [WIf_false]
  refine off_c ht h ?_
  cases hoff : D.off with
  | true => rw [WIf_true, Ret_2 rfl rfl]; exact hOff hoff
  | false =>
  rw [WIf_false]
  have hbd : vBuild [AVal.nptr, .int .i64 0, .int .i64 0, .int .i64 0, .nsl, .int .i64 0, .int .i64 0] [(0, 1, .ptr d 0), (1, 1, .int .i64 8), (3, 1, .int .i64 1)] =
    some (.agg [.ptr d 0, .int .i64 8, .int .i64 0, .int .i64 1, .nsl, .int .i64 0, .int .i64 0]) := rfl
  refine Som_of hbd (Ala_of rfl ?_)
  have k1 : Keep0 σ (σ.new ⟨0, .ex, [.ptr d 0, .int .i64 8, .int .i64 0, .int .i64 1, .nsl, .int .i64 0, .int .i64 0]⟩) := Keep.new ho _
  have b1 : (σ.new ⟨0, .ex, [.ptr d 0, .int .i64 8, .int .i64 0, .int .i64 1, .nsl, .int .i64 0, .int .i64 0]⟩).blk σ.next = some ⟨0, .ex, [.ptr d 0, .int .i64 8, .int .i64 0, .int .i64 1, .nsl, .int .i64 0, .int .i64 0]⟩ := by rw [blk_new, if_pos rfl]; rfl
  have n1 := new_next (σ := σ) ⟨0, .ex, [.ptr d 0, .int .i64 8, .int .i64 0, .int .i64 1, .nsl, .int .i64 0, .int .i64 0]⟩
  generalize σ.new ⟨0, .ex, [.ptr d 0, .int .i64 8, .int .i64 0, .int .i64 1, .nsl, .int .i64 0, .int .i64 0]⟩ = σ1 at *
  refine Ala_of (made2i 8 9 _) ?_
  have k2 : Keep0 σ1 (σ1.new ⟨1, .ex, [.int .i64 8, .int .i64 9]⟩) := Keep.new k1.ok _
  have s2 := made2_sl (σ := σ1) (.int .i64 8) (.int .i64 9)
  have n2 := new_next (σ := σ1) ⟨1, .ex, [.int .i64 8, .int .i64 9]⟩
  generalize σ1.new ⟨1, .ex, [.int .i64 8, .int .i64 9]⟩ = σ2 at *
  have k02 := k1.trans k2
  have b2 := k2.old _ _ b1 (fun h => h)
  refine Som_of s2.len ?_
  have g1 : Gr σ G (fun x => G x ∨ x = σ.next.nat ∨ x = σ1.next.nat) := ⟨fun x hx => .inl hx, fun x hx hg => by
    rcases hg with hg | hg | hg
    · exact hg
    · omega
    · omega⟩
  have gl2 : ∀ x, (G x ∨ x = σ.next.nat ∨ x = σ1.next.nat) → x < σ2.next.nat := fun x hx => by
    rcases hx with hx | hx | hx
    · have := h.gl x hx; omega
    · omega
    · omega
  have hdM : ∀ x, dM d pf ps mw x → x < σ.next.nat := fun x hd => by
    rcases hd with hd | hd | hd | hd
    · rw [hd]; exact h.gl _ h.g1
    · rw [hd]; exact h.gl _ h.g2
    · rw [hd]; exact h.gl _ h.g3
    · rw [hd]; exact h.gl _ h.g4
  have hW : WlAt σ2 (fun x => G x ∨ x = σ.next.nat ∨ x = σ1.next.nat) σ.next d Lg.none D .nsl σ1.next.nat pf ps fv sv wv wc mw :=
    ⟨⟨b2, GrAt.nil _ 1 _, by omega, .inr (.inl rfl), .inr (.inr rfl), gl2⟩, h.move ho k02 (fun _ h => h.elim) (fun _ _ h => h.elim) g1 gl2, fun x hx hd => by
      have := hdM x hd
      rcases hx with hx | hx <;> omega⟩
  refine open_step0 ht k2.ok hW LgSt.none hdk hoff (i := 0) (by omega) s2 (by simp) (by simp) (by simp) (by simp) (by simp) fun E3 σ3 G3 l3 L3 rv3 mr3 e3 hW3 st3 k3 g3 d3 a0 a4 a17 a18 a19 => ?_
  have s3 := s2.keep (M := fun _ => False) (fun _ h => h) k3
  refine open_step0 ht k3.ok hW3 st3 hdk hoff (i := 1) (by omega) s3 a0 a4 a17 a18 a19 fun E4 σ4 G4 l4 L4 rv4 mr4 e4 hW4 st4 k4 g4 d4 c0 c4 c17 c18 c19 => ?_
  refine f12.p0_of ?_
  unfold f12.p0
  rw [c19, c18]
  refine Som_of (bin_lss _ _ _ _) (WIf_f (by omega) ?_)
  refine f12.p1_of ?_
  unfold f12.p1
  have n3 := k3.next; have n4 := k4.next
  have hLo : L4 = openL D := by rw [e4, e3]; rfl
  have k24 := k3.trans k4
  have k04 : Keep0 σ σ4 := k02.trans k24
  have hl4 : σ.next.nat ≤ l4.nat ∧ σ.next.nat ≤ mr4 := by
    rcases d4 with ⟨q1, q2⟩ | ⟨q1, q2⟩
    · rw [q1, q2]
      rcases d3 with ⟨q3, q4⟩ | ⟨q3, q4⟩
      · rw [q3, q4]; omega
      · omega
    · omega
  have g04 : Gr σ G G4 := ⟨fun x hx => g4.1 x (g3.1 x (g1.1 x hx)), fun x hx hg => g1.2 x hx (g3.2 x (by omega) (g4.2 x (by omega) hg))⟩
  have r4 : Rel3 σ G (dM d pf ps mw) σ4 G4 (wM l4 mr4 d pf ps mw) := ⟨Keep0.to k04, g04, fun x hx => by
    rcases hx with hx | hx
    · right
      rcases hx with hx | hx <;> omega
    · exact .inl hx⟩
  have hWL : WL σ4 G4 l4 d L4 D rv4 mr4 (wM l4 mr4 d pf ps mw) := ⟨pf, ps, fv, sv, wv, wc, mw, hW4, rfl⟩
  subst hLo
  refine open_trim ht 40 _ σ4 G4 _ D 8 k4.ok hWL st4.ok hdk (by omega) (by omega) (by omega) (by simp [c0]) (by simp [c4]) (by simp) (fun D' htr σ5 G5 M5 hw5 r5 => ?_) (fun D1 htr hdk1 hwl1 E5 σ5 G5 M5 hw5 r5 f0 f4 => ?_)
  · exact hE D' _ l4 σ5 G5 M5 rv4 mr4 (.trim htr) hw5 (r4.trans ho r5) hl4.1
  · have r45 := r4.trans ho r5
    refine open_end ht r5.k.ok hw5 st4 hdk1 f0 f4 (fun hc => ?_) (fun hc hgt L' D' hout => ?_) (fun hc hgt e L' D' hout hne => ?_) (fun hc hgt => ?_)
    · intro σ6 G6 M6 rv6 mr6 hw6 a b c
      exact hE _ _ l4 σ6 G6 M6 rv6 mr6 (.sync htr hc) hw6 (r45.trans ho ⟨a, b, c⟩) hl4.1
    · intro σ6 G6 M6 rv6 mr6 hw6 a b c
      exact hE _ _ l4 σ6 G6 M6 rv6 mr6 (.anew htr hc hgt hout) hw6 (r45.trans ho ⟨a, b, c⟩) hl4.1
    · intro σ6 G6 M6 rv6 mr6 hw6 a b c
      exact hS _ _ l4 σ6 G6 M6 rv6 mr6 (.anew htr hc hgt hout hne) st4 hw6 (r45.trans ho ⟨a, b, c⟩) hl4.1
    · intro σ6 G6 M6 rv6 mr6 hw6 a b c
      exact hS _ _ l4 σ6 G6 M6 rv6 mr6 (.same htr hc hgt) st4 hw6 (r45.trans ho ⟨a, b, c⟩) hl4.1
end
end Go.Am
namespace Go.Am
section
variable {L : Lg} {D : Dk}
structure DkSt (w : Nat) (D : Dk) : Prop where
  ok : DkOk D
  wn : D.wait.length ≤ w
theorem DkSt.mono {w w' : Nat} (h : DkSt w D) (hw : w ≤ w') : DkSt w' D := ⟨h.ok, Nat.le_trans h.wn hw⟩
theorem DkSt.count {w : Nat} (h : DkSt w D) : DkSt w D.count := ⟨h.ok.count, by rw [Dk.count_wait]; exact h.wn⟩
theorem DkSt.sync {w : Nat} (h : DkSt w D) : DkSt 0 D.sync := ⟨h.ok.sync, Nat.le_refl 0⟩
theorem DkSt.write {w k a : Nat} {p : List Nat} (h : DkSt w D) (hk : k < 64) (ha : a ≤ 1048576) (hr : D.room k a p.length) (hp : Bytes p) (hw : w < 1000000000) : DkSt (w + 1) (D.write k a p) :=
  ⟨h.ok.write hk ha hr (D.file_held k) hp (by have := h.wn; omega), by
    show (D.wait ++ [_]).length ≤ _
    rw [List.length_append]; have := h.wn; show D.wait.length + 1 ≤ _; omega⟩
theorem DkSt.cutF {w k n : Nat} (h : DkSt w D) (hk : k < 64) (hn : n ≤ (D.file k).length) (hw : w < 1000000000) : DkSt (w + 1) (D.cutF k n) :=
  ⟨h.ok.cutF hk hn (Dk.file_ok h.ok k) (by have := h.wn; omega), by
    show (D.wait ++ [_]).length ≤ _
    rw [List.length_append]; have := h.wn; show D.wait.length + 1 ≤ _; omega⟩
theorem LgSt.mono {a b : Nat} (h : LgSt a L) (hab : a ≤ b) : LgSt b L := ⟨h.ok, h.inn, by have := h.many; omega, h.size, h.live, h.file, by have := h.age; omega⟩
theorem AnewOut.st {a w fr : Nat} {rs : List (List Nat)} {e : Int} {L' : Lg} {D' : Dk} (h : AnewOut L D fr rs e L' D') (hst : LgSt a L) (hd : DkSt w D) (hw : w + 10 < 1000000000) (ha : a ≤ 1000) (hf : 1 ≤ fr) (hfi : fr + rs.length ≤ 1099511627777)
    (hrs : ∀ r ∈ rs, Bytes r ∧ r.length ≤ 20000) (hrl : rs.length ≤ 3200000 + (a + 1)) : LgSt (a + 1) L' ∧ DkSt (w + 4) D' := by
  have hage := hst.age; have hfile := hst.file
  have h1 : D.count.room (17 - L.file) 0 (anewB (L.age + 1) fr rs).length → DkSt (w + 1) (D.an1 L fr rs) := fun hr => (hd.count.write (by omega) (by omega) hr (anewB_bytes hrs) (by omega)).count
  have h2 : D.count.room (17 - L.file) 0 (anewB (L.age + 1) fr rs).length → DkSt 0 (D.an2 L fr rs) := fun hr => (h1 hr).sync.count
  have h3 : D.count.room (17 - L.file) 0 (anewB (L.age + 1) fr rs).length → DkSt 1 (D.an3 L fr rs) := fun hr => ((h2 hr).cutF (by omega) (Nat.zero_le _) (by omega)).count
  cases h with
  | off1 _ => exact ⟨hst.mono (by omega), hd.count.mono (by omega)⟩
  | full _ _ => exact ⟨hst.mono (by omega), hd.count.mono (by omega)⟩
  | off2 _ hr _ => exact ⟨hst.mono (by omega), (h1 hr).mono (by omega)⟩
  | off3 _ hr _ _ => exact ⟨hst.mono (by omega), (h2 hr).mono (by omega)⟩
  | off4 _ hr _ _ _ => exact ⟨hst.mono (by omega), (h3 hr).mono (by omega)⟩
  | ok _ hr _ _ _ =>
    refine ⟨?_, (h3 hr).sync.mono (by omega)⟩
    have hlen := room_len hd.count.ok hr (by omega)
    have hb := bytesF_le (age := L.age + 1) (i := fr) (rs := rs) (by omega) (by omega) hrs
    have q1 : L.age + 1 ≤ 1152921504606846976 := by omega
    have q2 : fr ≤ 2199023255552 := by omega
    have q3 : rs.length ≤ 1000000000 := by omega
    have q4 : (anewB (L.age + 1) fr rs).length ≤ 3200000 := by omega
    have q5 : bytesF (L.age + 1) fr rs ≤ 100000000000000 := by omega
    have q6 : 17 - L.file = 8 ∨ 17 - L.file = 9 := by omega
    have q7 : L.age + 1 < 1125899906842624 + (a + 1) := by omega
    exact ⟨⟨q1, q2, hrs, q3, Nat.le_trans q4 (by omega), q5⟩, ⟨hf, hfi⟩, hrl, q4, hb, q6, q7⟩
theorem LgSt.hd {a : Nat} (h : LgSt a L) : LgSt a L.hd := by
  obtain ⟨h1, h2, h3, h4, h5, h6⟩ := L.hd_same
  have hi := h.inn
  refine ⟨h.ok.hd, ⟨by rw [h2]; exact hi.lo, by rw [h2, h3]; exact hi.hi⟩, by rw [h3]; exact h.many, by rw [h4]; exact h.size, by rw [h5, h3]; exact h.live, by rw [h1]; exact h.file, by have := h.age; omega⟩
theorem PutOut.st {a w : Nat} {p : List Nat} {e : Int} {L' : Lg} {D' : Dk} (h : PutOut L D p e L' D') (hst : LgSt a L) (hd : DkSt w D) (hw : w + 10 < 1000000000) (hp : Bytes p) : LgSt a L' ∧ DkSt (w + 4) D' := by
  have hfile := hst.file
  cases h with
  | off _ => exact ⟨hst, hd.count.mono (by omega)⟩
  | big _ _ => exact ⟨hst, hd.count.mono (by omega)⟩
  | full _ _ _ => exact ⟨hst, hd.count.mono (by omega)⟩
  | ok _ hs hr =>
    have hlen := room_len hd.count.ok hr hs
    have ho := hst.ok
    exact ⟨⟨⟨ho.age, ho.first, ho.recs, ho.many, by show L.size + p.length ≤ _; omega, ho.live⟩, ⟨hst.inn.lo, hst.inn.hi⟩, hst.many, by show L.size + p.length ≤ _; omega, hst.live, hst.file, hst.age⟩, (hd.count.write (by omega) hs hr hp (by omega)).mono (by omega)⟩
theorem LgSt.keep {a fr : Nat} {rs : List (List Nat)} (h : LgSt a L) (hf : 1 ≤ fr) (hfi : fr + rs.length ≤ 1099511627777) (hrs : ∀ r ∈ rs, Bytes r ∧ r.length ≤ 20000) (hrl : rs.length ≤ 3200000 + a) (ha : a ≤ 2000) : LgSt a (L.keep fr rs) := by
  have hage := h.ok.age
  have hb := bytesF_le (age := L.age) (i := fr) (rs := rs) (by omega) (by omega) hrs
  exact ⟨h.ok.keep (by omega) hrs (by omega), ⟨hf, hfi⟩, hrl, h.size, hb, h.file, h.age⟩
theorem LeftOut.st {a w kind i fr : Nat} {rs : List (List Nat)} {e : Int} {L' : Lg} {D' : Dk} (h : LeftOut L D kind i fr rs e L' D') (hst : LgSt a L) (hd : DkSt w D) (hw : w + 10 < 1000000000) (ha : a ≤ 1000) (hf : 1 ≤ fr) (hfi : fr + rs.length ≤ 1099511627777)
    (hrs : ∀ r ∈ rs, Bytes r ∧ r.length ≤ 20000) (hrl : rs.length ≤ 3200000 + a) : LgSt (a + 1) L' ∧ DkSt (w + 4) D' := by
  have hlb : Bytes (leftB L kind i) := (begunF_bytes L).app (putF_nil_bytes Bytes.nil)
  cases h with
  | anew _ h => exact h.st hst.hd hd hw ha hf hfi hrs (by omega)
  | fail _ h _ => exact ⟨(h.st hst.hd hd hw hlb).1.mono (by omega), (h.st hst.hd hd hw hlb).2⟩
  | ok _ h =>
    obtain ⟨h1, h2⟩ := h.st hst.hd hd hw hlb
    exact ⟨(h1.keep hf hfi hrs hrl (by omega)).mono (by omega), h2⟩
theorem CutOut.st {a w : Nat} {i : Int} {e : Int} {L' : Lg} {D' : Dk} (h : CutOut L D i e L' D') (hst : LgSt a L) (hd : DkSt w D) (hw : w + 10 < 1000000000) (ha : a ≤ 1000) : LgSt (a + 1) L' ∧ DkSt (w + 4) D' := by
  have hlo := hst.inn.lo; have hhi := hst.inn.hi; have hm := hst.many
  cases h with
  | arg _ => exact ⟨hst.mono (by omega), hd.mono (by omega)⟩
  | off _ _ _ => exact ⟨hst.mono (by omega), hd.mono (by omega)⟩
  | same _ _ => exact ⟨hst.mono (by omega), hd.mono (by omega)⟩
  | left _ _ _ _ h =>
    exact h.st hst hd hw ha hlo (by rw [List.length_take]; omega) (fun r hr => hst.ok.recs r (List.mem_of_mem_take hr)) (by rw [List.length_take]; omega)
theorem DropOut.st {a w : Nat} {i : Int} {e : Int} {L' : Lg} {D' : Dk} (h : DropOut L D i e L' D') (hst : LgSt a L) (hd : DkSt w D) (hw : w + 10 < 1000000000) (ha : a ≤ 1000) : LgSt (a + 1) L' ∧ DkSt (w + 4) D' := by
  have hlo := hst.inn.lo; have hhi := hst.inn.hi; have hm := hst.many
  cases h with
  | arg _ => exact ⟨hst.mono (by omega), hd.mono (by omega)⟩
  | off _ _ _ => exact ⟨hst.mono (by omega), hd.mono (by omega)⟩
  | same _ _ => exact ⟨hst.mono (by omega), hd.mono (by omega)⟩
  | left _ h1 h2 _ h =>
    unfold Lg.next at h2
    exact h.st hst hd hw ha (by omega) (by rw [List.length_drop]; omega) (fun r hr => hst.ok.recs r (List.mem_of_mem_drop hr)) (by rw [List.length_drop]; omega)
end
end Go.Am
namespace Go.Am
section
variable {L : Lg} {D : Dk}
theorem takes_one {i n : Nat} (h : L.takes i (n + 1)) : L.takes i 1 := ⟨h.1, h.2.1, by have := h.2.2; omega⟩
theorem takes_next {i n : Nat} {r : List Nat} (h : L.takes i (n + 1)) : (L.add i r).takes ((i + 1 : Nat) : Int) n := by
  obtain ⟨h1, h2, h3⟩ := h
  refine ⟨fun _ => ?_, fun hz => ?_, by omega⟩
  · unfold Lg.next Lg.add Lg.begin
    by_cases hz : L.recs = []
    · show ((i + 1 : Nat) : Int) = (((if L.recs = [] then { L with first := i } else L : Lg).first + (L.recs ++ [r]).length : Nat) : Int)
      rw [if_pos hz, hz]; rfl
    · show ((i + 1 : Nat) : Int) = (((if L.recs = [] then { L with first := i } else L : Lg).first + (L.recs ++ [r]).length : Nat) : Int)
      rw [if_neg hz, List.length_append]
      have := h1 hz
      unfold Lg.next at this
      show ((i + 1 : Nat) : Int) = ((L.first + (L.recs.length + 1) : Nat) : Int)
      omega
  · exact absurd hz (by show ¬ L.recs ++ [r] = []; simp)
theorem LgSt.add {a i : Nat} {r : List Nat} (h : LgSt a L) (ht : L.takes i 1) (hr : Bytes r ∧ r.length ≤ 20000) (ha : a ≤ 10000) : LgSt (a + 1) (L.add i r) := by
  have hm := h.many; have hl := h.live; have hage := h.age
  have hi : i ≤ 1099511627777 := by have := ht.2.2; omega
  have hlf := longF_le (age := L.age) (i := i) (r := r) (by omega) (by omega)
  have e1 : (L.add i r).recs.length = L.recs.length + 1 := by show (L.recs ++ [r]).length = _; rw [List.length_append]; rfl
  have e2 : (L.add i r).size = L.size := L.begin_size i
  have e3 : (L.add i r).file = L.file := L.begin_file i
  have e4 : (L.add i r).age = L.age := L.begin_age i
  have e5 : (L.add i r).live = L.live + longF L.age i r := rfl
  refine ⟨h.ok.add (by omega) hr (by omega) (by omega), h.inn.add ht, by rw [e1]; omega, by rw [e2]; exact h.size, ?_, by rw [e3]; exact h.file, by rw [e4]; omega⟩
  rw [e5, e1, Nat.add_mul]; omega
theorem LgSt.adds {rs : List (List Nat)} : ∀ {L : Lg} {a i : Nat}, LgSt a L → L.takes i rs.length → (∀ r ∈ rs, Bytes r ∧ r.length ≤ 20000) → a + rs.length ≤ 10000 → LgSt (a + rs.length) (L.adds i rs) := by
  induction rs with
  | nil => intro L a i h _ _ _; exact h
  | cons r rs ih =>
    intro L a i h ht hr ha
    rw [List.length_cons] at ht ha
    have h1 := h.add (takes_one ht) (hr r List.mem_cons_self) (by omega)
    have h2 := ih (i := i + 1) h1 (takes_next ht) (fun x hx => hr x (List.mem_cons_of_mem _ hx)) (by omega)
    rw [List.length_cons, show a + (rs.length + 1) = a + 1 + rs.length by omega]
    exact h2
theorem takes_grown {i : Int} {n k : Nat} (h : L.takes i n) : (L.grown k).takes i n := h
theorem takes_hd {i : Int} {n : Nat} (h : L.takes i n) : L.hd.takes i n := by
  obtain ⟨h1, h2, h3, h4, h5, h6⟩ := L.hd_same
  have e : L.hd.next = L.next := by unfold Lg.next; rw [h2, h3]
  exact ⟨by rw [h3, e]; exact h.1, by rw [h3]; exact h.2.1, h.2.2⟩
theorem AppOut.st {a w : Nat} {i : Int} {rs : List (List Nat)} {e : Int} {L' : Lg} {D' : Dk} (h : AppOut L D i rs e L' D') (hst : LgSt a L) (hd : DkSt w D) (hw : w + 10 < 1000000000) (ha : a ≤ 1000) (hrl : rs.length ≤ 100) (hrs : ∀ r ∈ rs, Bytes r ∧ r.length ≤ 20000) :
    LgSt (a + rs.length + 1) L' ∧ DkSt (w + 4) D' := by
  have hB : ∀ j, Bytes (appB L j rs) := fun j => (begunF_bytes L).app (framesF_bytes hrs)
  cases h with
  | arg _ => exact ⟨hst.mono (by omega), hd.mono (by omega)⟩
  | off _ _ => exact ⟨hst.mono (by omega), hd.mono (by omega)⟩
  | noop _ _ _ _ => exact ⟨hst.mono (by omega), hd.mono (by omega)⟩
  | left hi ht _ hz hr _ h =>
    subst hi
    have h2 := ht.2.1 hr
    obtain ⟨q1, q2⟩ := h.st hst hd hw ha (by omega) (by simp only [List.length_nil]; omega) (fun r hr => (by cases hr)) (Nat.zero_le _)
    exact ⟨q1.mono (by omega), q2⟩
  | fail _ _ _ _ _ h _ =>
    obtain ⟨q1, q2⟩ := h.st hst.hd hd hw (hB _)
    exact ⟨q1.mono (by omega), q2⟩
  | ok hi ht _ _ _ h =>
    subst hi
    obtain ⟨q1, q2⟩ := h.st hst.hd hd hw (hB _)
    have ht' := takes_hd ht
    cases h with
    | ok _ _ _ => exact ⟨(q1.adds (takes_grown ht') hrs (by omega)).mono (by omega), q2⟩
end
end Go.Am
namespace Go.Am
section
variable {tab : Nat → Option PFn} {σ : S} {Q : AVal → S → Prop} {G M : Nat → Prop} {l d : Pos} {L : Lg} {D : Dk} {rv : AVal} {mr : Nat}
/-- Since a time: all that was there is as it was, and what is changed is younger. -/
structure Since (σ0 σ : S) (M : Nat → Prop) : Prop where
  k : Keep0 σ0 σ
  m : ∀ x, M x → σ0.next.nat ≤ x
theorem Since.step {σ0 σ' : S} {G' M' : Nat → Prop} (h : Since σ0 σ M) (ho : Ok σ0) (r : Rel3 σ G M σ' G' M') : Since σ0 σ' M' := by
  refine ⟨h.k.then ho r.k fun x hx hm => ?_, fun x hx => ?_⟩
  · have := h.m x hm; omega
  · rcases r.s x hx with hh | hh
    · exact h.m x hh
    · have := h.k.next; omega
theorem Since.keep0 {σ0 σ' : S} (h : Since σ0 σ M) (k : Keep0 σ σ') : Since σ0 σ' M := ⟨h.k.trans k, h.m⟩
theorem get_any (ht : Tab tab) (ho : Ok σ) (h : LgAt σ G l d L rv mr) (hok : LgOk L) {i : Int} (hi : i ≤ 9223372036854775807) (hQ : ∀ v σ', Keep0 σ σ' → Q v σ') : WF tab 16 [.ptr l 0, .int .i64 i] σ Q :=
  get_o ht ho h hok hi (fun _ σ' k => hQ _ σ' k) (fun _ _ σ' k => hQ _ σ' k)
theorem others_loop (ht : Tab tab) {σ0 : S} (ho0 : Ok σ0) {lv : AVal} {n ml : Nat} {cs : List AVal} (hl : SlAt σ0 lv 7 n cs ml) (hcs : ∀ k, k < n → ∃ i : Int, (-9223372036854775808 ≤ i ∧ i ≤ 9223372036854775807) ∧ cs[k * 7 + 1]? = some (.int .i64 i))
    (h13 : ∀ (σ1 : S) (Q1 : AVal → S → Prop), Ok σ1 → (∀ σ2, Q1 (.bool true) σ2) → WF tab 13 [] σ1 Q1) (hQ : ∀ σ', Q (.bool true) σ') (c : Nat) :
    ∀ (E : En) (σ : S) (G M : Nat → Prop) (L : Lg) (D : Dk) (rv : AVal) (mr i a w : Nat), Ok σ → WL σ G l d L D rv mr M → Since σ0 σ M → LgSt a L → DkSt w D → i + c = 8 → a + 4 * c ≤ 100 → w + 20 * c ≤ 1000 →
      E 3 = lv → E 11 = .ptr l 0 → E 12 = .int .i64 (i : Int) → f3.L1 (WF tab) Q E σ := by
  induction c with
  | zero =>
    intro E σ G M L D rv mr i a w ho h hsi hst hd hi ha hw h3 h11 h12
    refine f3.p1_of ?_
    unfold f3.p1
    rw [h3, h12]
    refine Som_of hl.len (Som_of (bin_lss _ _ _ _) ?_)
    have stop : ∀ E' : En, wC (WF tab) f3.c2 E' σ (retK f3.res Q) := fun E' => by
      refine f3.p2_of ?_
      unfold f3.p2
      refine h13 σ _ ho fun σ2 => ?_
      rw [Ret_1 rfl]; exact hQ σ2
    by_cases hin : (i : Int) < (n : Int)
    · rw [decide_eq_true hin]
      refine Sq_of rfl rfl (Sq_of rfl (bin_lss _ _ _ _) (Som_of rfl (WIf_f (by omega) (stop _))))
    · rw [decide_eq_false hin]
      refine Som_of rfl (Som_of rfl (Som_of rfl ?_))
      rw [WIf_false]; exact stop _
  | succ c ih =>
    intro E σ G M L D rv mr i a w ho h hsi hst hd hi ha hw h3 h11 h12
    refine f3.p1_of ?_
    unfold f3.p1
    rw [h3, h12, h11]
    refine Som_of hl.len (Som_of (bin_lss _ _ _ _) ?_)
    have stop : ∀ E' : En, wC (WF tab) f3.c2 E' σ (retK f3.res Q) := fun E' => by
      refine f3.p2_of ?_
      unfold f3.p2
      refine h13 σ _ ho fun σ2 => ?_
      rw [Ret_1 rfl]; exact hQ σ2
    by_cases hin : (i : Int) < (n : Int)
    case neg =>
      rw [decide_eq_false hin]
      refine Som_of rfl (Som_of rfl (Som_of rfl ?_))
      rw [WIf_false]; exact stop _
    rw [decide_eq_true hin]
    refine Sq_of rfl rfl (Sq_of rfl (bin_lss _ _ _ _) (Som_of rfl (WIf_t (by omega) ?_)))
    obtain ⟨x, hx, hcx⟩ := hcs i (by omega)
    have rd : ∀ σ' : S, Keep0 σ0 σ' → ∀ K : AVal → AVal → AVal → Prop, (∀ q1 q2, K q1 q2 (.int .i64 x)) → Som (vIxSl 7 lv (.int .i64 (i : Int))) fun t84 => Som (vFieldAddr 1 t84) fun t85 => Som (vLoad1 t85 σ') fun t86 => K t84 t85 t86 := by
      intro σ' k' K hK
      obtain ⟨b, o, blk, q1, q2, _, q3⟩ := (hl.keep (M := fun _ => False) (fun _ h => h) k').at (k := i) (by omega) (by omega)
      refine Som_of q1 (Som_of (vField0 _ _ _) (Som_of (v := .int .i64 x) ?_ (hK _ _)))
      rw [load1_of q2, q3 1 (by omega), hcx]
    refine rd σ hsi.k _ fun _ _ => ?_
    refine get_any ht ho h.lg hst.ok hx.2 fun v σ1 k1 => ?_
    have h1 := h.keep0 k1
    have si1 := hsi.keep0 k1
    have b1 := hst.many; have b2 := hst.inn.hi; have b3 := hst.age; have b4 := hd.wn
    refine rd σ1 si1.k _ fun _ _ => ?_
    refine cut_o ht k1.ok h1 hst.ok hd.ok (by omega) hst.file (by omega) (by omega) (by omega) fun e2 L2 D2 o2 => ?_
    intro σ2 G2 M2 rv2 mr2 hw2 x2 y2 z2
    obtain ⟨st2, d2⟩ := o2.st hst hd (by omega) (by omega)
    have si2 := si1.step ho0 ⟨x2, y2, z2⟩
    refine last_c ht x2.ok hw2.lg st2.ok fun σ3 k3 => ?_
    have c1 := st2.many; have c2 := st2.inn.hi; have c3 := st2.age; have c4 := d2.wn; have c5 := st2.live; have c6 := st2.inn.lo
    refine Som_of (bin_add _ _ _ _) ?_
    have hnx : (L2.next : Int) = (L2.first : Int) + (L2.recs.length : Int) := by unfold Lg.next; omega
    rw [wrap_i64_in (n := (L2.next : Int) - 1 + 1) (by omega) (by omega)]
    refine Ala_of (made1 (.str [97]) rfl _) ?_
    have k4 : Keep0 σ3 (σ3.new ⟨1, .ex, [.str [97]]⟩) := Keep.new k3.ok _
    have s4 := made1_sl (σ := σ3) (.str [97])
    generalize σ3.new ⟨1, .ex, [.str [97]]⟩ = σ4 at *
    have k24 := k3.trans k4
    have hw4 := hw2.keep0 k24
    have si4 := si2.keep0 k24
    have n3 := k3.next
    have ha97 : ∀ r ∈ [[97]], Bytes r ∧ r.length ≤ 20000 := fun r hr => by
      have : r = [97] := by simpa using hr
      subst this
      exact ⟨fun x hx => by have : x = 97 := by simpa using hx
                            omega, by decide⟩
    refine append_o ht k24.ok hw4 st2.ok d2.ok (by omega) st2.file (by omega) (rs := [[97]]) (m := σ3.next.nat) (by omega) s4 ha97 (by decide) (fun _ hM => by have := hw2.lt _ hM; omega) (by omega) (by omega) fun e5 L5 D5 o5 => ?_
    intro σ5 G5 M5 rv5 mr5 hw5 x5 y5 z5
    obtain ⟨st5, d5⟩ := o5.st st2 d2 (by omega) (by omega) (by decide) ha97
    have si5 := si4.step ho0 ⟨x5, y5, z5⟩
    refine first_c ht hw5.lg ?_
    have f1 := st5.many; have f2 := st5.inn.hi; have f3 := st5.age; have f4 := d5.wn
    have f5 : [[97]].length = 1 := rfl
    refine drop_o ht x5.ok hw5 st5.ok d5.ok (by omega) st5.file (by omega) (by omega) (by omega) fun e7 L7 D7 o7 => ?_
    intro σ7 G7 M7 rv7 mr7 hw7 x7 y7 z7
    obtain ⟨st7, d7⟩ := o7.st st5 d5 (by omega) (by omega)
    have si7 := si5.step ho0 ⟨x7, y7, z7⟩
    refine lsync_c ht x7.ok hw7 d7.ok (fun _ => ?_) (fun _ => ?_)
    · intro σ8 G8 M8 rv8 mr8 hw8 x8 y8 z8
      refine Som_of (bin_add _ _ _ _) ?_
      have ei : IntKind.i64.wrap ((i : Int) + 1) = ((i + 1 : Nat) : Int) := by
        rw [wrap_i64_in (n := (i : Int) + 1) (by omega) (by omega)]; omega
      rw [ei]
      exact ih _ σ8 G8 M8 L7 _ rv8 mr8 (i + 1) _ _ x8.ok hw8 (si7.step ho0 ⟨x8, y8, z8⟩) st7 d7.count (by omega) (by omega) (by omega) (by simp [h3]) (by simp [h11]) (by simp)
    · intro σ8 G8 M8 rv8 mr8 hw8 x8 y8 z8
      refine Som_of (bin_add _ _ _ _) ?_
      have ei : IntKind.i64.wrap ((i : Int) + 1) = ((i + 1 : Nat) : Int) := by
        rw [wrap_i64_in (n := (i : Int) + 1) (by omega) (by omega)]; omega
      rw [ei]
      exact ih _ σ8 G8 M8 L7 _ rv8 mr8 (i + 1) _ _ x8.ok hw8 (si7.step ho0 ⟨x8, y8, z8⟩) st7 (d7.count.sync.mono (Nat.zero_le w)) (by omega) (by omega) (by omega) (by simp [h3]) (by simp [h11]) (by simp)
end
end Go.Am
namespace Go.Am
section
variable {tab : Nat → Option PFn} {σ : S} {Q : AVal → S → Prop} {G M : Nat → Prop} {l d : Pos} {L : Lg} {D : Dk} {rv : AVal} {mr : Nat}
theorem OpenS.st {w : Nat} {L' : Lg} {D' : Dk} (h : OpenS D L' D') (hst : LgSt 0 (openL D)) (hd : ∀ D1, trim (openL D) 40 8 D = (true, D1) → DkSt w D1) : LgSt 1 L' ∧ DkSt 4 D' := by
  cases h with
  | same h1 _ _ => exact ⟨hst.mono (by omega), (hd _ h1).count.sync.mono (by omega)⟩
  | anew h1 _ _ h2 _ =>
    have hm := hst.many; have hi := hst.inn.hi
    exact h2.st hst (hd _ h1).count.sync (by omega) (by omega) hst.inn.lo hi hst.ok.recs (by omega)
theorem trim_st (n : Nat) : ∀ (f w : Nat) (D D1 : Dk), trim L n f D = (true, D1) → DkSt w D → f + n ≤ 64 → w + n < 1000000000 → DkSt (w + n) D1 := by
  induction n with
  | zero => intro f w D D1 h hd _ _; cases h; exact hd
  | succ n ih =>
    intro f w D D1 h hd hf hw
    unfold trim at h
    split at h
    · rename_i hk
      split at h
      · cases h
      · have hcf : D.count.file f = D.file f := by unfold Dk.count; split; rfl; split <;> rfl
        exact (ih _ _ _ _ h (hd.count.cutF (by omega) (by rw [hcf]; omega) (by omega)) (by omega) (by omega)).mono (by omega)
    · exact (ih _ _ _ _ h hd (by omega) (by omega)).mono (by omega)
theorem Write_any (ht : Tab tab) {pf ps : Pos} {fv sv wc : List AVal} {wv : AVal} {mw w : Nat} (ho : Ok σ) (h : DkAt σ G d D pf ps fv sv wv wc mw) (hd : DkSt w D) (hw : w + 10 < 1000000000) {k a : Nat} {v : AVal} {p : List Nat} {m : Nat} (hk : k < 64) (hv : BySl σ v p m) (hpb : Bytes p) (hm : p ≠ [] → ¬ G m) (ha : a ≤ 1000000000) (hpl : p.length ≤ 4611686018427387904)
    (hQ : ∀ e σ' G' D' fv' wv' wc' mw', DkSt (w + 1) D' → DkAt σ' G' d D' pf ps fv' sv wv' wc' mw' → Keep (dM d pf ps mw) σ σ' → Gr σ G G' → (mw' = mw ∨ σ.next.nat ≤ mw') → Q (.int .i64 e) σ') : WF tab 10 [.ptr d 0, .int .i64 (k : Int), .int .i64 (a : Int), v] σ Q :=
  Write_g ht ho h hd.ok (by have := hd.wn; omega) hk hv hpb hm ha hpl (fun σ' _ hd' k' => hQ _ σ' G _ _ _ _ _ (hd.count.mono (by omega)) hd' k' (Gr.refl _ _) (.inl rfl)) (fun σ' _ _ hd' k' => hQ _ σ' G _ _ _ _ _ (hd.count.mono (by omega)) hd' k' (Gr.refl _ _) (.inl rfl))
    (fun σ' _ _ _ hd' k' => hQ _ σ' G _ _ _ _ _ (hd.count.mono (by omega)) hd' k' (Gr.refl _ _) (.inl rfl)) (fun σ' G' _ _ _ _ _ hs hr hd' k' g' m' => hQ _ σ' G' _ _ _ _ _ (hd.count.write hk hs hr hpb (by omega)) hd' k' g' m')
theorem others_main (ht : Tab tab) {σ0 : S} (ho0 : Ok σ0) {lv pv : AVal} {p : List Nat} {n ml mp : Nat} {cs : List AVal} (hl : SlAt σ0 lv 7 n cs ml) (hcs : ∀ k, k < n → ∃ i : Int, (-9223372036854775808 ≤ i ∧ i ≤ 9223372036854775807) ∧ cs[k * 7 + 1]? = some (.int .i64 i))
    (hp : BySl σ0 pv p mp) (hpb : Bytes p) (hpl : p.length ≤ 4611686018427387904)
    (h13 : ∀ (σ1 : S) (Q1 : AVal → S → Prop), Ok σ1 → (∀ σ2, Q1 (.bool true) σ2) → WF tab 13 [] σ1 Q1) (hQ : ∀ σ', Q (.bool true) σ') {file : Int} {at_ : Nat} (ha : at_ ≤ 5000)
    {E : En} {pf ps : Pos} {fv sv wc : List AVal} {wv : AVal} {mw : Nat} (ho : Ok σ) (h : DkAt σ G d D pf ps fv sv wv wc mw) (hd : DkSt 0 D) (hk0 : Keep0 σ0 σ) (hG : ∀ x, G x → σ0.next.nat ≤ x)
    (e0 : E 0 = .int .i64 file) (e1 : E 1 = .int .i64 (at_ : Int)) (e2 : E 2 = pv) (e3 : E 3 = lv) (e9 : E 9 = .ptr d 0) : f3.J0 (WF tab) Q E σ := by
  refine f3.p0_of ?_
  unfold f3.p0
  rw [e0, e1, e2, e9]
  refine within_c ht (by omega) (by omega) (by omega) fun r hr1 hr2 => ?_
  obtain ⟨k, hk⟩ := Int.eq_ofNat_of_zero_le (show 0 ≤ r by omega)
  subst hk
  have hdM0 : ∀ x, dM d pf ps mw x → σ0.next.nat ≤ x := fun x hx => by
    rcases hx with hx | hx | hx | hx
    · rw [hx]; exact hG _ h.g1
    · rw [hx]; exact hG _ h.g2
    · rw [hx]; exact hG _ h.g3
    · rw [hx]; exact hG _ h.g4
  have hpp := hp.keep (M := fun _ => False) (fun _ h => h) hk0
  have hpm : p ≠ [] → ¬ G mp := fun hne hg => by
    have h1 := hG mp hg
    have h2 : mp < σ0.next.nat := SlAt.own_lt hp ho0 (by rw [Nat.mul_one]; exact fun e => hne (List.eq_nil_of_length_eq_zero e))
    omega
  refine Write_any ht ho h hd (by omega) (k := k) (a := at_) (by omega) hpp hpb hpm (by omega) hpl fun e σ2 G2 D2 fv2 wv2 wc2 mw2 hd2 h2 k2 g2 m2 => ?_
  have n0 := hk0.next
  have hk02 : Keep0 σ0 σ2 := hk0.then ho0 k2 fun x hx hm => by have := hdM0 x hm; omega
  have hdM2 : ∀ x, dM d pf ps mw2 x → σ0.next.nat ≤ x := fun x hx => by
    rcases hx with hx | hx | hx | hx
    · exact hdM0 x (.inl hx)
    · exact hdM0 x (.inr (.inl hx))
    · exact hdM0 x (.inr (.inr (.inl hx)))
    · rcases m2 with e | e
      · exact hdM0 x (.inr (.inr (.inr (by rw [hx, e]))))
      · omega
  have bad : ∀ σ3 : S, Ok σ3 →
      Som (binA .eql .ptr .nptr .nptr) fun t47 => Som (gq1 (isB t47 true) (some (.int .i64 11))) fun t49 => Som (gq1 (isB t47 true) (binA .neq .num t49 (.int .i64 0))) fun t50 => Som (vPick t47 t50 (.bool false)) fun t51 => gE1 (isB t51 true) (fun K => WF tab 13 [] σ3 K) σ3 fun t53 σ4 => Som (vPick t51 t53 (.bool false)) fun t54 => Ret [some t54] σ4 Q := by
    intro σ3 ho3
    refine Som_of (v := .bool true) rfl (Sq_of rfl rfl (Sq_of rfl (bin_neq _ _ _ _) (Som_of (v := .bool true) rfl (GE_t rfl ?_))))
    refine h13 σ3 _ ho3 fun σ4 => ?_
    refine Som_of rfl ?_
    rw [Ret_1 rfl]; exact hQ σ4
  refine open_o ht k2.ok h2 hd2.ok (by have := hd2.wn; omega) (fun _ => ?_) (fun D' L' l σ' G' M' rv mr _ hw r _ => ?_) (fun D' L' l σ' G' M' rv mr hS hst hw r _ => ?_)
  · refine Som_of rfl (Som_of rfl (Som_of (bin_neq _ _ _ _) (Som_of rfl (Som_of rfl (Som_of (v := .bool true) rfl ?_)))))
    rw [WIf_true]
    exact bad σ2 k2.ok
  · refine Som_of rfl (Som_of rfl (Som_of (bin_neq _ _ _ _) (Som_of rfl (Som_of rfl (Som_of (v := .bool true) rfl ?_)))))
    rw [WIf_true]
    exact bad σ' r.k.ok
  · refine Som_of rfl (Som_of rfl (Som_of (bin_neq _ _ _ _) ?_))
    rw [decide_eq_false (show ¬ (0 : Int) ≠ 0 by omega)]
    refine Sq_of rfl rfl (Sq_of (v := .bool false) rfl rfl (Som_of (v := .bool false) rfl ?_))
    rw [WIf_false]
    obtain ⟨st, d'⟩ := hS.st hst (fun D1 h1 => trim_st 40 8 1 D2 D1 h1 hd2 (by omega) (by omega))
    have c1 := st.inn.lo; have c2 := st.inn.hi
    have hnx : (L'.next : Int) = (L'.first : Int) + (L'.recs.length : Int) := by unfold Lg.next; omega
    refine first_c ht hw.lg (Som_of (bin_lss _ _ _ _) ?_)
    rw [decide_eq_false (show ¬ (L'.first : Int) < 1 by omega)]
    refine Sq_of rfl rfl (GE_t rfl ?_)
    refine first_c ht hw.lg (Sq_of rfl (bin_gtr _ _ _ _) ?_)
    rw [decide_eq_false (show ¬ (1099511627777 : Int) < (L'.first : Int) by omega)]
    refine Som_of (v := .bool false) rfl (Sq_of rfl rfl (GE_t rfl ?_))
    refine last_c ht r.k.ok hw.lg st.ok fun σ6 k6 => ?_
    have hw6 := hw.keep0 k6
    refine Sq_of rfl rfl (GE_t rfl ?_)
    refine first_c ht hw6.lg (Sq_of rfl (bin_sub _ _ _ _) (Sq_of rfl (bin_lss _ _ _ _) ?_))
    rw [wrap_i64_in (n := (L'.first : Int) - 1) (by omega) (by omega), decide_eq_false (show ¬ (L'.next : Int) - 1 < (L'.first : Int) - 1 by omega)]
    refine Som_of (v := .bool false) rfl ?_
    rw [WIf_false]
    have si : Since σ0 σ' M' := (⟨hk02, hdM2⟩ : Since σ0 σ2 _).step ho0 r
    exact others_loop ht ho0 hl hcs h13 hQ 8 _ σ6 G' M' L' D' rv mr 0 1 4 k6.ok hw6 (si.keep0 k6) st d' (by omega) (by omega) (by omega) (by simp [e3]) (by simp) (by simp)
theorem others_c (ht : Tab tab) (ho : Ok σ) {lv pv : AVal} {p : List Nat} {n ml mp : Nat} {cs : List AVal} (hl : SlAt σ lv 7 n cs ml) (hcs : ∀ k, k < n → ∃ i : Int, (-9223372036854775808 ≤ i ∧ i ≤ 9223372036854775807) ∧ cs[k * 7 + 1]? = some (.int .i64 i))
    (hp : BySl σ pv p mp) (hpb : Bytes p) (hpl : p.length ≤ 4611686018427387904) {file at_ : Int}
    (h13 : ∀ (σ1 : S) (Q1 : AVal → S → Prop), Ok σ1 → (∀ σ2, Q1 (.bool true) σ2) → WF tab 13 [] σ1 Q1) (hQ : ∀ σ', Q (.bool true) σ') : WF tab 3 [.int .i64 file, .int .i64 at_, pv, lv] σ Q := by
  refine f3_wf ht.t3 ?_
  unfold f3
  refine new_c (G := fun _ => False) (q := 1048576) ht ho (fun _ h => h.elim) (by omega) fun d pf ps σ1 hd k1 n1 n2 n3 => ?_
  refine Som_of rfl (Som_of rfl (Som_of (bin_neq _ _ _ _) ?_))
  rw [decide_eq_false (show ¬ (0 : Int) ≠ 0 by omega)]
  refine Sq_of rfl rfl (Sq_of (v := .bool false) rfl rfl (Som_of (v := .bool false) rfl ?_))
  rw [WIf_false]
  have hG : ∀ x, (False ∨ x = d.nat ∨ x = pf.nat ∨ x = ps.nat ∨ x = σ.next.nat) → σ.next.nat ≤ x := fun x hx => by
    rcases hx with hx | hx | hx | hx | hx
    · exact hx.elim
    all_goals omega
  have hst : DkSt 0 (Dk.fresh 1048576) := ⟨DkOk.fresh (by omega), Nat.le_refl 0⟩
  have main : ∀ (a : Nat) (E : En), a ≤ 5000 → E 0 = .int .i64 file → E 1 = .int .i64 (a : Int) → E 2 = pv → E 3 = lv → E 9 = .ptr d 0 → f3.J0 (WF tab) Q E σ1 := fun a E ha e0 e1 e2 e3 e9 =>
    others_main ht ho hl hcs hp hpb hpl h13 hQ ha k1.ok hd hst k1 hG e0 e1 e2 e3 e9
  refine Som_of (bin_lss _ _ _ _) ?_
  by_cases hneg : at_ < 0
  · rw [decide_eq_true hneg]
    refine Som_of rfl (Som_of rfl (Som_of (v := .bool true) rfl ?_))
    rw [WIf_true]
    exact main 0 _ (by omega) (by simp) (by simp) (by simp) (by simp) (by simp)
  · rw [decide_eq_false hneg]
    refine Sq_of rfl rfl (Sq_of rfl (bin_gtr _ _ _ _) (Som_of rfl ?_))
    refine WIf_dec (fun hbig => ?_) (fun hok => ?_)
    · exact main 0 _ (by omega) (by simp) (by simp) (by simp) (by simp) (by simp)
    · obtain ⟨a, haa⟩ := Int.eq_ofNat_of_zero_le (show 0 ≤ at_ by omega)
      exact main a _ (by omega) (by simp) (by simp [haa]) (by simp) (by simp) (by simp)
end
end Go.Am
