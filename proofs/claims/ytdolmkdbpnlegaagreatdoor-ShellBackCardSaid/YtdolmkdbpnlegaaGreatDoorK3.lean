/-
  How the evaluator's memory stands to the model's: values, blocks, worlds. Conditions: none.
-/
import Derived.Test.YtdolmkdbpnlegaaGreatDoorK2
namespace Go.Am

structure MI where
  c : Nat
  base : Nat
  size : Nat
abbrev Mp := Pos → Option MI
def Mp.le (m m' : Mp) : Prop := ∀ b mi, m b = some mi → m' b = some mi
theorem Mp.le_refl (m : Mp) : m.le m := fun _ _ h => h
theorem Mp.le_trans {a b c : Mp} (h : a.le b) (k : b.le c) : a.le c := fun p mi e => k p mi (h p mi e)

mutual
inductive SR (m : Mp) : AVal → Value → Prop
  | bool (b : Bool) : SR m (.bool b) (.bool b)
  | int (k : IntKind) (n : Int) : SR m (.int k n) (.int k n)
  | str (s : List Nat) (t : ByteArray) (h : t.data.toList.map (·.toNat) = s) : SR m (.str s) (.string t)
  | nptr : SR m .nptr (.pointer none)
  | ptr (b : Pos) (o : Nat) (mi : MI) (h : m b = some mi) : SR m (.ptr b o) (.pointer (some ⟨mi.c, mi.base + o, none⟩))
  | nsl : SR m .nsl (.slice none 0 0)
  | sl (b : Pos) (o len cap : Nat) (mi : MI) (h : m b = some mi) (hc : len ≤ cap) : SR m (.sl b o len cap) (.slice (some ⟨mi.c, mi.base + o, none⟩) len cap)
  | slu (b : Pos) (o len esz : Nat) (mi : MI) (a : Addr) (cap : Nat) (h : m b = some mi) (h1 : len ≤ cap) (h2 : a = ⟨mi.c, mi.base + o, none⟩ ∨ (len = 0 ∧ cap = 0)) (h3 : cap = 0 ∨ mi.base + o + cap * esz ≤ mi.size) :
      SR m (.slu b o len esz) (.slice (some a) len cap)
  | nmap : SR m .nmap (.map none)
  | map (b : Pos) (mi : MI) (h : m b = some mi) : SR m (.map b) (.map (some mi.c))
  | func (f : Nat) (caps : List AVal) (cs : Array Value) (h : SRs m caps cs.toList) : SR m (.func f caps) (.func (.func f) #[] cs)
  | nfunc : SR m .nfunc .nilFunc
  | niface : SR m .niface .nilIface
  | iface (t : Nat) (v : AVal) (x : Value) (h : SR m v x) : SR m (.iface t v) (.iface t x)
  | top (t : Nat) (x : Value) : SR m .top (.iface t x)
  | gp (g o : Nat) : SR m (.gp g o) (.pointer (some ⟨g, o, none⟩))
inductive SRs (m : Mp) : List AVal → List Value → Prop
  | nil : SRs m [] []
  | cons (v : AVal) (x : Value) (l : List AVal) (r : List Value) (h : SR m v x) (hs : SRs m l r) : SRs m (v :: l) (x :: r)
end
inductive V1 (m : Mp) : AVal → Value → Prop
  | one (v : AVal) (x : Value) (h : SR m v x) : V1 m v x
  | agg (xs : List AVal) (ys : Array Value) (h : SRs m xs ys.toList) : V1 m (.agg xs) (.agg ys)
inductive V1s (m : Mp) : List AVal → List Value → Prop
  | nil : V1s m [] []
  | cons (v : AVal) (x : Value) (l : List AVal) (r : List Value) (h : V1 m v x) (hs : V1s m l r) : V1s m (v :: l) (x :: r)
inductive VR (m : Mp) : AVal → Value → Prop
  | v1 (v : AVal) (x : Value) (h : V1 m v x) : VR m v x
  | tup (xs : List AVal) (ys : Array Value) (h : V1s m xs ys.toList) : VR m (.tup xs) (.tuple ys)
inductive VRs (m : Mp) : List AVal → List Value → Prop
  | nil : VRs m [] []
  | cons (v : AVal) (x : Value) (l : List AVal) (r : List Value) (h : VR m v x) (hs : VRs m l r) : VRs m (v :: l) (x :: r)

theorem SR.vr {m : Mp} {v : AVal} {x : Value} (h : SR m v x) : VR m v x := .v1 _ _ (.one _ _ h)
mutual
theorem SR.mono {m m' : Mp} (hm : m.le m') {v : AVal} {x : Value} (h : SR m v x) : SR m' v x := by
  cases h with
  | bool b => exact .bool b
  | int k n => exact .int k n
  | str s t h => exact .str s t h
  | nptr => exact .nptr
  | ptr b o mi h => exact .ptr b o mi (hm _ _ h)
  | nsl => exact .nsl
  | sl b o len cap mi h hc => exact .sl b o len cap mi (hm _ _ h) hc
  | slu b o len esz mi a cap h h1 h2 h3 => exact .slu b o len esz mi a cap (hm _ _ h) h1 h2 h3
  | nmap => exact .nmap
  | map b mi h => exact .map b mi (hm _ _ h)
  | func f caps cs h => exact .func f caps cs (SRs.mono hm h)
  | nfunc => exact .nfunc
  | niface => exact .niface
  | iface t v x h => exact .iface t v x (SR.mono hm h)
  | top t x => exact .top t x
  | gp g o => exact .gp g o
theorem SRs.mono {m m' : Mp} (hm : m.le m') {v : List AVal} {x : List Value} (h : SRs m v x) : SRs m' v x := by
  cases h with
  | nil => exact .nil
  | cons v x l r h hs => exact .cons _ _ _ _ (SR.mono hm h) (SRs.mono hm hs)
end
theorem V1.mono {m m' : Mp} (hm : m.le m') {v : AVal} {x : Value} (h : V1 m v x) : V1 m' v x := by
  cases h with
  | one v x h => exact .one _ _ (h.mono hm)
  | agg xs ys h => exact .agg _ _ (h.mono hm)
theorem V1s.mono {m m' : Mp} (hm : m.le m') {v : List AVal} {x : List Value} (h : V1s m v x) : V1s m' v x := by
  induction h with
  | nil => exact .nil
  | cons v x l r h hs ih => exact .cons _ _ _ _ (h.mono hm) ih
theorem VR.mono {m m' : Mp} (hm : m.le m') {v : AVal} {x : Value} (h : VR m v x) : VR m' v x := by
  cases h with
  | v1 v x h => exact .v1 _ _ (h.mono hm)
  | tup xs ys h => exact .tup _ _ (h.mono hm)
theorem VRs.mono {m m' : Mp} (hm : m.le m') {v : List AVal} {x : List Value} (h : VRs m v x) : VRs m' v x := by
  induction h with
  | nil => exact .nil
  | cons v x l r h hs ih => exact .cons _ _ _ _ (h.mono hm) ih
theorem SRs.length {m : Mp} {l : List AVal} {r : List Value} (h : SRs m l r) : r.length = l.length := by
  induction l generalizing r with
  | nil => cases h; rfl
  | cons v l ih => cases h with | cons _ x _ r h hs => simp [ih hs]
theorem SRs.append {m : Mp} {a b : List AVal} {x y : List Value} (h : SRs m a x) (k : SRs m b y) : SRs m (a ++ b) (x ++ y) := by
  induction a generalizing x with
  | nil => cases h; exact k
  | cons v l ih => cases h with | cons _ x _ r h hs => exact .cons _ _ _ _ h (ih hs)
theorem SRs.get {m : Mp} {l : List AVal} {r : List Value} (h : SRs m l r) {i : Nat} {v : AVal} (hv : l[i]? = some v) : ∃ x, r[i]? = some x ∧ SR m v x := by
  induction l generalizing r i with
  | nil => simp at hv
  | cons u l ih => cases h with
    | cons _ x _ r h hs => cases i with
      | zero => simp at hv; subst hv; exact ⟨x, rfl, h⟩
      | succ i => simp at hv; simpa using ih hs hv
theorem SRs.get' {m : Mp} {l : List AVal} {r : List Value} (h : SRs m l r) {i : Nat} {x : Value} (hv : r[i]? = some x) : ∃ v, l[i]? = some v ∧ SR m v x := by
  induction l generalizing r i with
  | nil => cases h; simp at hv
  | cons u l ih => cases h with
    | cons _ x' _ r h hs => cases i with
      | zero => simp at hv; subst hv; exact ⟨u, rfl, h⟩
      | succ i => simp at hv; simpa using ih hs hv
theorem SRs.of_get {m : Mp} {l : List AVal} {r : List Value} (hl : r.length = l.length) (h : ∀ (i : Nat) (v : AVal) (x : Value), l[i]? = some v → r[i]? = some x → SR m v x) : SRs m l r := by
  induction l generalizing r with
  | nil => cases r with | nil => exact .nil | cons => simp at hl
  | cons v l ih => cases r with
    | nil => simp at hl
    | cons x r => exact .cons _ _ _ _ (h 0 v x rfl rfl) (ih (by simpa using hl) fun i a b ha hb => h (i + 1) a b (by simpa using ha) (by simpa using hb))
theorem SRs.take {m : Mp} {l : List AVal} {r : List Value} (h : SRs m l r) (n : Nat) : SRs m (l.take n) (r.take n) := by
  induction l generalizing r n with
  | nil => cases h; simpa using SRs.nil
  | cons u l ih => cases h with
    | cons _ x _ r h hs => cases n with
      | zero => exact .nil
      | succ n => exact .cons _ _ _ _ h (ih hs n)
theorem SRs.drop {m : Mp} {l : List AVal} {r : List Value} (h : SRs m l r) (n : Nat) : SRs m (l.drop n) (r.drop n) := by
  induction l generalizing r n with
  | nil => cases h; simpa using SRs.nil
  | cons u l ih => cases h with
    | cons _ x _ r h hs => cases n with
      | zero => exact .cons _ _ _ _ h hs
      | succ n => exact ih hs n
theorem SR.oneCell {m : Mp} {v : AVal} {x : Value} (h : SR m v x) : x.oneCell' = true := by cases h <;> rfl
theorem SR.cells {m : Mp} {v : AVal} {x : Value} (h : SR m v x) : x.cells = #[x] := by cases h <;> rfl
theorem SR.cellsOf {m : Mp} {v : AVal} {x : Value} (h : SR m v x) : cellsOf v = some [v] := by cases h <;> rfl
theorem V1.cells {m : Mp} {v : AVal} {x : Value} (h : V1 m v x) : ∃ cs, cellsOf v = some cs ∧ SRs m cs x.cells.toList := by
  cases h with
  | one v x h => exact ⟨[v], h.cellsOf, by rw [h.cells]; exact .cons _ _ _ _ h .nil⟩
  | agg xs ys h => exact ⟨xs, rfl, h⟩
theorem VR.cells {m : Mp} {v : AVal} {x : Value} (h : VR m v x) {cs : List AVal} (hc : cellsOf v = some cs) : SRs m cs x.cells.toList := by
  cases h with
  | v1 v x h => obtain ⟨cs', e, h'⟩ := h.cells; rw [hc] at e; cases e; exact h'
  | tup xs ys h => simp [Am.cellsOf] at hc
theorem VR.undef {m : Mp} : VR m .undef Go.undef := .tup [] #[] .nil

theorem andThen_eq {α β : Type} {o : Option α} {k : α → Option β} {b : β} : andThen o k = some b ↔ ∃ a, o = some a ∧ k a = some b := by
  cases o with
  | none => exact ⟨fun h => (by cases h), fun ⟨_, h, _⟩ => (by cases h)⟩
  | some a => exact ⟨fun h => ⟨a, rfl, h⟩, fun ⟨_, h, h'⟩ => (by cases h; exact h')⟩
theorem test_eq {β : Type} {t : Bool} {k : Option β} {b : β} : test t k = some b ↔ t = true ∧ k = some b := by
  cases t with
  | false => exact ⟨fun h => (by cases h), fun h => (by cases h.1)⟩
  | true => exact ⟨fun h => ⟨rfl, h⟩, fun h => h.2⟩
theorem lenN_eq (l : List AVal) : lenN l = l.length := by induction l <;> simp [lenN, *]
theorem lenS_eq (l : List Nat) : lenS l = l.length := by induction l <;> simp [lenS, *]
theorem takeN_eq {n : Nat} {l r : List AVal} : takeN n l = some r ↔ n ≤ l.length ∧ r = l.take n := by
  induction n generalizing l r with
  | zero => rw [takeN_zero]; simp [eq_comm]
  | succ n ih =>
    cases l with
    | nil => rw [takeN_nil]; simp
    | cons c l =>
      rw [takeN_cons, andThen_eq]
      constructor
      · rintro ⟨a, h, e⟩; obtain ⟨h1, h2⟩ := ih.1 h; subst h2; cases e; exact ⟨by simpa using h1, by simp⟩
      · rintro ⟨h1, h2⟩; exact ⟨l.take n, ih.2 ⟨by simpa using h1, rfl⟩, by rw [h2]; simp⟩
theorem dropN_eq (n : Nat) (l : List AVal) : dropN n l = l.drop n := by
  induction n generalizing l with
  | zero => rw [dropN_zero]; rfl
  | succ n ih => cases l with
    | nil => rw [dropN_nil]; simp
    | cons c l => rw [dropN_cons, ih]; rfl
theorem nthV_eq (n : Nat) (l : List AVal) : nthV n l = l[n]? := by
  induction n generalizing l with
  | zero => cases l with
    | nil => rfl
    | cons c l => rfl
  | succ n ih => cases l with
    | nil => rw [nthV_nil]; rfl
    | cons c l => rw [nthV_succ, ih]; rfl
theorem over_eq {new l r : List AVal} : over new l = some r ↔ new.length ≤ l.length ∧ r = new ++ l.drop new.length := by
  induction new generalizing l r with
  | nil => rw [over_nil]; simp [eq_comm]
  | cons v new ih => cases l with
    | nil => rw [over_nil']; simp
    | cons c l =>
      rw [over_cons, andThen_eq]
      constructor
      · rintro ⟨a, h, e⟩; obtain ⟨h1, h2⟩ := ih.1 h; cases e; exact ⟨by simpa using h1, by simp [h2]⟩
      · rintro ⟨h1, h2⟩; exact ⟨_, ih.2 ⟨by simpa using h1, rfl⟩, by rw [h2]; simp⟩
theorem putN_eq {n : Nat} {new l r : List AVal} : putN n new l = some r ↔ n + new.length ≤ l.length ∧ r = l.take n ++ new ++ l.drop (n + new.length) := by
  induction n generalizing l r with
  | zero => rw [putN_zero, over_eq]; simp
  | succ n ih => cases l with
    | nil => rw [putN_nil]; simp
    | cons c l =>
      rw [putN_cons, andThen_eq]
      constructor
      · rintro ⟨a, h, e⟩; obtain ⟨h1, h2⟩ := ih.1 h; cases e
        refine ⟨by simp; omega, ?_⟩
        rw [h2, show n + 1 + new.length = (n + new.length) + 1 from by omega]; simp
      · rintro ⟨h1, h2⟩
        refine ⟨_, ih.2 ⟨by simp at h1; omega, rfl⟩, ?_⟩
        rw [h2, show n + 1 + new.length = (n + new.length) + 1 from by omega]; simp
theorem read_eq {σ : S} {b : Pos} {o n : Nat} {cs : List AVal} : σ.read b o n = some cs ↔ ∃ blk, Tr.get b σ.heap = some blk ∧ (n = 0 ∨ o + n ≤ blk.cells.length) ∧ cs = (blk.cells.drop o).take n := by
  unfold S.read
  rw [andThen_eq]
  constructor
  · rintro ⟨blk, h, h2⟩
    rw [dropN_eq, takeN_eq] at h2
    refine ⟨blk, h, ?_, h2.2⟩
    have := h2.1; simp at this; omega
  · rintro ⟨blk, h, h2, h3⟩
    refine ⟨blk, h, ?_⟩
    rw [dropN_eq, takeN_eq]
    refine ⟨?_, h3⟩
    simp; omega

def TR (m : Mp) (T : Tm) (a : Array Value) : Prop := ∀ t s, Slot.of t = some s → VR m (T.at s) (a.getD t Go.undef)
theorem TR.mono {m m' : Mp} (hm : m.le m') {T : Tm} {a : Array Value} (h : TR m T a) : TR m' T a := fun t s e => (h t s e).mono hm
theorem Tm.at_put (T : Tm) (s s' : Slot) (v : AVal) : (T.put (some s) v).at s' = if s' = s then v else T.at s' := by
  rw [Tm.at_eq, Tm.at_eq]
  show orUndef (Ts.get s' (Ts.set s (some v) T)) = _
  rw [Ts.get_set]
  split <;> rfl
theorem TR.put {m : Mp} {T : Tm} {a : Array Value} (h : TR m T a) {d : Nat} {s : Slot} (hd : d < a.size) (hs : Slot.of d = some s) {v : AVal} {x : Value} (hv : VR m v x) :
    TR m (T.put (some s) v) (a.setIfInBounds d x) := by
  intro t s' hs'
  rw [Tm.at_put]
  by_cases e : s' = s
  · subst e
    have : t = d := Slot.of_inj hs' hs
    subst this
    simpa [hd] using hv
  · have ht : d ≠ t := fun h => e (by subst h; rw [hs] at hs'; cases hs'; rfl)
    simp only [e, if_false]
    have := h t s' hs'
    simpa [Array.getElem?_setIfInBounds_ne ht] using this
def DstOk (nt : Nat) (d : Option Nat) (s : Option Slot) : Prop := match d, s with
  | none, none => True
  | some d, some s => d < nt ∧ Slot.of d = some s
  | _, _ => False
theorem TR.putD {m : Mp} {T : Tm} {a : Act} (h : TR m T a.tmps) {d : Option Nat} {s : Option Slot} (hd : DstOk a.tmps.size d s) {v : AVal} {x : Value} (hv : VR m v x) :
    TR m (T.put s v) (a.put d x).tmps := by
  cases d <;> cases s <;> simp only [DstOk] at hd
  · exact h
  · exact TR.put h hd.1 hd.2 hv
theorem put_size (a : Act) (d : Option Nat) (x : Value) : (a.put d x).tmps.size = a.tmps.size := by cases d <;> simp [Act.put]

theorem cval1_ok {m : Mp} {x : Value} {v : AVal} (h : cval1 x = some v) : SR m v x := by
  unfold cval1 at h
  split at h <;> first
    | (cases h; done)
    | (cases h; first | exact .bool _ | exact .int _ _ | exact .str _ _ rfl | exact .nptr | exact .nsl | exact .nmap | exact .nfunc | exact .niface)
theorem cvals_ok {m : Mp} {l : List Value} {r : List AVal} (h : cvals l = some r) : SRs m r l := by
  induction l generalizing r with
  | nil => cases h; exact .nil
  | cons x l ih =>
    unfold cvals at h
    split at h
    · rename_i v r' h1 h2; cases h; exact .cons _ _ _ _ (cval1_ok h1) (ih h2)
    · cases h
theorem cvals_v1 {m : Mp} {l : List Value} {r : List AVal} (h : cvals l = some r) : V1s m r l := by
  induction l generalizing r with
  | nil => cases h; exact .nil
  | cons x l ih =>
    unfold cvals at h
    split at h
    · rename_i v r' h1 h2; cases h; exact .cons _ _ _ _ (.one _ _ (cval1_ok h1)) (ih h2)
    · cases h
theorem cval_ok {m : Mp} {x : Value} {v : AVal} (h : cval x = some v) : VR m v x := by
  unfold cval at h
  split at h
  · rename_i cs
    split at h
    · rename_i l hl; cases h; exact .v1 _ _ (.agg _ _ (cvals_ok hl))
    · cases h
  · rename_i vs
    split at h
    · rename_i l hl; cases h; exact .tup _ _ (cvals_v1 hl)
    · cases h
  · exact (cval1_ok h).vr
theorem copd_ok {m : Mp} {T : Tm} {a : Act} (hT : TR m T a.tmps) {x : Operand} {y : Opd} (h : copd x = some y) : VR m (y.ev T) (a.eval x) := by
  cases x with
  | tmp t =>
    simp only [copd, Option.map_eq_some_iff] at h
    obtain ⟨s, hs, rfl⟩ := h
    rw [Opd.ev_tmp]
    exact hT t s hs
  | const v =>
    simp only [copd, Option.map_eq_some_iff] at h
    obtain ⟨c, hc, rfl⟩ := h
    exact cval_ok hc
  | func f => cases h; exact (SR.func f [] #[] .nil).vr
  | global g => cases h; exact (SR.gp g 0).vr
theorem copds_ok {m : Mp} {T : Tm} {a : Act} (hT : TR m T a.tmps) {x : List Operand} {y : List Opd} (h : copds x = some y) : VRs m (evs T y) (x.map a.eval) := by
  induction x generalizing y with
  | nil => cases h; exact .nil
  | cons u l ih =>
    unfold copds at h
    split at h
    · rename_i y' l' h1 h2; cases h
      simp only [evs, headK_eq]
      exact .cons _ _ _ _ (copd_ok hT h1) (ih h2)
    · cases h
theorem copt_ok {m : Mp} {T : Tm} {a : Act} (hT : TR m T a.tmps) {x : Option Operand} {y : Option Opd} (h : copt x = some y) :
    (x = none ∧ y = none) ∨ ∃ u v, x = some u ∧ y = some v ∧ VR m (v.ev T) (a.eval u) := by
  cases x with
  | none => cases h; exact .inl ⟨rfl, rfl⟩
  | some u =>
    simp only [copt, Option.map_eq_some_iff] at h
    obtain ⟨v, hv, rfl⟩ := h
    exact .inr ⟨u, v, rfl, rfl, copd_ok hT hv⟩
end Go.Am
