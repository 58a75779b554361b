/-
  The law of the log, with no program in sight. Conditions: none.
-/
import Derived.Test.YtkgjghlklniaeaaC3
namespace Go.Am
theorem step_enc {p r : List Nat} {a n : Nat} (hn : n < 4611686018427387904) (h : p.drop a = enc (2 * n) ++ r) : stepS p (some a) = some (a + (enc (2 * n)).length) ∧ stepV p (some a) = (n : Int) := by
  have hl : (enc (2 * n)).length ≤ 8 + 1 := enc_len 8 (Nat.lt_of_lt_of_le (show 2 * n < 9223372036854775808 by omega) (by decide))
  have hd := decG_enc (2 * n) 0 0 r (.inl (by omega)) (.inr rfl)
  have e : 0 + 2 ^ (7 * 0) * (2 * n) = 2 * n := by omega
  rw [e] at hd
  unfold stepS stepV
  simp only [h, hd]
  exact ⟨trivial, zagF_even hn⟩
theorem partF_pay {kind age i n : Nat} (r : List Nat) (h1 : kind < 4611686018427387904) (h2 : age < 4611686018427387904) (h3 : i < 4611686018427387904) (h4 : n < 4611686018427387904) : partF (pay kind age i n r) = some ⟨kind, age, i, n, r⟩ := by
  generalize hp : pay kind age i n r = p
  have e0 : p.drop 0 = enc (2 * kind) ++ (enc (2 * age) ++ (enc (2 * i) ++ (enc (2 * n) ++ r))) := by rw [← hp]; rfl
  have e1 : p.drop (0 + (enc (2 * kind)).length) = enc (2 * age) ++ (enc (2 * i) ++ (enc (2 * n) ++ r)) := by rw [← List.drop_drop, e0, List.drop_left]
  have e2 : p.drop (0 + (enc (2 * kind)).length + (enc (2 * age)).length) = enc (2 * i) ++ (enc (2 * n) ++ r) := by rw [← List.drop_drop, e1, List.drop_left]
  have e3 : p.drop (0 + (enc (2 * kind)).length + (enc (2 * age)).length + (enc (2 * i)).length) = enc (2 * n) ++ r := by rw [← List.drop_drop, e2, List.drop_left]
  have e4 : p.drop (0 + (enc (2 * kind)).length + (enc (2 * age)).length + (enc (2 * i)).length + (enc (2 * n)).length) = r := by rw [← List.drop_drop, e3, List.drop_left]
  obtain ⟨a1, b1⟩ := step_enc h1 e0
  obtain ⟨a2, b2⟩ := step_enc h2 e1
  obtain ⟨a3, b3⟩ := step_enc h3 e2
  obtain ⟨a4, b4⟩ := step_enc h4 e3
  unfold partF
  rw [a1, a2, a3, a4]
  unfold partOf
  simp only [a1, a2, a3, b1, b2, b3, b4, e4]
theorem frameOf_len (p : List Nat) : (frameOf p).length = 8 + p.length := by
  unfold frameOf
  simp only [List.length_append, le4_len]; omega
theorem frame_take4 (p r : List Nat) : (frameOf p ++ r).take 4 = le4 p.length := by
  unfold frameOf
  rw [List.append_assoc, List.take_left' (le4_len _)]
theorem frame_drop4 (p r : List Nat) : (frameOf p ++ r).drop 4 = le4 (crcOf [le4 p.length, p]) ++ (p ++ r) := by
  unfold frameOf
  rw [List.append_assoc, List.drop_left' (le4_len _), List.append_assoc]
theorem frame_drop8 (p r : List Nat) : (frameOf p ++ r).drop 8 = p ++ r := by
  rw [show 8 = 4 + 4 from rfl, ← List.drop_drop, frame_drop4, List.drop_left' (le4_len _)]
theorem frame_num (p r : List Nat) (hp : p.length ≤ 16384) : num4 (frameOf p ++ r) = p.length := by
  unfold frameOf
  rw [List.append_assoc, num4_le4 (by omega)]
theorem nextF_frame {b p pre post : List Nat} (hb : b = pre ++ (frameOf p ++ post)) (hp : Bytes p) (hl : p.length ≤ 16384) : nextF b pre.length = some (p, pre.length + (frameOf p).length) := by
  have hd : b.drop pre.length = frameOf p ++ post := by rw [hb, List.drop_left]
  have hlen : b.length = pre.length + (8 + p.length + post.length) := by rw [hb, List.length_append, List.length_append, frameOf_len]
  unfold nextF
  rw [hd, frame_num p post hl, frame_take4, frame_drop4, frame_drop8, List.take_left, num4_le4 (crcOf2_lt (le4_bytes _) hp), frameOf_len]
  rw [if_neg (by omega), if_neg (by omega), if_neg (by omega), if_neg (by omega), if_neg (by simp)]
  rw [Nat.add_assoc]
theorem nextW_frame {b pre post r : List Nat} {kind age i n : Nat} (hb : b = pre ++ (frameOf (pay kind age i n r) ++ post)) (hr : Bytes r) (h1 : kind < 4611686018427387904) (h2 : age < 4611686018427387904) (h3 : i < 4611686018427387904) (h4 : n < 4611686018427387904) (hl : r.length ≤ 16284) :
    nextW b pre.length = some (⟨kind, age, i, n, r⟩, pre.length + (frameOf (pay kind age i n r)).length) := by
  have hpl := pay_len (kind := kind) (age := age) (i := i) (n := n) r h1 h2 h3 h4
  unfold nextW
  rw [nextF_frame hb (pay_bytes _ _ _ _ hr) (by omega)]
  simp only [partF_pay r h1 h2 h3 h4]
def Stuck (j : List Nat) : Prop := ∀ b pre : List Nat, b = pre ++ j → nextW b pre.length = none
theorem Stuck.of {j : List Nat} (h : ∀ b pre : List Nat, b = pre ++ j → nextF b pre.length = none) : Stuck j := fun b pre hb => by
  unfold nextW; rw [h b pre hb]
theorem stuck_nil : Stuck [] := .of fun b pre hb => by
  unfold nextF
  rw [if_pos (by rw [hb, List.append_nil]; exact Nat.le_refl _)]
theorem stuck_torn {p : List Nat} {t : Nat} (hp : p.length ≤ 16384) (ht : t < (frameOf p).length) : Stuck ((frameOf p).take t) := .of fun b pre hb => by
  rw [frameOf_len] at ht
  have hd : b.drop pre.length = (frameOf p).take t := by rw [hb, List.drop_left]
  have hl : b.length = pre.length + t := by rw [hb, List.length_append, List.length_take, frameOf_len]; omega
  unfold nextF
  by_cases h0 : b.length ≤ pre.length
  · rw [if_pos h0]
  rw [if_neg h0]
  by_cases h1 : b.length - pre.length < 8
  · rw [if_pos h1]
  rw [if_neg h1]
  have hn : num4 (b.drop pre.length) = p.length := by
    rw [hd]
    have : (frameOf p).take t = le4 p.length ++ ((frameOf p).take t).drop 4 := by
      rw [← List.take_append_drop 4 ((frameOf p).take t), List.take_take, Nat.min_eq_left (by omega)]
      have := frame_take4 p []
      rw [List.append_nil] at this
      rw [this, List.drop_left' (le4_len _)]
    rw [this, num4_le4 (by omega)]
  rw [hn, if_neg (by omega), if_pos (by omega)]
theorem crc_zero : crcOf [[0, 0, 0, 0], []] ≠ 0 := by decide +kernel
theorem stuck_zeros (j : List Nat) : Stuck (List.replicate 8 0 ++ j) := .of fun b pre hb => by
  have hd : b.drop pre.length = [0, 0, 0, 0, 0, 0, 0, 0] ++ j := by rw [hb, List.drop_left]; rfl
  have hl : b.length = pre.length + (8 + j.length) := by rw [hb, List.length_append, List.length_append, List.length_replicate]
  unfold nextF
  rw [if_neg (by omega), if_neg (by omega), hd]
  have hn : num4 ([0, 0, 0, 0, 0, 0, 0, 0] ++ j) = 0 := rfl
  have hn2 : num4 (([0, 0, 0, 0, 0, 0, 0, 0] ++ j).drop 4) = 0 := rfl
  rw [hn, hn2, if_neg (by omega), if_neg (by omega), if_pos]
  exact crc_zero
structure Fr where
  kind : Nat
  i : Nat
  rec_ : List Nat
structure FrOk (x : Fr) : Prop where
  i : x.i ≤ 2199023255552
  b : Bytes x.rec_
  l : x.rec_.length ≤ 16284
  k : x.kind < 100
def Fr.bytes (age : Nat) (x : Fr) : List Nat := frameOf (pay x.kind age x.i 0 x.rec_)
def frB (age : Nat) (l : List Fr) : List Nat := (l.map (Fr.bytes age)).flatten
def Fr.part (age : Nat) (x : Fr) : Part := ⟨x.kind, age, x.i, 0, x.rec_⟩
theorem frB_nil (age : Nat) : frB age [] = [] := rfl
theorem frB_cons (age : Nat) (x : Fr) (l : List Fr) : frB age (x :: l) = x.bytes age ++ frB age l := rfl
theorem Fr.bytes_len (age : Nat) (x : Fr) : 8 ≤ (x.bytes age).length := by
  unfold Fr.bytes; rw [frameOf_len]; omega
noncomputable def playF : Lg → List Fr → Option Lg
  | L, [] => some L
  | L, x :: l => match redoF L (x.part L.age) with
    | some L' => playF { L' with size := L.size + (x.bytes L.age).length } l
    | none => none
theorem begin_same (L : Lg) (i : Nat) : (L.begin i).age = L.age ∧ (L.begin i).file = L.file ∧ (L.begin i).recs = L.recs ∧ (L.begin i).size = L.size ∧ (L.begin i).live = L.live := by
  unfold Lg.begin; split <;> exact ⟨rfl, rfl, rfl, rfl, rfl⟩
theorem redoF_same {L L' : Lg} {x : Part} (h : redoF L x = some L') : L'.age = L.age ∧ L'.file = L.file := by
  unfold redoF at h
  split at h
  · split at h
    · cases h; exact ⟨(begin_same L _).1, (begin_same L _).2.1⟩
    · cases h
  split at h
  · split at h
    · cases h
    · cases h; exact ⟨rfl, rfl⟩
  split at h
  · split at h
    · cases h
    · cases h; exact ⟨rfl, rfl⟩
  split at h
  · split at h
    · cases h; exact ⟨(begin_same L _).1, (begin_same L _).2.1⟩
    · cases h
  · cases h
theorem playF_cons {L : Lg} {x : Fr} {l : List Fr} {L2 : Lg} (h : playF L (x :: l) = some L2) : ∃ L', redoF L (x.part L.age) = some L' ∧ playF { L' with size := L.size + (x.bytes L.age).length } l = some L2 := by
  unfold playF at h
  split at h
  · rename_i L' hr; exact ⟨L', hr, h⟩
  · cases h
theorem playF_same {l : List Fr} : ∀ {L L' : Lg}, playF L l = some L' → L'.age = L.age ∧ L'.file = L.file ∧ L'.size = L.size + (frB L.age l).length := by
  induction l with
  | nil => intro L L' h; cases h; exact ⟨rfl, rfl, rfl⟩
  | cons x l ih =>
    intro L L2 h
    obtain ⟨L', h1, h2⟩ := playF_cons h
    obtain ⟨a, b⟩ := redoF_same h1
    obtain ⟨c, d, e⟩ := ih h2
    have c : L2.age = L'.age := c
    have d : L2.file = L'.file := d
    have e : L2.size = L.size + (x.bytes L.age).length + (frB L'.age l).length := e
    refine ⟨by omega, by omega, ?_⟩
    rw [e, frB_cons, List.length_append, a]; omega
theorem playF_append {l r : List Fr} : ∀ {L : Lg}, playF L (l ++ r) = (match playF L l with | some L' => playF L' r | none => none) := by
  induction l with
  | nil => intro L; rfl
  | cons x l ih =>
    intro L
    show (match redoF L (x.part L.age) with | some L' => playF { L' with size := L.size + (x.bytes L.age).length } (l ++ r) | none => none) = (match (match redoF L (x.part L.age) with | some L' => playF { L' with size := L.size + (x.bytes L.age).length } l | none => none) with | some L' => playF L' r | none => none)
    cases redoF L (x.part L.age) with
    | none => rfl
    | some L' => exact ih
def cntF (l : List Fr) : Nat := (l.filter fun x => decide (x.kind = 1)).length
theorem cntF_cons (x : Fr) (l : List Fr) : cntF (x :: l) = (if x.kind = 1 then 1 else 0) + cntF l := by
  unfold cntF
  rw [List.filter_cons]
  by_cases h : x.kind = 1
  · rw [if_pos (by simpa using h), if_pos h, List.length_cons]; omega
  · rw [if_neg (by simpa using h), if_neg h]; omega
theorem cntF_append (l r : List Fr) : cntF (l ++ r) = cntF l + cntF r := by
  unfold cntF; rw [List.filter_append, List.length_append]
theorem loopF_run {b j : List Nat} (hj : Stuck j) : ∀ (l : List Fr) (pre : List Nat) (L L' : Lg) (n w : Nat), b = pre ++ (frB L.age l ++ j) → (∀ x ∈ l, FrOk x) → L.age < 4611686018427387904 → L.size = pre.length → playF L l = some L' → l.length < n → loopF b n L w = (L', w - cntF l) := by
  intro l
  induction l with
  | nil =>
    intro pre L L' n w hb _ _ hs hr hn
    obtain ⟨n, rfl⟩ : ∃ k, n = k + 1 := ⟨n - 1, by omega⟩
    cases hr
    unfold loopF
    rw [hs, hj b pre (by rw [hb, frB_nil, List.nil_append])]
    rfl
  | cons x l ih =>
    intro pre L L2 n w hb hx ha hs hr hn
    rw [List.length_cons] at hn
    obtain ⟨n, rfl⟩ : ∃ k, n = k + 1 := ⟨n - 1, by omega⟩
    obtain ⟨L', h1, h2⟩ := playF_cons hr
    have hxo := hx x List.mem_cons_self
    have hxi := hxo.i; have hxk := hxo.k
    have hnx : nextW b pre.length = some (x.part L.age, pre.length + (x.bytes L.age).length) := nextW_frame (n := 0) (by rw [hb, frB_cons, List.append_assoc]; rfl) hxo.b (by omega) ha (by omega) (by omega) hxo.l
    obtain ⟨a1, _⟩ := redoF_same h1
    unfold loopF
    rw [hs, hnx]
    simp only
    rw [if_pos (show (x.part L.age).age = L.age from rfl), h1]
    simp only
    rw [hs] at h2
    rw [ih (pre ++ x.bytes L.age) { L' with size := pre.length + (x.bytes L.age).length } L2 n _ ?_ (fun y hy => hx y (List.mem_cons_of_mem _ hy)) ?_ ?_ h2 (by omega)]
    · congr 1
      rw [cntF_cons]
      by_cases hk : x.kind = 1
      · rw [if_pos hk]
        by_cases hw : 0 < w
        · rw [if_pos ⟨by show (x.kind : Int) = 1; omega, hw⟩]; omega
        · rw [if_neg (fun h => hw h.2)]; omega
      · rw [if_neg hk, if_neg (fun h => hk (by have : (x.kind : Int) = 1 := h.1; omega))]; omega
    · show b = pre ++ x.bytes L.age ++ (frB L'.age l ++ j)
      rw [a1, hb, frB_cons, List.append_assoc, List.append_assoc]
    · show L'.age < _
      omega
    · show pre.length + (x.bytes L.age).length = (pre ++ x.bytes L.age).length
      rw [List.length_append]
theorem frB_len_le (age : Nat) (l : List Fr) : l.length ≤ (frB age l).length := by
  induction l with
  | nil => exact Nat.zero_le _
  | cons x l ih =>
    rw [frB_cons, List.length_append, List.length_cons]
    have := x.bytes_len age
    omega
def headB (age first n : Nat) : List Nat := frameOf (pay 0 age first n [])
def headL (file age first n : Nat) : Lg := ⟨file, age, first, [], (headB age first n).length, 0⟩
theorem readF_area {b j : List Nat} {file age first n : Nat} {l : List Fr} {L : Lg} (hj : Stuck j) (hb : b = headB age first n ++ (frB age l ++ j)) (hx : ∀ x ∈ l, FrOk x) (ha : 1 ≤ age ∧ age < 1125899906842624) (hf : 1 ≤ first ∧ first ≤ 1099511627777) (hn : n < 4611686018427387904)
    (hr : playF (headL file age first n) l = some L) : readF b file = if n ≤ cntF l then some L else none := by
  have hnx : nextW b 0 = some (⟨0, age, first, n, []⟩, (headB age first n).length) := by
    have := nextW_frame (b := b) (pre := []) (post := frB age l ++ j) (r := []) (kind := 0) (age := age) (i := first) (n := n) hb Bytes.nil (by omega) (by omega) (by omega) hn (by rw [List.length_nil]; omega)
    rw [List.length_nil, Nat.zero_add] at this
    exact this
  unfold readF
  rw [hnx]
  simp only
  rw [if_pos (show headOk ⟨0, age, first, n, []⟩ from ⟨rfl, by show (1 : Int) ≤ (age : Int); omega, by show (age : Int) < 1125899906842624; omega, by show (1 : Int) ≤ (first : Int); omega, by show (first : Int) ≤ 1099511627777; omega, by show (0 : Int) ≤ (n : Int); omega⟩)]
  have e1 : ((age : Int)).toNat = age := by omega
  have e2 : ((first : Int)).toNat = first := by omega
  have e3 : ((n : Int)).toNat = n := by omega
  rw [e1, e2, e3]
  have hlen := frB_len_le age l
  have hbl : b.length = (headB age first n).length + ((frB age l).length + j.length) := by rw [hb, List.length_append, List.length_append]
  rw [loopF_run (b := b) hj l (headB age first n) ⟨file, age, first, [], (headB age first n).length, 0⟩ L (b.length + 1) n hb hx (by show age < _; omega) rfl hr (by omega)]
  simp only
  by_cases h : n ≤ cntF l
  · rw [if_pos (by omega), if_pos h]
  · rw [if_neg (by omega), if_neg h]
theorem readF_stuck {b : List Nat} {file : Nat} (h : Stuck b) : readF b file = none := by
  unfold readF
  have := h b [] rfl
  rw [List.length_nil] at this
  rw [this]
end Go.Am
namespace Go.Am
theorem files_set {f : List (List Nat)} {k : Nat} (hk : k < f.length) (x : List Nat) (j : Nat) : (f.set k x).getD j [] = if j = k then x else f.getD j [] := by
  rw [List.getD_eq_getElem?_getD, List.getD_eq_getElem?_getD, List.getElem?_set]
  by_cases h : k = j
  · subst h; rw [if_pos rfl, if_pos hk, if_pos rfl]; rfl
  · rw [if_neg h, if_neg (fun e => h e.symm)]
def doChg (f : List (List Nat)) (c : Chg) : List (List Nat) :=
  if c.cut then (if c.at_ ≤ (f.getD c.file []).length then f.set c.file ((f.getD c.file []).take c.at_) else f)
  else f.set c.file (writtenF (f.getD c.file []) c.at_ c.p)
inductive Crashed : List Chg → List (List Nat) → List (List Nat) → Prop
  | nil (f : List (List Nat)) : Crashed [] f f
  | skip {c : Chg} {l : List Chg} {f g : List (List Nat)} : Crashed l f g → Crashed (c :: l) f g
  | keep {c : Chg} {l : List Chg} {f g : List (List Nat)} : Crashed l (doChg f c) g → Crashed (c :: l) f g
  | torn {c : Chg} {l : List Chg} {f : List (List Nat)} (t : Nat) : c.cut = false → Crashed (c :: l) f (doChg f { c with p := c.p.take t })
theorem doChg_len (f : List (List Nat)) (c : Chg) : (doChg f c).length = f.length := by
  unfold doChg
  split
  · split
    · exact List.length_set
    · rfl
  · exact List.length_set
theorem Crashed.len {l : List Chg} {f g : List (List Nat)} (h : Crashed l f g) : g.length = f.length := by
  induction h with
  | nil f => rfl
  | skip _ ih => exact ih
  | keep _ ih => rw [ih, doChg_len]
  | torn t _ => rw [doChg_len]
theorem Crashed.snoc {c : Chg} : ∀ {l : List Chg} {f g : List (List Nat)}, Crashed (l ++ [c]) f g →
    Crashed l f g ∨ ∃ g1, Crashed l f g1 ∧ (g = doChg g1 c ∨ (c.cut = false ∧ ∃ t, g = doChg g1 { c with p := c.p.take t }))
  | [], f, g, h => by
    cases h with
    | skip h => cases h; exact .inl (.nil f)
    | keep h => cases h; exact .inr ⟨f, .nil f, .inl rfl⟩
    | torn t hc => exact .inr ⟨f, .nil f, .inr ⟨hc, t, rfl⟩⟩
  | d :: l, f, g, h => by
    cases h with
    | skip h =>
      rcases Crashed.snoc h with h | ⟨g1, h1, h2⟩
      · exact .inl (.skip h)
      · exact .inr ⟨g1, .skip h1, h2⟩
    | keep h =>
      rcases Crashed.snoc h with h | ⟨g1, h1, h2⟩
      · exact .inl (.keep h)
      · exact .inr ⟨g1, .keep h1, h2⟩
    | torn t hc => exact .inl (.torn t hc)
def wrs (k : Nat) : Nat → List (List Nat) → List Chg
  | _, [] => []
  | a, w :: ws => ⟨false, k, a, w⟩ :: wrs k (a + w.length) ws
theorem wrs_snoc (k : Nat) (w : List Nat) : ∀ (a : Nat) (ws : List (List Nat)), wrs k a (ws ++ [w]) = wrs k a ws ++ [⟨false, k, a + ws.flatten.length, w⟩]
  | a, [] => rfl
  | a, v :: ws => by
    show (⟨false, k, a, v⟩ : Chg) :: wrs k (a + v.length) (ws ++ [w]) = _
    rw [wrs_snoc k w (a + v.length) ws, List.flatten_cons, List.length_append, ← Nat.add_assoc]; rfl
theorem written_end (s p : List Nat) : writtenF s s.length p = s ++ p := by
  unfold writtenF
  rw [show max s.length (s.length + p.length) - s.length = p.length by omega]
  rw [List.take_left, show s.length + p.length = (s ++ List.replicate p.length 0).length by simp, List.drop_length, List.append_nil]
theorem written_pre {y r p : List Nat} {a : Nat} (ha : y.length ≤ a) : ∃ q, writtenF (y ++ r) a p = y ++ q := by
  unfold writtenF
  rw [List.append_assoc y r, List.take_append, List.take_of_length_le ha, List.append_assoc, List.append_assoc]
  exact ⟨_, rfl⟩
theorem written_gap {s p : List Nat} {a : Nat} (ha : s.length + 8 ≤ a) : ∃ q, writtenF s a p = s ++ (List.replicate 8 0 ++ q) := by
  unfold writtenF
  have e : max s.length (a + p.length) - s.length = 8 + (a + p.length - s.length - 8) := by omega
  rw [e, ← List.replicate_append_replicate, List.take_append, List.take_of_length_le (by omega), List.take_append, List.take_of_length_le (by rw [List.length_replicate]; omega)]
  simp only [List.append_assoc]
  exact ⟨_, rfl⟩
theorem doChg_w {f : List (List Nat)} {k a : Nat} {p : List Nat} (hk : k < f.length) (j : Nat) : (doChg f ⟨false, k, a, p⟩).getD j [] = if j = k then writtenF (f.getD k []) a p else f.getD j [] := by
  show (f.set k (writtenF (f.getD k []) a p)).getD j [] = _
  rw [files_set hk]
theorem wrs_pre {k : Nat} {y : List Nat} : ∀ (ws : List (List Nat)) (f g : List (List Nat)) (a : Nat), k < f.length → y.length ≤ a → (∃ r, f.getD k [] = y ++ r) → Crashed (wrs k a ws) f g → ∃ r, g.getD k [] = y ++ r
  | [], f, g, a, hk, ha, hr, h => by cases h; exact hr
  | w :: ws, f, g, a, hk, ha, hr, h => by
    obtain ⟨r, hr⟩ := hr
    cases h with
    | skip h => exact wrs_pre ws f g _ hk (by omega) ⟨r, hr⟩ h
    | keep h =>
      refine wrs_pre ws _ g _ (by rw [doChg_len]; exact hk) (show y.length ≤ a + w.length by omega) ?_ h
      rw [doChg_w hk, if_pos rfl, hr]
      exact written_pre ha
    | torn t _ =>
      show ∃ r, (doChg f ⟨false, k, a, w.take t⟩).getD k [] = y ++ r
      rw [doChg_w hk, if_pos rfl, hr]
      exact written_pre ha
theorem wrs_gap {k : Nat} {s : List Nat} : ∀ (ws : List (List Nat)) (f g : List (List Nat)) (a : Nat), k < f.length → s.length + 8 ≤ a → f.getD k [] = s → Crashed (wrs k a ws) f g → g.getD k [] = s ∨ ∃ q, g.getD k [] = s ++ (List.replicate 8 0 ++ q)
  | [], f, g, a, hk, ha, hs, h => by cases h; exact .inl hs
  | w :: ws, f, g, a, hk, ha, hs, h => by
    cases h with
    | skip h => exact wrs_gap ws f g _ hk (by omega) hs h
    | keep h =>
      obtain ⟨q, hq⟩ := written_gap (p := w) ha
      obtain ⟨r, hr⟩ := wrs_pre (y := s ++ List.replicate 8 0) ws _ g _ (by rw [doChg_len]; exact hk) (show (s ++ List.replicate 8 0).length ≤ a + w.length by rw [List.length_append, List.length_replicate]; omega) ⟨q, by rw [doChg_w hk, if_pos rfl, hs, hq, List.append_assoc]⟩ h
      exact .inr ⟨r, by rw [hr, List.append_assoc]⟩
    | torn t _ =>
      obtain ⟨q, hq⟩ := written_gap (p := w.take t) ha
      refine .inr ⟨q, ?_⟩
      show (doChg f ⟨false, k, a, w.take t⟩).getD k [] = _
      rw [doChg_w hk, if_pos rfl, hs, hq]
theorem wrs_other {k i : Nat} (hi : i ≠ k) : ∀ (ws : List (List Nat)) (f g : List (List Nat)) (a : Nat), k < f.length → Crashed (wrs k a ws) f g → g.getD i [] = f.getD i []
  | [], f, g, a, hk, h => by cases h; rfl
  | w :: ws, f, g, a, hk, h => by
    cases h with
    | skip h => exact wrs_other hi ws f g _ hk h
    | keep h => rw [wrs_other hi ws _ g _ (by rw [doChg_len]; exact hk) h, doChg_w hk, if_neg hi]
    | torn t _ =>
      show (doChg f ⟨false, k, a, w.take t⟩).getD i [] = _
      rw [doChg_w hk, if_neg hi]
inductive Left : List (List Nat) → List Nat → Prop
  | none (ws : List (List Nat)) : Left ws []
  | cons {w p : List Nat} {ws : List (List Nat)} : Left ws p → Left (w :: ws) (w ++ p)
  | torn {w : List Nat} {ws : List (List Nat)} (t : Nat) : Left (w :: ws) (w.take t)
  | gap {w : List Nat} {ws : List (List Nat)} (q : List Nat) : Left (w :: ws) (List.replicate 8 0 ++ q)
theorem wrs_left {k : Nat} : ∀ (ws : List (List Nat)) (s : List Nat) (f g : List (List Nat)), k < f.length → (∀ w ∈ ws, 8 ≤ w.length) → f.getD k [] = s → Crashed (wrs k s.length ws) f g → ∃ p, Left ws p ∧ g.getD k [] = s ++ p
  | [], s, f, g, hk, _, hs, h => by cases h; exact ⟨[], .none _, by rw [hs, List.append_nil]⟩
  | w :: ws, s, f, g, hk, hw, hs, h => by
    have h8 := hw w List.mem_cons_self
    cases h with
    | skip h =>
      rcases wrs_gap ws f g _ hk (by omega) hs h with h | ⟨q, h⟩
      · exact ⟨[], .none _, by rw [h, List.append_nil]⟩
      · exact ⟨_, .gap q, h⟩
    | keep h =>
      rw [show s.length + w.length = (s ++ w).length by rw [List.length_append]] at h
      obtain ⟨p, h1, h2⟩ := wrs_left ws (s ++ w) _ g (by rw [doChg_len]; exact hk) (fun x hx => hw x (List.mem_cons_of_mem _ hx)) (by rw [doChg_w hk, if_pos rfl, hs, written_end]) h
      exact ⟨w ++ p, .cons h1, by rw [h2, List.append_assoc]⟩
    | torn t _ =>
      refine ⟨_, .torn t, ?_⟩
      show (doChg f ⟨false, k, s.length, w.take t⟩).getD k [] = _
      rw [doChg_w hk, if_pos rfl, hs, written_end]
def Unit_ (u : List Nat) : Prop := ∃ p : List Nat, p.length ≤ 16384 ∧ u = frameOf p
theorem units_torn : ∀ (us : List (List Nat)) (t : Nat), (∀ u ∈ us, Unit_ u) → ∃ j junk, j ≤ us.length ∧ Stuck junk ∧ us.flatten.take t = (us.take j).flatten ++ junk ∧ (t < us.flatten.length → j < us.length)
  | [], t, _ => ⟨0, [], Nat.le_refl _, stuck_nil, by simp, fun h => absurd h (by simp)⟩
  | u :: us, t, h => by
    obtain ⟨p, hp, rfl⟩ := h u List.mem_cons_self
    by_cases ht : t < (frameOf p).length
    · refine ⟨0, (frameOf p).take t, Nat.zero_le _, stuck_torn hp ht, ?_, fun _ => by simp⟩
      rw [List.flatten_cons, List.take_append_of_le_length (by omega)]; rfl
    · obtain ⟨j, junk, h1, h2, h3, h4⟩ := units_torn us (t - (frameOf p).length) fun x hx => h x (List.mem_cons_of_mem _ hx)
      refine ⟨j + 1, junk, by rw [List.length_cons]; omega, h2, ?_, fun hlt => ?_⟩
      · rw [List.flatten_cons, List.take_append, List.take_of_length_le (by omega), h3, List.take_succ_cons, List.flatten_cons, List.append_assoc]
      · rw [List.flatten_cons, List.length_append] at hlt
        have := h4 (by omega)
        rw [List.length_cons]; omega
theorem left_units : ∀ (gs : List (List (List Nat))) (p : List Nat), (∀ u ∈ gs.flatten, Unit_ u) → Left (gs.map List.flatten) p → ∃ j junk, j ≤ gs.flatten.length ∧ Stuck junk ∧ p = (gs.flatten.take j).flatten ++ junk
  | [], p, _, h => by cases h with | none => exact ⟨0, [], Nat.le_refl _, stuck_nil, by simp⟩
  | g :: gs, p, hu, h => by
    rw [List.map_cons] at h
    cases h with
    | none => exact ⟨0, [], Nat.zero_le _, stuck_nil, by simp⟩
    | cons h =>
      obtain ⟨j, junk, h1, h2, rfl⟩ := left_units gs _ (fun u hx => hu u (by rw [List.flatten_cons]; exact List.mem_append_right _ hx)) h
      refine ⟨g.length + j, junk, by rw [List.flatten_cons, List.length_append]; omega, h2, ?_⟩
      rw [List.flatten_cons, List.take_length_add_append, List.flatten_append, List.append_assoc]
    | torn t =>
      obtain ⟨j, junk, h1, h2, h3, _⟩ := units_torn g t fun u hx => hu u (by rw [List.flatten_cons]; exact List.mem_append_left _ hx)
      refine ⟨j, junk, by rw [List.flatten_cons, List.length_append]; omega, h2, ?_⟩
      rw [h3, List.flatten_cons, List.take_append_of_le_length h1]
    | gap q => exact ⟨0, List.replicate 8 0 ++ q, Nat.zero_le _, stuck_zeros q, by simp⟩
end Go.Am
namespace Go.Am
structure Rw where
  first : Nat
  recs : List (List Nat)
structure Cl where
  kind : Nat
  i : Nat
  recs : List (List Nat)
def doR (r : Rw) (c : Cl) : Rw :=
  if c.kind = 1 then ⟨if r.recs = [] then c.i else r.first, r.recs ++ c.recs⟩
  else if c.kind = 2 then ⟨r.first, r.recs.take (c.i - r.first)⟩
  else ⟨c.i, r.recs.drop (c.i - r.first)⟩
def mayR : Rw → List Cl → Rw → Prop
  | now, [], x => x = now
  | now, c :: l, x => x = now ∨ (c.kind = 1 ∧ ∃ k, k < c.recs.length ∧ x = doR now ⟨1, c.i, c.recs.take k⟩) ∨ mayR (doR now c) l x
theorem may_snoc {c : Cl} : ∀ {l : List Cl} {s x : Rw}, mayR s l x → mayR s (l ++ [c]) x
  | [], s, x, h => .inl h
  | d :: l, s, x, h => by
    rcases h with h | h | h
    · exact .inl h
    · exact .inr (.inl h)
    · exact .inr (.inr (may_snoc h))
theorem may_end : ∀ {l : List Cl} {s : Rw}, mayR s l (l.foldl doR s)
  | [], s => rfl
  | d :: l, s => .inr (.inr (may_end (l := l)))
theorem may_part {c : Cl} (hc : c.kind = 1) {k : Nat} : ∀ {l : List Cl} {s : Rw}, mayR s (l ++ [c]) (doR (l.foldl doR s) ⟨1, c.i, c.recs.take k⟩)
  | [], s => by
    by_cases hk : k < c.recs.length
    · exact .inr (.inl ⟨hc, k, hk, rfl⟩)
    · refine .inr (.inr ?_)
      show doR s ⟨1, c.i, c.recs.take k⟩ = doR s c
      rw [List.take_of_length_le (by omega)]
      obtain ⟨kind, i, recs⟩ := c
      have hc : kind = 1 := hc
      subst hc; rfl
  | d :: l, s => .inr (.inr (may_part hc (l := l)))
structure Area where
  age : Nat
  first : Nat
  n : Nat
  frs : List Fr
def Area.head (A : Area) (file : Nat) : Lg := headL file A.age A.first A.n
def Area.units (A : Area) : List (List Nat) := headB A.age A.first A.n :: A.frs.map (Fr.bytes A.age)
def Area.bytes (A : Area) : List Nat := A.units.flatten
theorem Area.bytes_eq (A : Area) : A.bytes = headB A.age A.first A.n ++ frB A.age A.frs := rfl
def Area.part (A : Area) (j : Nat) : Area := { A with frs := A.frs.take j }
structure AreaOk (ag : Nat) (A : Area) : Prop where
  age : 1 ≤ A.age ∧ A.age < 1125899906842624
  first : 1 ≤ A.first ∧ A.first ≤ 1099511627777
  n : A.n < 4611686018427387904
  frs : ∀ x ∈ A.frs, FrOk x
  ag : A.age ≤ ag
theorem AreaOk.part {ag : Nat} {A : Area} (h : AreaOk ag A) (j : Nat) : AreaOk ag (A.part j) := ⟨h.age, h.first, h.n, fun x hx => h.frs x (List.mem_of_mem_take hx), h.ag⟩
theorem AreaOk.up {ag ag' : Nat} {A : Area} (h : AreaOk ag A) (hg : ag ≤ ag') : AreaOk ag' A := ⟨h.age, h.first, h.n, h.frs, Nat.le_trans h.ag hg⟩
theorem units_take (A : Area) (j : Nat) : (A.units.take (j + 1)).flatten = (A.part j).bytes := by
  unfold Area.bytes Area.units Area.part
  rw [List.take_succ_cons, List.map_take]
theorem frB_units {age : Nat} {l : List Fr} (h : ∀ x ∈ l, FrOk x) (ha : age < 4611686018427387904) : ∀ u ∈ l.map (Fr.bytes age), Unit_ u := by
  intro u hu
  obtain ⟨x, hx, rfl⟩ := List.mem_map.1 hu
  have ho := h x hx
  have hi := ho.i; have hk := ho.k; have hl := ho.l
  have := pay_len (kind := x.kind) (age := age) (i := x.i) (n := 0) x.rec_ (by omega) ha (by omega) (by omega)
  exact ⟨_, by omega, rfl⟩
theorem headB_unit {age first n : Nat} (ha : age < 4611686018427387904) (hf : first < 4611686018427387904) (hn : n < 4611686018427387904) : Unit_ (headB age first n) := by
  have := pay_len (kind := 0) (age := age) (i := first) (n := n) [] (by omega) ha hf hn
  rw [List.length_nil] at this
  exact ⟨_, by omega, rfl⟩
theorem headB_len {age first n : Nat} (ha : age < 4611686018427387904) (hf : first < 4611686018427387904) (hn : n < 4611686018427387904) : 8 ≤ (headB age first n).length ∧ (headB age first n).length ≤ 48 := by
  have := pay_len (kind := 0) (age := age) (i := first) (n := n) [] (by omega) ha hf hn
  rw [List.length_nil] at this
  unfold headB
  rw [frameOf_len]; omega
theorem AreaOk.units {ag : Nat} {A : Area} (h : AreaOk ag A) : ∀ u ∈ A.units, Unit_ u := by
  have ha := h.age; have hf := h.first; have hn := h.n
  intro u hu
  rcases List.mem_cons.1 hu with rfl | hu
  · exact headB_unit (by omega) (by omega) hn
  · exact frB_units h.frs (by omega) u hu
theorem Area.units_len (A : Area) : A.units.length = A.frs.length + 1 := by unfold Area.units; simp
def Area.good (A : Area) (file : Nat) (X : Rw → Prop) (j : Nat) : Prop := ∃ L, playF (A.head file) (A.frs.take j) = some L ∧ A.n ≤ cntF (A.frs.take j) ∧ L.size ≤ 2 * L.live + 4096 ∧ X ⟨L.first, L.recs⟩
def Area.fine (A : Area) (file : Nat) (X : Rw → Prop) : Nat → Prop
  | 0 => X ⟨1, []⟩
  | j + 1 => A.good file X j
theorem Area.fine.imp_fine {A : Area} {file j : Nat} {X Y : Rw → Prop} (h : A.fine file X j) (hxy : ∀ x, X x → Y x) : A.fine file Y j := by
  cases j with
  | zero => exact hxy _ h
  | succ j => obtain ⟨L, a, b, c, d⟩ := h; exact ⟨L, a, b, c, hxy _ d⟩
inductive Img (ag q : Nat) (f : List (List Nat)) (X : Rw → Prop) : Prop
  | none : f.length = 64 → (∀ i, i ≠ 8 → i ≠ 9 → f.getD i [] = []) → readF (f.getD 8 []) 8 = none → readF (f.getD 9 []) 9 = none → X ⟨1, []⟩ → Img ag q f X
  | area (k : Nat) (A : Area) (junk : List Nat) : k = 8 ∨ k = 9 → f.length = 64 → (∀ i, i ≠ 8 → i ≠ 9 → f.getD i [] = []) → AreaOk ag A → A.good k X A.frs.length → Stuck junk → f.getD k [] = A.bytes ++ junk →
      (∀ L2, readF (f.getD (17 - k) []) (17 - k) = some L2 → L2.age < A.age) → A.bytes.length ≤ q → Img ag q f X
theorem Img.mono {ag q : Nat} {f : List (List Nat)} {X Y : Rw → Prop} (h : Img ag q f X) (hxy : ∀ x, X x → Y x) : Img ag q f Y := by
  cases h with
  | none a b c d e => exact .none a b c d (hxy _ e)
  | area k A j a b c d e g i l m => obtain ⟨L, e1, e2, e3, e4⟩ := e; exact .area k A j a b c d ⟨L, e1, e2, e3, hxy _ e4⟩ g i l m
theorem Img.up {ag ag' q : Nat} {f : List (List Nat)} {X : Rw → Prop} (h : Img ag q f X) (hg : ag ≤ ag') : Img ag' q f X := by
  cases h with
  | none a b c d e => exact .none a b c d e
  | area k A j a b c d e g i l m => exact .area k A j a b c (d.up hg) e g i l m
structure Alive (ag : Nat) (D : Dk) (L : Lg) (X : Rw → Prop) (A : Area) (s : Nat) (gs : List (List (List Nat))) : Prop where
  fl : D.files.length = 64
  sl : D.safe.length = 64
  k : L.file = 8 ∨ L.file = 9
  ok : AreaOk ag A
  age : L.age = A.age
  run : playF (A.head L.file) A.frs = some L
  live : L.live = bytesF L.age L.first L.recs
  ff : ∀ i, D.files.getD i [] = if i = L.file then A.bytes else []
  ss : ∀ i, D.safe.getD i [] = if i = L.file then (A.units.take s).flatten else []
  ww : D.wait = wrs L.file (A.units.take s).flatten.length (gs.map List.flatten)
  us : A.units.drop s = gs.flatten
  ne : ∀ g ∈ gs, g ≠ []
  le : s ≤ A.frs.length + 1
  sz : A.bytes.length ≤ D.quota
  fine : ∀ j, s ≤ j → j ≤ A.frs.length + 1 → A.fine L.file X j
structure Blank (D : Dk) (L : Lg) (X : Rw → Prop) : Prop where
  fl : D.files.length = 64
  sl : D.safe.length = 64
  file : L.file = 8
  age : L.age ≤ 1
  first : L.first = 1
  recs : L.recs = []
  size : L.size = 0
  live : L.live = 0
  ff : ∀ i, D.files.getD i [] = []
  ss : ∀ i, D.safe.getD i [] = []
  ww : D.wait = []
  x : X ⟨1, []⟩
def St (ag : Nat) (D : Dk) (L : Lg) (X : Rw → Prop) : Prop := Blank D L X ∨ ∃ A s gs, Alive ag D L X A s gs
def Lost (ag : Nat) (D : Dk) (X : Rw → Prop) : Prop := ∀ g, Crashed D.wait D.safe g → Img ag D.quota g X
theorem Lost.mono {ag : Nat} {D : Dk} {X Y : Rw → Prop} (h : Lost ag D X) (hxy : ∀ x, X x → Y x) : Lost ag D Y := fun g hg => (h g hg).mono hxy
theorem Lost.up {ag ag' : Nat} {D : Dk} {X : Rw → Prop} (h : Lost ag D X) (hg : ag ≤ ag') : Lost ag' D X := fun g hc => (h g hc).up hg
section
variable {ag : Nat} {D : Dk} {L : Lg} {X : Rw → Prop} {A : Area} {s : Nat} {gs : List (List (List Nat))}
theorem flatten_len8 : ∀ {us : List (List Nat)}, us ≠ [] → (∀ u ∈ us, Unit_ u) → 8 ≤ us.flatten.length
  | [], h, _ => absurd rfl h
  | u :: us, _, h => by
    obtain ⟨p, _, rfl⟩ := h u List.mem_cons_self
    rw [List.flatten_cons, List.length_append, frameOf_len]; omega
theorem Alive.torn (h : Alive ag D L X A s gs) {g : List (List Nat)} (hg : Crashed D.wait D.safe g) : g.length = 64 ∧ (∀ i, i ≠ L.file → g.getD i [] = []) ∧ ∃ j junk, s ≤ j ∧ j ≤ A.frs.length + 1 ∧ Stuck junk ∧ g.getD L.file [] = (A.units.take j).flatten ++ junk := by
  have hk : L.file < D.safe.length := by have := h.k; have := h.sl; omega
  have hu : ∀ u ∈ gs.flatten, Unit_ u := fun u hu => h.ok.units u (List.mem_of_mem_drop (by rw [h.us]; exact hu))
  rw [h.ww] at hg
  have hs := h.ss L.file
  rw [if_pos rfl] at hs
  obtain ⟨p, hp, hgp⟩ := wrs_left (gs.map List.flatten) _ D.safe g hk (fun w hw => by
    obtain ⟨x, hx, rfl⟩ := List.mem_map.1 hw
    exact flatten_len8 (h.ne x hx) fun u hu' => hu u (List.mem_flatten.2 ⟨x, hx, hu'⟩)) hs hg
  obtain ⟨j, junk, h1, h2, rfl⟩ := left_units gs p hu hp
  refine ⟨by rw [hg.len]; exact h.sl, fun i hi => ?_, s + j, junk, by omega, ?_, h2, ?_⟩
  · rw [wrs_other hi _ _ g _ hk hg, h.ss i, if_neg hi]
  · rw [← h.us, List.length_drop, A.units_len] at h1
    have := h.le
    omega
  · rw [hgp, ← h.us, List.take_add, List.flatten_append, List.append_assoc]
theorem part_good {k j : Nat} (h : A.good k X j) : (A.part j).good k X (A.part j).frs.length := by
  obtain ⟨L, h1, h2, h3, h4⟩ := h
  refine ⟨L, ?_, ?_, h3, h4⟩
  · show playF (A.head k) ((A.frs.take j).take (A.frs.take j).length) = some L
    rw [List.take_length]; exact h1
  · show A.n ≤ cntF ((A.frs.take j).take (A.frs.take j).length)
    rw [List.take_length]; exact h2
theorem readF_nil (k : Nat) : readF [] k = none := readF_stuck stuck_nil
theorem img_of {q : Nat} {g : List (List Nat)} {k j : Nat} {junk : List Nat} (hk : k = 8 ∨ k = 9) (hl : g.length = 64) (ho : ∀ i, i ≠ k → g.getD i [] = []) (hok : AreaOk ag A) (hf : A.fine k X j) (hj : Stuck junk) (hg : g.getD k [] = (A.units.take j).flatten ++ junk) (hz : A.bytes.length ≤ q) : Img ag q g X := by
  cases j with
  | zero =>
    have hg : g.getD k [] = junk := by rw [hg]; rfl
    have hrd : ∀ i, readF (g.getD i []) i = none := fun i => by
      by_cases hi : i = k
      · rw [hi, hg]; exact readF_stuck hj
      · rw [ho i hi]; exact readF_nil i
    exact .none hl (fun i h8 h9 => ho i (by rcases hk with rfl | rfl <;> assumption)) (hrd 8) (hrd 9) hf
  | succ j =>
    rw [units_take] at hg
    refine .area k (A.part j) junk hk hl (fun i h8 h9 => ho i (by rcases hk with rfl | rfl <;> assumption)) (hok.part j) (part_good hf) hj hg (fun L2 h2 => ?_) ?_
    · rw [ho (17 - k) (by omega), readF_nil] at h2; cases h2
    · rw [← units_take]
      refine Nat.le_trans ?_ hz
      have : A.bytes = (A.units.take (j + 1)).flatten ++ (A.units.drop (j + 1)).flatten := by rw [← List.flatten_append, List.take_append_drop]; rfl
      rw [this, List.length_append]; omega
theorem Alive.lost (h : Alive ag D L X A s gs) : Lost ag D X := fun g hg => by
  obtain ⟨h1, h2, j, junk, h3, h4, h5, h6⟩ := h.torn hg
  exact img_of h.k h1 h2 h.ok (h.fine j h3 h4) h5 h6 h.sz
theorem Blank.lost (h : Blank D L X) : Lost ag D X := fun g hg => by
  rw [h.ww] at hg
  cases hg
  have hrd : ∀ i, readF (D.safe.getD i []) i = none := fun i => by rw [h.ss]; exact readF_nil i
  exact .none h.sl (fun i _ _ => h.ss i) (hrd 8) (hrd 9) h.x
theorem St.lost (h : St ag D L X) : Lost ag D X := by
  rcases h with h | ⟨A, s, gs, h⟩
  · exact h.lost
  · exact h.lost
theorem count_same (D : Dk) : D.count.files = D.files ∧ D.count.safe = D.safe ∧ D.count.wait = D.wait ∧ D.count.quota = D.quota := by
  unfold Dk.count
  split
  · exact ⟨rfl, rfl, rfl, rfl⟩
  · split <;> exact ⟨rfl, rfl, rfl, rfl⟩
theorem Alive.same {D' : Dk} (h : Alive ag D L X A s gs) (h1 : D'.files = D.files) (h2 : D'.safe = D.safe) (h3 : D'.wait = D.wait) (h4 : D'.quota = D.quota) : Alive ag D' L X A s gs :=
  { h with fl := by rw [h1]; exact h.fl, sl := by rw [h2]; exact h.sl, ff := by rw [h1]; exact h.ff, ss := by rw [h2]; exact h.ss, ww := by rw [h3]; exact h.ww, sz := by rw [h4]; exact h.sz }
theorem Blank.same {D' : Dk} (h : Blank D L X) (h1 : D'.files = D.files) (h2 : D'.safe = D.safe) (h3 : D'.wait = D.wait) : Blank D' L X :=
  { h with fl := by rw [h1]; exact h.fl, sl := by rw [h2]; exact h.sl, ff := by rw [h1]; exact h.ff, ss := by rw [h2]; exact h.ss, ww := by rw [h3]; exact h.ww }
theorem St.same {D' : Dk} (h : St ag D L X) (h1 : D'.files = D.files) (h2 : D'.safe = D.safe) (h3 : D'.wait = D.wait) (h4 : D'.quota = D.quota) : St ag D' L X := by
  rcases h with h | ⟨A, s, gs, h⟩
  · exact .inl (h.same h1 h2 h3)
  · exact .inr ⟨A, s, gs, h.same h1 h2 h3 h4⟩
theorem St.count (h : St ag D L X) : St ag D.count L X := h.same (count_same D).1 (count_same D).2.1 (count_same D).2.2.1 (count_same D).2.2.2
theorem St.mono {Y : Rw → Prop} (h : St ag D L X) (hxy : ∀ x, X x → Y x) : St ag D L Y := by
  rcases h with h | ⟨A, s, gs, h⟩
  · exact .inl { h with x := hxy _ h.x }
  · exact .inr ⟨A, s, gs, { h with fine := fun j a b => (h.fine j a b).imp_fine hxy }⟩
theorem Alive.up {ag' : Nat} (h : Alive ag D L X A s gs) (hg : ag ≤ ag') : Alive ag' D L X A s gs := { h with ok := h.ok.up hg }
theorem St.up {ag' : Nat} (h : St ag D L X) (hg : ag ≤ ag') : St ag' D L X := by
  rcases h with h | ⟨A, s, gs, h⟩
  · exact .inl h
  · exact .inr ⟨A, s, gs, h.up hg⟩
end
end Go.Am
namespace Go.Am
noncomputable def Lg.b (L : Lg) : Lg := { L.hd with size := L.size + (begunF L).length }
theorem putF_frame {p : List Nat} (h : p.length ≤ 16384) : putF [] p = frameOf p := by
  unfold putF; rw [if_neg (by omega), List.nil_append]
section
variable {ag : Nat} {D : Dk} {L : Lg} {X Y : Rw → Prop} {A : Area} {s : Nat} {gs : List (List (List Nat))}
theorem Alive.size (h : Alive ag D L X A s gs) : L.size = A.bytes.length ∧ 8 ≤ L.size := by
  obtain ⟨_, _, h3⟩ := playF_same h.run
  have ha := h.ok.age; have hf := h.ok.first; have hn := h.ok.n
  have h4 := headB_len (age := A.age) (first := A.first) (n := A.n) (by omega) (by omega) hn
  have h3 : L.size = (headB A.age A.first A.n).length + (frB A.age A.frs).length := h3
  rw [A.bytes_eq, List.length_append]
  omega
theorem Alive.base (h : Alive ag D L X A s gs) : L.b = L ∧ begunF L = [] ∧ L.hd = L := by
  have hs := h.size.2
  have h1 : begunF L = [] := by unfold begunF; rw [if_pos (by omega)]
  have h2 : L.hd = L := by unfold Lg.hd; rw [if_pos (by omega)]
  refine ⟨?_, h1, h2⟩
  unfold Lg.b; rw [h1, h2]; rfl
theorem Blank.base (h : Blank D L X) : L.b = headL 8 1 1 0 ∧ begunF L = headB 1 1 0 ∧ L.hd.age = 1 := by
  have hs := h.size
  have hp : (pay 0 1 1 0 []).length ≤ 16384 := by
    have := pay_len (kind := 0) (age := 1) (i := 1) (n := 0) [] (by omega) (by omega) (by omega) (by omega)
    rw [List.length_nil] at this; omega
  have ha : max L.age 1 = 1 := by have := h.age; omega
  have h1 : begunF L = headB 1 1 0 := by unfold begunF; rw [if_neg (by omega), ha, h.first, putF_frame hp]; rfl
  have h2 : L.hd = { L with age := 1 } := by unfold Lg.hd; rw [if_neg (by omega), ha]
  refine ⟨?_, h1, by rw [h2]⟩
  unfold Lg.b
  rw [h1, h2, hs, Nat.zero_add]
  show (⟨L.file, 1, L.first, L.recs, (headB 1 1 0).length, L.live⟩ : Lg) = ⟨8, 1, 1, [], (headB 1 1 0).length, 0⟩
  rw [h.file, h.first, h.recs, h.live]
theorem write_getD {k a : Nat} {p : List Nat} (hk : k < D.files.length) (i : Nat) : (D.write k a p).files.getD i [] = if i = k then writtenF (D.files.getD k []) a p else D.files.getD i [] := files_set hk _ i
theorem flat2 (l : List (List (List Nat))) : (l.map List.flatten).flatten = l.flatten.flatten := List.flatten_flatten.symm
theorem put_st (hag : 1 ≤ ag) (h : St ag D L X) {new : List Fr} (hne : new ≠ []) (hok : ∀ x ∈ new, FrOk x) (hxy : ∀ x, X x → Y x) {L2 : Lg} (hrun : playF L.b new = some L2) (hlv : L2.live = bytesF L2.age L2.first L2.recs)
    (hgood : ∀ j, j ≤ new.length → ∃ L', playF L.b (new.take j) = some L' ∧ L'.size ≤ 2 * L'.live + 4096 ∧ Y ⟨L'.first, L'.recs⟩) (hsz : L.size + (begunF L ++ frB L.hd.age new).length ≤ D.quota) : St ag (D.write L.file L.size (begunF L ++ frB L.hd.age new)) L2 Y := by
  right
  rcases h with h | ⟨A, s, gs, h⟩
  · obtain ⟨b1, b2, b3⟩ := h.base
    rw [b1] at hrun hgood
    obtain ⟨r1, r2, r3⟩ := playF_same hrun
    rw [b2, b3, h.file, h.size]
    rw [b2, b3, h.size, Nat.zero_add] at hsz
    have hk : 8 < D.files.length := by have := h.fl; omega
    have hu : (⟨1, 1, 0, new⟩ : Area).units = headB 1 1 0 :: new.map (Fr.bytes 1) := rfl
    refine ⟨⟨1, 1, 0, new⟩, 0, [headB 1 1 0 :: new.map (Fr.bytes 1)], ?_⟩
    exact {
      fl := by rw [show (D.write 8 0 (headB 1 1 0 ++ frB 1 new)).files.length = D.files.length from List.length_set]; exact h.fl
      sl := h.sl
      k := .inl r2
      ok := ⟨⟨Nat.le_refl 1, by show 1 < _; omega⟩, ⟨Nat.le_refl 1, by show 1 ≤ _; omega⟩, by show 0 < _; omega, hok, hag⟩
      age := r1
      run := by rw [r2]; exact hrun
      live := hlv
      ff := fun i => by
        have r2 : L2.file = 8 := r2
        rw [write_getD hk, r2, h.ff, h.ff]
        have := written_end [] (headB 1 1 0 ++ frB 1 new)
        rw [List.length_nil, List.nil_append] at this
        rw [this]; rfl
      ss := fun i => by
        rw [show (D.write 8 0 (headB 1 1 0 ++ frB 1 new)).safe = D.safe from rfl, h.ss]
        split <;> rfl
      ww := by
        have r2 : L2.file = 8 := r2
        rw [show (D.write 8 0 (headB 1 1 0 ++ frB 1 new)).wait = D.wait ++ [⟨false, 8, 0, headB 1 1 0 ++ frB 1 new⟩] from rfl, h.ww, r2]; rfl
      us := by rw [hu]; simp
      ne := fun g hg => by rw [List.mem_singleton] at hg; rw [hg]; exact List.cons_ne_nil _ _
      le := Nat.zero_le _
      sz := hsz
      fine := fun j _ hj => by
        have r2 : L2.file = 8 := r2
        rw [r2]
        cases j with
        | zero => exact hxy _ h.x
        | succ j =>
          obtain ⟨L', g1, g2, g3⟩ := hgood j (by have : j + 1 ≤ new.length + 1 := hj; omega)
          exact ⟨L', g1, Nat.zero_le _, g2, g3⟩ }
  · obtain ⟨b1, b2, b3⟩ := h.base
    rw [b1] at hrun hgood
    obtain ⟨r1, r2, r3⟩ := playF_same hrun
    obtain ⟨z1, z2⟩ := h.size
    have hage := h.age
    rw [b2, b3, List.nil_append]
    rw [b2, b3, List.nil_append] at hsz
    have hk : L.file < D.files.length := by have := h.fl; have := h.k; omega
    have hle := h.le
    have hu : ({ A with frs := A.frs ++ new } : Area).units = A.units ++ new.map (Fr.bytes A.age) := by unfold Area.units; simp
    have hts : ({ A with frs := A.frs ++ new } : Area).units.take s = A.units.take s := by rw [hu, List.take_append_of_le_length (by rw [A.units_len]; exact hle)]
    have hby : ({ A with frs := A.frs ++ new } : Area).bytes = A.bytes ++ frB A.age new := by unfold Area.bytes; rw [hu, List.flatten_append]; rfl
    refine ⟨{ A with frs := A.frs ++ new }, s, gs ++ [new.map (Fr.bytes A.age)], ?_⟩
    exact {
      fl := by rw [show (D.write L.file L.size (frB L.age new)).files.length = D.files.length from List.length_set]; exact h.fl
      sl := h.sl
      k := by rw [r2]; exact h.k
      ok := ⟨h.ok.age, h.ok.first, h.ok.n, fun x hx => (List.mem_append.1 hx).elim (h.ok.frs x) (hok x), h.ok.ag⟩
      age := by rw [r1]; exact h.age
      run := by
        rw [r2]
        show playF (A.head L.file) (A.frs ++ new) = some L2
        rw [playF_append, h.run]; exact hrun
      live := hlv
      ff := fun i => by
        rw [write_getD hk, r2, h.ff, if_pos rfl, z1, written_end, hby, hage]
        by_cases hi : i = L.file
        · rw [if_pos hi, if_pos hi]
        · rw [if_neg hi, if_neg hi, h.ff, if_neg hi]
      ss := fun i => by
        rw [show (D.write L.file L.size (frB L.age new)).safe = D.safe from rfl, h.ss, r2, hts]
      ww := by
        rw [show (D.write L.file L.size (frB L.age new)).wait = D.wait ++ [⟨false, L.file, L.size, frB L.age new⟩] from rfl, h.ww, r2, hts, List.map_append, List.map_singleton, wrs_snoc, flat2, ← h.us, hage]
        have e : (A.units.take s).flatten.length + (A.units.drop s).flatten.length = L.size := by
          rw [z1, ← List.length_append, ← List.flatten_append, List.take_append_drop]; rfl
        rw [e]; rfl
      us := by rw [hu, List.drop_append_of_le_length (by rw [A.units_len]; exact hle), h.us, List.flatten_append]; simp
      ne := fun g hg => by
        rcases List.mem_append.1 hg with hg | hg
        · exact h.ne g hg
        · rw [List.mem_singleton] at hg
          rw [hg]
          intro e
          exact hne (List.map_eq_nil_iff.1 e)
      le := by
        show s ≤ (A.frs ++ new).length + 1
        rw [List.length_append]; omega
      sz := by rw [hby, List.length_append, ← z1, ← hage]; exact hsz
      fine := fun j hs hj => by
        rw [r2]
        have hj : j ≤ (A.frs ++ new).length + 1 := hj
        rw [List.length_append] at hj
        by_cases hjl : j ≤ A.frs.length + 1
        · have hf := h.fine j hs hjl
          cases j with
          | zero => exact hxy _ hf
          | succ j =>
            obtain ⟨L', g1, g2, g3, g4⟩ := hf
            have e : (A.frs ++ new).take j = A.frs.take j := List.take_append_of_le_length (by omega)
            exact ⟨L', by rw [← g1]; show playF (A.head L.file) ((A.frs ++ new).take j) = _; rw [e], by rw [← e] at g2; exact g2, g3, hxy _ g4⟩
        · obtain ⟨i, rfl⟩ : ∃ i, j = A.frs.length + i + 1 := ⟨j - A.frs.length - 1, by omega⟩
          obtain ⟨L', g1, g2, g3⟩ := hgood i (by omega)
          obtain ⟨_, _, c1, _, _⟩ := h.fine (A.frs.length + 1) h.le (Nat.le_refl _)
          rw [List.take_length] at c1
          have e : (A.frs ++ new).take (A.frs.length + i) = A.frs ++ new.take i := List.take_length_add_append i
          refine ⟨L', ?_, ?_, g2, g3⟩
          · show playF (A.head L.file) ((A.frs ++ new).take (A.frs.length + i)) = some L'
            rw [e, playF_append, h.run]; exact g1
          · show A.n ≤ cntF ((A.frs ++ new).take (A.frs.length + i))
            rw [e, cntF_append]; omega }
theorem sumL_one : ∀ {l : List (List Nat)} {k : Nat}, (∀ i, i ≠ k → l.getD i [] = []) → sumL l ≤ (l.getD k []).length
  | [], _, _ => Nat.zero_le _
  | f :: l, 0, h => by
    have : ∀ {l : List (List Nat)}, (∀ i, l.getD i [] = []) → sumL l = 0 := by
      intro l
      induction l with
      | nil => intro _; rfl
      | cons x l ih =>
        intro h
        have h0 : x = [] := h 0
        have := ih fun i => h (i + 1)
        subst h0
        show 0 + sumL l = 0
        omega
    have := this (l := l) fun i => h (i + 1) (by omega)
    show f.length + sumL l ≤ f.length
    omega
  | f :: l, k + 1, h => by
    have h0 : f = [] := h 0 (by omega)
    have := sumL_one (l := l) (k := k) fun i hi => h (i + 1) (by omega)
    subst h0
    show 0 + sumL l ≤ (l.getD k []).length
    omega
theorem St.held (h : St ag D L X) : D.held ≤ L.size ∧ D.file L.file = D.files.getD L.file [] ∧ (D.file L.file).length = L.size := by
  rcases h with h | ⟨A, s, gs, h⟩
  · have h1 := sumL_one (l := D.files) (k := 0) fun i _ => h.ff i
    rw [h.ff] at h1
    refine ⟨by rw [h.size]; exact h1, rfl, ?_⟩
    show (D.files.getD L.file []).length = _
    rw [h.ff, h.size]; rfl
  · have h1 := sumL_one (l := D.files) (k := L.file) fun i hi => by rw [h.ff, if_neg hi]
    have h2 := h.size.1
    rw [h.ff, if_pos rfl] at h1
    refine ⟨by rw [h2]; exact h1, rfl, ?_⟩
    show (D.files.getD L.file []).length = _
    rw [h.ff, if_pos rfl, h2]
theorem hd_row (L : Lg) : L.hd.first = L.first ∧ L.hd.recs = L.recs ∧ L.hd.size = L.size ∧ L.hd.file = L.file := by
  unfold Lg.hd; split <;> exact ⟨rfl, rfl, rfl, rfl⟩
theorem St.hd (h : St ag D L X) : St ag D L.hd X := by
  rcases h with h | ⟨A, s, gs, h⟩
  · obtain ⟨h1, h2, h3, h4⟩ := hd_row L
    have h5 := h.base.2.2
    have h6 : L.hd.live = L.live := by unfold Lg.hd; split <;> rfl
    exact .inl { h with file := by rw [h4]; exact h.file, age := by omega, first := by rw [h1]; exact h.first, recs := by rw [h2]; exact h.recs, size := by rw [h3]; exact h.size, live := by rw [h6]; exact h.live }
  · rw [h.base.2.2]; exact .inr ⟨A, s, gs, h⟩
theorem St.size_le (h : St ag D L X) : L.size ≤ D.quota := by
  rcases h with h | ⟨A, s, gs, h⟩
  · rw [h.size]; exact Nat.zero_le _
  · rw [h.size.1]; exact h.sz
theorem put_res (hag : 1 ≤ ag) (h : St ag D L X) (hq : D.quota ≤ 1048576) {new : List Fr} (hne : new ≠ []) (hok : ∀ x ∈ new, FrOk x) (hxy : ∀ x, X x → Y x) {L2 : Lg} (hrun : playF L.b new = some L2) (hlv : L2.live = bytesF L2.age L2.first L2.recs)
    (hgood : ∀ j, j ≤ new.length → ∃ L', playF L.b (new.take j) = some L' ∧ L'.size ≤ 2 * L'.live + 4096 ∧ Y ⟨L'.first, L'.recs⟩) {p : List Nat} (hpe : p = begunF L ++ frB L.hd.age new) {e : Int} {L' : Lg} {D' : Dk} (hout : PutOut L.hd D p e L' D') :
    (e = 11 ∧ D'.off = true ∧ Lost ag D' Y ∧ L' = L.hd ∧ D'.quota = D.quota) ∨ (e = 10 ∧ D'.off = false ∧ St ag D' L.hd X ∧ L' = L.hd ∧ D'.quota = D.quota ∧ D.quota < L.size + p.length) ∨ (e = 0 ∧ D'.off = false ∧ L' = L.hd.grown p.length ∧ D'.quota = D.quota ∧ St ag D' L2 Y) := by
  obtain ⟨c1, c2, c3, c4⟩ := count_same D
  obtain ⟨h1, h2, h3, h4⟩ := hd_row L
  have hc := h.count
  have hz := h.size_le
  obtain ⟨k1, k2, k3⟩ := hc.held
  cases hout with
  | off a => exact .inl ⟨rfl, a, hc.lost.mono hxy, rfl, c4⟩
  | big a b => omega
  | full a b c =>
    refine .inr (.inl ⟨rfl, a, hc.hd, rfl, c4, ?_⟩)
    rw [h3, h4] at c
    unfold Dk.room at c
    rw [k3, c4] at c
    omega
  | ok a b c =>
    refine .inr (.inr ⟨rfl, a, rfl, c4, ?_⟩)
    rw [h3, h4, hpe]
    refine put_st hag hc hne hok hxy hrun hlv hgood ?_
    rw [h3, h4] at c
    unfold Dk.room at c
    rw [← hpe]
    have : 8 ≤ p.length := by
      obtain ⟨x, l, rfl⟩ : ∃ x l, new = x :: l := by cases new with | nil => exact absurd rfl hne | cons x l => exact ⟨x, l, rfl⟩
      rw [hpe, frB_cons, List.length_append, List.length_append]
      have := x.bytes_len L.hd.age
      omega
    rw [k3] at c
    omega
end
end Go.Am
namespace Go.Am
def moreF : Nat → List (List Nat) → List Fr
  | _, [] => []
  | i, r :: l => ⟨1, i, r⟩ :: moreF (i + 1) l
theorem moreF_len : ∀ (rs : List (List Nat)) (i : Nat), (moreF i rs).length = rs.length
  | [], _ => rfl
  | r :: rs, i => by show (moreF (i + 1) rs).length + 1 = _; rw [moreF_len rs, List.length_cons]
theorem moreF_take : ∀ (rs : List (List Nat)) (i j : Nat), (moreF i rs).take j = moreF i (rs.take j)
  | [], _, j => by simp [moreF]
  | r :: rs, i, 0 => rfl
  | r :: rs, i, j + 1 => by
    show (⟨1, i, r⟩ : Fr) :: (moreF (i + 1) rs).take j = ⟨1, i, r⟩ :: moreF (i + 1) (rs.take j)
    rw [moreF_take rs]
theorem cnt_more : ∀ (rs : List (List Nat)) (i : Nat), cntF (moreF i rs) = rs.length
  | [], _ => rfl
  | r :: rs, i => by
    show cntF (⟨1, i, r⟩ :: moreF (i + 1) rs) = _
    rw [cntF_cons, cnt_more rs, if_pos rfl, List.length_cons]; omega
theorem more_ok : ∀ {rs : List (List Nat)} {i : Nat}, i + rs.length ≤ 2199023255552 → (∀ r ∈ rs, Bytes r ∧ r.length ≤ 16284) → ∀ x ∈ moreF i rs, FrOk x
  | [], _, _, _, x, hx => by cases hx
  | r :: rs, i, hi, hr, x, hx => by
    rw [List.length_cons] at hi
    rcases List.mem_cons.1 hx with rfl | hx
    · exact ⟨by show i ≤ _; omega, (hr r List.mem_cons_self).1, (hr r List.mem_cons_self).2, by show 1 < _; omega⟩
    · exact more_ok (by omega) (fun y hy => hr y (List.mem_cons_of_mem _ hy)) x hx
theorem pay_le {kind age i n : Nat} {r : List Nat} (h1 : kind < 4611686018427387904) (h2 : age < 4611686018427387904) (h3 : i < 4611686018427387904) (h4 : n < 4611686018427387904) (hr : r.length ≤ 16284) : (pay kind age i n r).length ≤ 16384 := by
  have := pay_len (kind := kind) (age := age) (i := i) (n := n) r h1 h2 h3 h4; omega
theorem framesF_more {age : Nat} (ha : age < 4611686018427387904) : ∀ {rs : List (List Nat)} {i : Nat}, i + rs.length ≤ 2199023255552 → (∀ r ∈ rs, r.length ≤ 16284) → framesF age i rs = frB age (moreF i rs)
  | [], _, _, _ => rfl
  | r :: rs, i, hi, hr => by
    rw [List.length_cons] at hi
    show putF [] (pay 1 age i 0 r) ++ framesF age (i + 1) rs = Fr.bytes age ⟨1, i, r⟩ ++ frB age (moreF (i + 1) rs)
    rw [framesF_more ha (by omega) (fun y hy => hr y (List.mem_cons_of_mem _ hy)), putF_frame (pay_le (by omega) ha (by omega) (by omega) (hr r List.mem_cons_self))]; rfl
theorem long_eq {age i : Nat} {r : List Nat} (ha : age < 4611686018427387904) (hi : i < 4611686018427387904) (_ : r.length ≤ 16284) : longF age i r = (Fr.bytes age ⟨1, i, r⟩).length := by
  unfold longF Fr.bytes
  rw [putF_frame (pay_le (by omega) ha hi (by omega) (by rw [List.length_nil]; omega)), frameOf_len, frameOf_len]
  show 8 + (pay 1 age i 0 []).length + r.length = 8 + (pay 1 age i 0 r).length
  unfold pay
  simp only [List.length_append, List.length_nil]; omega
theorem bytesF_snoc {age : Nat} : ∀ (rs : List (List Nat)) (i : Nat) (r : List Nat), bytesF age i (rs ++ [r]) = bytesF age i rs + longF age (i + rs.length) r
  | [], i, r => by show longF age i r + 0 = 0 + longF age (i + 0) r; rw [Nat.add_zero, Nat.add_zero, Nat.zero_add]
  | x :: rs, i, r => by
    show longF age i x + bytesF age (i + 1) (rs ++ [r]) = longF age i x + bytesF age (i + 1) rs + longF age (i + (rs.length + 1)) r
    rw [bytesF_snoc rs, show i + (rs.length + 1) = i + 1 + rs.length by omega]; omega
section
variable {ag : Nat} {D : Dk} {L : Lg} {X Y : Rw → Prop}
structure Pl (L : Lg) : Prop where
  age : L.age < 1125899906842624
  live : L.live = bytesF L.age L.first L.recs
  lo : 1 ≤ L.first
  hi : L.first + L.recs.length ≤ 1099511627777
theorem add_size (L : Lg) (n i : Nat) (r : List Nat) : ({ L with size := n } : Lg).add i r = { L.add i r with size := n } := by
  unfold Lg.add Lg.begin
  show (⟨(if L.recs = [] then (⟨L.file, L.age, i, L.recs, n, L.live⟩ : Lg) else ⟨L.file, L.age, L.first, L.recs, n, L.live⟩).file, _, _, _, _, _⟩ : Lg) = _
  by_cases h : L.recs = []
  · simp only [h, if_true]
  · simp only [h, if_false]
theorem adds_size : ∀ (rs : List (List Nat)) (L : Lg) (n i : Nat), ({ L with size := n } : Lg).adds i rs = { L.adds i rs with size := n }
  | [], L, n, i => rfl
  | r :: rs, L, n, i => by
    show (({ L with size := n } : Lg).add i r).adds (i + 1) rs = { (L.add i r).adds (i + 1) rs with size := n }
    rw [add_size, adds_size rs]
theorem add_row (L : Lg) (i : Nat) (r : List Nat) : (L.add i r).first = (if L.recs = [] then i else L.first) ∧ (L.add i r).recs = L.recs ++ [r] ∧ (L.add i r).age = L.age ∧ (L.add i r).size = L.size ∧ (L.add i r).live = L.live + longF L.age i r ∧ (L.add i r).file = L.file := by
  refine ⟨?_, rfl, (begin_same L i).1, (begin_same L i).2.2.2.1, rfl, (begin_same L i).2.1⟩
  show (L.begin i).first = _
  unfold Lg.begin; split <;> rfl
theorem takes_fst {i n : Nat} (h : L.takes (i : Int) (n + 1)) : L.takes (i : Int) 1 := ⟨h.1, h.2.1, by have := h.2.2; omega⟩
theorem takes_rest {i n : Nat} {r : List Nat} (h : L.takes (i : Int) (n + 1)) : (L.add i r).takes ((i + 1 : Nat) : Int) n := by
  obtain ⟨a1, a2, _, _, _, _⟩ := add_row L i r
  refine ⟨fun _ => ?_, fun he => ?_, by have := h.2.2; omega⟩
  · have e : (L.add i r).next = i + 1 := by
      unfold Lg.next
      rw [a1, a2, List.length_append, List.length_singleton]
      by_cases hz : L.recs = []
      · rw [if_pos hz, hz]; rfl
      · rw [if_neg hz]
        have h1 := h.1 hz
        unfold Lg.next at h1
        omega
    rw [e]
  · rw [a2] at he
    exact absurd he (by simp)
theorem Pl.add (h : Pl L) {i : Nat} {r : List Nat} (ht : L.takes (i : Int) 1) : Pl (L.add i r) := by
  obtain ⟨a1, a2, a3, _, a5, _⟩ := add_row L i r
  have h3 := ht.2.2
  by_cases hz : L.recs = []
  · have h2 := ht.2.1 hz
    rw [if_pos hz] at a1
    refine ⟨by rw [a3]; exact h.age, ?_, by rw [a1]; omega, ?_⟩
    · rw [a5, a3, a1, a2, h.live, hz, List.nil_append]
      show 0 + _ = longF L.age i r + 0
      omega
    · rw [a1, a2, hz, List.nil_append, List.length_singleton]; omega
  · have h1 := ht.1 hz
    unfold Lg.next at h1
    rw [if_neg hz] at a1
    refine ⟨by rw [a3]; exact h.age, ?_, by rw [a1]; exact h.lo, ?_⟩
    · rw [a5, a3, a1, a2, h.live, bytesF_snoc]
      congr 2; omega
    · rw [a1, a2, List.length_append, List.length_singleton]; omega
theorem play_more : ∀ (rs : List (List Nat)) (L : Lg) (i : Nat), Pl L → L.takes (i : Int) rs.length → (∀ r ∈ rs, r.length ≤ 16284) →
    playF L (moreF i rs) = some { L.adds i rs with size := L.size + (frB L.age (moreF i rs)).length } ∧ Pl (L.adds i rs) ∧ (L.adds i rs).live = L.live + (frB L.age (moreF i rs)).length ∧
      (L.adds i rs).recs = L.recs ++ rs ∧ (L.adds i rs).first = (if L.recs = [] ∧ rs ≠ [] then i else L.first) ∧ (L.adds i rs).age = L.age
  | [], L, i, hp, _, _ => ⟨rfl, hp, rfl, (List.append_nil _).symm, by rw [if_neg (fun h => h.2 rfl)]; rfl, rfl⟩
  | r :: rs, L, i, hp, ht, hr => by
    have hr1 := hr r List.mem_cons_self
    have ht1 := takes_fst ht
    have hi : i ≤ 1099511627776 := by have := ht1.2.2; omega
    have hage := hp.age
    obtain ⟨a1, a2, a3, a4, a5, a6⟩ := add_row L i r
    have hd : redoF L (Fr.part L.age ⟨1, i, r⟩) = some (L.add i r) := by
      unfold redoF
      rw [if_pos (show (Fr.part L.age ⟨1, i, r⟩).kind = 1 from rfl)]
      show (if L.takes ((i : Nat) : Int) 1 then some (L.add ((i : Int)).toNat r) else none) = _
      rw [if_pos ht1]
      congr 1
    obtain ⟨g1, g2, g3, g4, g5, g6⟩ := play_more rs (L.add i r) (i + 1) (hp.add ht1) (takes_rest ht) fun y hy => hr y (List.mem_cons_of_mem _ hy)
    have hb : frB L.age (moreF i (r :: rs)) = Fr.bytes L.age ⟨1, i, r⟩ ++ frB L.age (moreF (i + 1) rs) := rfl
    have hlong := long_eq (age := L.age) (i := i) (r := r) (by omega) (by omega) hr1
    refine ⟨?_, g2, ?_, ?_, ?_, by rw [show L.adds i (r :: rs) = (L.add i r).adds (i + 1) rs from rfl, g6, a3]⟩
    · show (match redoF L (Fr.part L.age ⟨1, i, r⟩) with | some L' => playF { L' with size := L.size + (Fr.bytes L.age ⟨1, i, r⟩).length } (moreF (i + 1) rs) | none => none) = _
      rw [hd]
      simp only
      have ht2 : ({ L.add i r with size := L.size + (Fr.bytes L.age ⟨1, i, r⟩).length } : Lg).takes ((i + 1 : Nat) : Int) rs.length := takes_rest (r := r) ht
      have hp2 : Pl { L.add i r with size := L.size + (Fr.bytes L.age ⟨1, i, r⟩).length } := by
        have := hp.add (r := r) ht1
        exact ⟨this.age, this.live, this.lo, this.hi⟩
      obtain ⟨k1, _⟩ := play_more rs { L.add i r with size := L.size + (Fr.bytes L.age ⟨1, i, r⟩).length } (i + 1) hp2 ht2 fun y hy => hr y (List.mem_cons_of_mem _ hy)
      rw [k1, adds_size]
      show some (⟨_, _, _, _, L.size + (Fr.bytes L.age ⟨1, i, r⟩).length + (frB (L.add i r).age (moreF (i + 1) rs)).length, _⟩ : Lg) = some ⟨_, _, _, _, _, _⟩
      rw [a3, hb, List.length_append, Nat.add_assoc]
      rfl
    · show ((L.add i r).adds (i + 1) rs).live = _
      rw [g3, a5, a3, hb, List.length_append, hlong]; omega
    · show ((L.add i r).adds (i + 1) rs).recs = _
      rw [g4, a2, List.append_assoc]; rfl
    · show ((L.add i r).adds (i + 1) rs).first = _
      rw [g5, if_neg (fun h => by rw [a2] at h; exact absurd h.1 (by simp)), a1]
      by_cases hz : L.recs = []
      · rw [if_pos hz, if_pos ⟨hz, List.cons_ne_nil _ _⟩]
      · rw [if_neg hz, if_neg (fun h => hz h.1)]
end
end Go.Am
namespace Go.Am
def Lg.row (L : Lg) : Rw := ⟨L.first, L.recs⟩
def wtF : List (List Nat) → Nat
  | [] => 0
  | r :: l => r.length + 100 + wtF l
theorem wtF_append : ∀ (a b : List (List Nat)), wtF (a ++ b) = wtF a + wtF b
  | [], b => by show wtF b = 0 + wtF b; omega
  | r :: a, b => by show r.length + 100 + wtF (a ++ b) = r.length + 100 + wtF a + wtF b; rw [wtF_append a b]; omega
theorem wtF_take (a : List (List Nat)) (n : Nat) : wtF (a.take n) ≤ wtF a := by
  have := wtF_append (a.take n) (a.drop n)
  rw [List.take_append_drop] at this; omega
theorem wtF_drop (a : List (List Nat)) (n : Nat) : wtF (a.drop n) ≤ wtF a := by
  have := wtF_append (a.take n) (a.drop n)
  rw [List.take_append_drop] at this; omega
theorem bytesF_wt {age : Nat} (ha : age < 4611686018427387904) : ∀ {rs : List (List Nat)} {i : Nat}, i + rs.length < 4611686018427387904 → bytesF age i rs ≤ wtF rs
  | [], _, _ => Nat.le_refl _
  | r :: rs, i, hi => by
    rw [List.length_cons] at hi
    have h1 := longF_le (age := age) (i := i) (r := r) ha (by omega)
    have h2 := bytesF_wt ha (rs := rs) (i := i + 1) (by omega)
    show longF age i r + bytesF age (i + 1) rs ≤ r.length + 100 + wtF rs
    omega
structure Wel (ag : Nat) (D : Dk) (L : Lg) (X : Rw → Prop) : Prop where
  st : St ag D L X
  pl : Pl L
  rl : ∀ r ∈ L.recs, Bytes r ∧ r.length ≤ 16284
  q : D.quota ≤ 1048576
  off : D.off = false
  ag : 1 ≤ ag
section
variable {ag : Nat} {D D' : Dk} {L L' L2 : Lg} {X Y : Rw → Prop} {A : Area} {s : Nat} {gs : List (List (List Nat))} {e : Int}
theorem Alive.slack (h : Alive ag D L X A s gs) : L.size ≤ 2 * L.live + 4096 := by
  obtain ⟨L0, h1, _, h3, _⟩ := h.fine (A.frs.length + 1) h.le (Nat.le_refl _)
  rw [List.take_length, h.run] at h1
  cases h1; exact h3
theorem St.slack (h : St ag D L X) : L.size ≤ 2 * L.live + 4096 := by
  rcases h with h | ⟨A, s, gs, h⟩
  · rw [h.size]; exact Nat.zero_le _
  · exact h.slack
theorem St.bb (h : St ag D L X) : L.b.size ≤ 2 * L.b.live + 4096 ∧ L.b.first = L.first ∧ L.b.recs = L.recs ∧ L.b.live = L.live ∧ L.b.age = L.hd.age ∧ (begunF L).length ≤ 48 ∧ L.b.size = L.size + (begunF L).length := by
  have h6 : L.hd.live = L.live := by unfold Lg.hd; split <;> rfl
  obtain ⟨h1, h2, _, _⟩ := hd_row L
  refine ⟨?_, h1, h2, h6, rfl, ?_, rfl⟩
  · rcases h with h | ⟨A, s, gs, h⟩
    · rw [h.base.1]
      have := (headB_len (age := 1) (first := 1) (n := 0) (by omega) (by omega) (by omega)).2
      show (headB 1 1 0).length ≤ _
      omega
    · rw [h.base.1]; exact h.slack
  · rcases h with h | ⟨A, s, gs, h⟩
    · rw [h.base.2.1]; exact (headB_len (by omega) (by omega) (by omega)).2
    · rw [h.base.2.1]; exact Nat.zero_le _
theorem Wel.bpl (h : Wel ag D L X) : Pl L.b := by
  have hp := h.pl
  rcases h.st with h | ⟨A, s, gs, h⟩
  · rw [h.base.1]
    exact ⟨by show 1 < _; omega, rfl, Nat.le_refl 1, by show 1 + 0 ≤ _; omega⟩
  · rw [h.base.1]; exact hp
theorem Wel.live_wt (h : Wel ag D L X) : L.live ≤ wtF L.recs := by
  have := h.pl.age; have := h.pl.hi
  rw [h.pl.live]
  exact bytesF_wt (by omega) (by omega)
theorem Wel.x (h : Wel ag D L X) : X L.row := by
  rcases h.st with h | ⟨A, s, gs, h⟩
  · have := h.x
    rw [show L.row = ⟨1, []⟩ from by unfold Lg.row; rw [h.first, h.recs]]; exact this
  · obtain ⟨L0, h1, _, _, h4⟩ := h.fine (A.frs.length + 1) h.le (Nat.le_refl _)
    rw [List.take_length, h.run] at h1
    cases h1; exact h4
inductive Res (ag : Nat) (D : Dk) (L : Lg) (X Y : Rw → Prop) (nw : Rw) (w : Nat) : Int → Lg → Dk → Prop
  | ok {L' : Lg} {D' : Dk} : Wel (ag + 1) D' L' Y → D'.quota = D.quota → L'.row = nw → Res ag D L X Y nw w 0 L' D'
  | off {L' : Lg} {D' : Dk} : D'.off = true → Lost (ag + 1) D' Y → D'.quota = D.quota → L'.row = L.row → Res ag D L X Y nw w 11 L' D'
  | full {L' : Lg} {D' : Dk} : Wel (ag + 1) D' L' X → D'.quota = D.quota → L'.row = L.row → D.quota < 4 * w + 8192 → Res ag D L X Y nw w 10 L' D'
theorem Wel.hd (h : Wel ag D L X) (hst : St ag D' L.hd X) (hq : D'.quota = D.quota) (hoff : D'.off = false) : Wel ag D' L.hd X := by
  obtain ⟨h1, h2, _, _⟩ := hd_row L
  have hb := h.bpl
  exact ⟨hst, ⟨hb.age, hb.live, hb.lo, hb.hi⟩, by rw [h2]; exact h.rl, by rw [hq]; exact h.q, hoff, h.ag⟩
theorem Wel.up {ag' : Nat} (h : Wel ag D L X) (hg : ag ≤ ag') : Wel ag' D L X := ⟨h.st.up hg, h.pl, h.rl, h.q, h.off, Nat.le_trans h.ag hg⟩
theorem Wel.age_le (h : Wel ag D L X) : L.age ≤ ag := by
  rcases h.st with hb | ⟨A, s, gs, ha⟩
  · exact Nat.le_trans hb.age h.ag
  · rw [ha.age]; exact ha.ok.ag
theorem hd_rw (L : Lg) : L.hd.row = L.row := by
  obtain ⟨h1, h2, _, _⟩ := hd_row L
  unfold Lg.row; rw [h1, h2]
theorem takes_row {L L' : Lg} (h : L'.first = L.first) (h2 : L'.recs = L.recs) {i : Int} {n : Nat} (ht : L.takes i n) : L'.takes i n := by
  unfold Lg.takes Lg.next at *
  rw [h, h2]; exact ht
theorem takes_le {i : Int} {n m : Nat} (h : m ≤ n) (ht : L.takes i n) : L.takes i m := ⟨ht.1, ht.2.1, by have := ht.2.2; omega⟩
theorem app_res (h : Wel ag D L X) {j : Nat} {rs : List (List Nat)} (hrs : rs ≠ []) (ht : L.takes (j : Int) rs.length) (hr : ∀ r ∈ rs, Bytes r ∧ r.length ≤ 16284) (hxy : ∀ x, X x → Y x) (hy : ∀ k, Y (doR L.row ⟨1, j, rs.take k⟩)) :
    (PutOut L.hd D (appB L j rs) e L' D' → e ≠ 0 → Res ag D L X Y (doR L.row ⟨1, j, rs⟩) (wtF L.recs + wtF rs) e L' D') ∧ (PutOut L.hd D (appB L j rs) 0 L' D' → Res ag D L X Y (doR L.row ⟨1, j, rs⟩) (wtF L.recs + wtF rs) 0 (L'.adds j rs) D') := by
  obtain ⟨b1, b2, b3, b4, b5, b6, b7⟩ := h.st.bb
  have hbp := h.bpl
  have hage := hbp.age
  have hj : j + rs.length ≤ 1099511627777 := by have := ht.2.2; omega
  have hrl : ∀ r ∈ rs, r.length ≤ 16284 := fun r hx => (hr r hx).2
  have htb : L.b.takes (j : Int) rs.length := takes_row b2 b3 ht
  obtain ⟨p1, p2, p3, p4, p5, p6⟩ := play_more rs L.b j hbp htb hrl
  have hpe : appB L j rs = begunF L ++ frB L.hd.age (moreF j rs) := by
    unfold appB
    rw [framesF_more (by rw [← b5]; omega) (by omega) hrl]
  have hfl : (frB L.b.age (moreF j rs)).length ≤ wtF rs := by
    have h1 : ∀ (rs : List (List Nat)) (i : Nat), i + rs.length ≤ 1099511627777 → (∀ r ∈ rs, r.length ≤ 16284) → (frB L.b.age (moreF i rs)).length ≤ wtF rs := by
      intro rs
      induction rs with
      | nil => intro i _ _; exact Nat.le_refl _
      | cons r rs ih =>
        intro i hi hr
        rw [List.length_cons] at hi
        have g1 := ih (i + 1) (by omega) fun y hy => hr y (List.mem_cons_of_mem _ hy)
        have g2 := long_eq (age := L.b.age) (i := i) (r := r) (by omega) (by omega) (hr r List.mem_cons_self)
        have g3 := longF_le (age := L.b.age) (i := i) (r := r) (by omega) (by omega)
        show (Fr.bytes L.b.age ⟨1, i, r⟩ ++ frB L.b.age (moreF (i + 1) rs)).length ≤ r.length + 100 + wtF rs
        rw [List.length_append]; omega
    exact h1 rs j hj hrl
  have hslk := h.st.slack
  have hlw := h.live_wt
  have key := fun (e : Int) (L1 : Lg) (D1 : Dk) (ho : PutOut L.hd D (appB L j rs) e L1 D1) => put_res (Y := Y) h.ag h.st h.q (new := moreF j rs) (by
    intro he
    have := congrArg List.length he
    rw [moreF_len] at this
    exact hrs (List.length_eq_zero_iff.1 this)) (more_ok (by omega) hr) hxy p1 (by exact p2.live) (fun k hk => by
      rw [moreF_take]
      obtain ⟨q1, q2, q3, q4, q5, q6⟩ := play_more (rs.take k) L.b j hbp (takes_le (by rw [List.length_take]; omega) htb) fun r hx => hrl r (List.mem_of_mem_take hx)
      refine ⟨_, q1, ?_, ?_⟩
      · show L.b.size + (frB L.b.age (moreF j (rs.take k))).length ≤ 2 * (L.b.adds j (rs.take k)).live + 4096
        rw [q3]; omega
      · show Y ⟨(L.b.adds j (rs.take k)).first, (L.b.adds j (rs.take k)).recs⟩
        rw [q4, q5, b2, b3]
        by_cases hz : rs.take k = []
        · rw [if_neg (fun hh => hh.2 hz), hz, List.append_nil]
          exact hxy _ h.x
        · have := hy k
          unfold doR at this
          rw [if_pos rfl] at this
          have e1 : (if L.recs = [] ∧ rs.take k ≠ [] then j else L.first) = (if L.recs = [] then j else L.first) := by
            by_cases hz2 : L.recs = []
            · rw [if_pos ⟨hz2, hz⟩, if_pos hz2]
            · rw [if_neg (fun hh => hz2 hh.1), if_neg hz2]
          rw [e1]; exact this) hpe ho
  have hpl : (appB L j rs).length ≤ 48 + wtF rs := by rw [hpe, List.length_append, ← b5]; omega
  refine ⟨fun ho he => ?_, fun ho => ?_⟩
  · rcases key _ _ _ ho with ⟨rfl, h1, h2, rfl, h4⟩ | ⟨rfl, h1, h2, rfl, h4, h5⟩ | ⟨rfl, _⟩
    · exact .off h1 (h2.up (by omega)) h4 (hd_rw L)
    · exact .full ((h.hd h2 h4 h1).up (by omega)) h4 (hd_rw L) (by omega)
    · exact absurd rfl he
  · rcases key _ _ _ ho with ⟨h0, _⟩ | ⟨h0, _⟩ | ⟨_, h1, rfl, h4, h5⟩
    · cases h0
    · cases h0
    · have e2 : ({ L.b.adds j rs with size := L.b.size + (frB L.b.age (moreF j rs)).length } : Lg) = (L.hd.grown (appB L j rs).length).adds j rs := by
        have hsz : L.b.size + (frB L.b.age (moreF j rs)).length = L.hd.size + (appB L j rs).length := by
          rw [(hd_row L).2.2.1, hpe, List.length_append, b5, b7]; omega
        rw [hsz]
        exact (congrArg (fun z : Lg => ({ z with size := L.hd.size + (appB L j rs).length } : Lg)) (adds_size rs L.hd (L.size + (begunF L).length) j)).trans (adds_size rs L.hd (L.hd.size + (appB L j rs).length) j).symm
      rw [e2] at h5
      have e5 : ((L.hd.grown (appB L j rs).length).adds j rs).row = doR L.row ⟨1, j, rs⟩ := by
        rw [← e2]
        show (⟨(L.b.adds j rs).first, (L.b.adds j rs).recs⟩ : Rw) = _
        rw [p4, p5, b2, b3]
        unfold doR
        rw [if_pos rfl]
        by_cases hz2 : L.recs = []
        · rw [if_pos ⟨hz2, hrs⟩]
          show _ = (⟨if L.recs = [] then j else L.first, L.recs ++ rs⟩ : Rw)
          rw [if_pos hz2]
        · rw [if_neg (fun hh => hz2 hh.1)]
          show _ = (⟨if L.recs = [] then j else L.first, L.recs ++ rs⟩ : Rw)
          rw [if_neg hz2]
      refine .ok ⟨h5.up (by omega), ?_, ?_, by rw [h4]; exact h.q, h1, by omega⟩ h4 e5
      · rw [← e2]; exact ⟨p2.age, p2.live, p2.lo, p2.hi⟩
      · intro r hx
        rw [← e2] at hx
        have hx : r ∈ (L.b.adds j rs).recs := hx
        rw [p4, b3] at hx
        rcases List.mem_append.1 hx with hx | hx
        · exact h.rl r hx
        · exact hr r hx
end
end Go.Am
namespace Go.Am
section
variable {ag : Nat} {D D' : Dk} {L L' L2 : Lg} {X Y : Rw → Prop} {A : Area} {s : Nat} {gs : List (List (List Nat))} {e : Int}
theorem readF_part {B : Area} (hB : AreaOk ag B) {k : Nat} {L0 : Lg} (hrun : playF (B.head k) B.frs = some L0) {j : Nat} {junk b : List Nat} (hj : Stuck junk) (hb : b = (B.units.take (j + 1)).flatten ++ junk) :
    (cntF (B.frs.take j) < B.n → readF b k = none) ∧ ∀ L2, readF b k = some L2 → L2.age = B.age := by
  have hp : ∃ L1, playF (B.head k) (B.frs.take j) = some L1 := by
    have := hrun
    rw [← List.take_append_drop j B.frs, playF_append] at this
    cases hq : playF (B.head k) (B.frs.take j) with
    | none => rw [hq] at this; cases this
    | some L1 => exact ⟨L1, rfl⟩
  obtain ⟨L1, h1⟩ := hp
  have hr := readF_area (b := b) (file := k) hj (by rw [hb, units_take, Area.bytes_eq, List.append_assoc]; rfl) (hB.part j).frs hB.age hB.first hB.n h1
  refine ⟨fun hlt => ?_, fun L2 h2 => ?_⟩
  · rw [hr, if_neg]
    show ¬ B.n ≤ cntF (B.frs.take j)
    omega
  · rw [hr] at h2
    split at h2
    · cases h2; exact (playF_same h1).1
    · cases h2
theorem Alive.age_read (h : Alive ag D L X A s gs) {g : List (List Nat)} (hg : Crashed D.wait D.safe g) : ∀ L2, readF (g.getD L.file []) L.file = some L2 → L2.age = A.age := by
  obtain ⟨_, _, j, junk, _, _, h5, h6⟩ := h.torn hg
  intro L2 h2
  cases j with
  | zero =>
    rw [h6] at h2
    rw [show (A.units.take 0).flatten ++ junk = junk from rfl, readF_stuck h5] at h2; cases h2
  | succ j =>
    exact (readF_part h.ok h.run h5 h6).2 L2 h2
theorem Alive.age_full (h : Alive ag D L X A s gs) : ∀ L2, readF A.bytes L.file = some L2 → L2.age = A.age := by
  intro L2 h2
  refine (readF_part (j := A.frs.length) (junk := []) h.ok h.run stuck_nil ?_).2 L2 h2
  rw [List.append_nil, List.take_of_length_le (by rw [A.units_len]; exact Nat.le_refl _)]; rfl
theorem img_of2 {q : Nat} {g : List (List Nat)} {k j : Nat} {junk : List Nat} (hk : k = 8 ∨ k = 9) (hl : g.length = 64) (ho : ∀ i, i ≠ 8 → i ≠ 9 → g.getD i [] = []) (hother : readF (g.getD (17 - k) []) (17 - k) = none) (hok : AreaOk ag A) (hf : A.fine k X j) (hj : Stuck junk) (hg : g.getD k [] = (A.units.take j).flatten ++ junk) (hz : A.bytes.length ≤ q) : Img ag q g X := by
  cases j with
  | zero =>
    have hg : g.getD k [] = junk := by rw [hg]; rfl
    rcases hk with rfl | rfl
    · exact .none hl ho (by rw [hg]; exact readF_stuck hj) hother hf
    · exact .none hl ho hother (by rw [hg]; exact readF_stuck hj) hf
  | succ j =>
    rw [units_take] at hg
    refine .area k (A.part j) junk hk hl ho (hok.part j) (part_good hf) hj hg (fun L2 h2 => ?_) ?_
    · rw [hother] at h2; cases h2
    · rw [← units_take]
      refine Nat.le_trans ?_ hz
      have : A.bytes = (A.units.take (j + 1)).flatten ++ (A.units.drop (j + 1)).flatten := by rw [← List.flatten_append, List.take_append_drop]; rfl
      rw [this, List.length_append]; omega
theorem lg_ext {a b : Lg} (h1 : a.file = b.file) (h2 : a.age = b.age) (h3 : a.first = b.first) (h4 : a.recs = b.recs) (h5 : a.size = b.size) (h6 : a.live = b.live) : a = b := by
  cases a; cases b; simp only at h1 h2 h3 h4 h5 h6; subst h1 h2 h3 h4 h5 h6; rfl
theorem anew_res (h : Wel ag D L X) (ha : Alive ag D L X A s gs) {fr : Nat} {rs : List (List Nat)} (hfr : 1 ≤ fr ∧ fr + rs.length ≤ 1099511627777) (hrr : ∀ r ∈ rs, Bytes r ∧ r.length ≤ 16284) (hage : L.age + 1 < 1125899906842624) (hwt : wtF rs ≤ wtF L.recs) (hxy : ∀ x, X x → Y x) (hy : Y ⟨fr, rs⟩) {w : Nat} (hw : wtF L.recs ≤ w)
    (hout : AnewOut L D fr rs e L' D') : Res ag D L X Y ⟨fr, rs⟩ w e L' D' := by
  obtain ⟨c1, c2, c3, c4⟩ := count_same D
  have hrl : ∀ r ∈ rs, r.length ≤ 16284 := fun r hx => (hrr r hx).2
  have hlen : rs.length < 4611686018427387904 := by omega
  -- the other area
  generalize hB : (⟨L.age + 1, fr, rs.length, moreF fr rs⟩ : Area) = B
  have hLage : L.age + 1 ≤ ag + 1 := by have := h.age_le; omega
  have hBok : AreaOk (ag + 1) B := by rw [← hB]; exact ⟨⟨by show 1 ≤ L.age + 1; omega, hage⟩, ⟨hfr.1, by show fr ≤ _; omega⟩, hlen, more_ok (by omega) hrr, hLage⟩
  have hBb : B.bytes = anewB (L.age + 1) fr rs := by
    rw [← hB, Area.bytes_eq]
    unfold anewB
    rw [framesF_more (by omega) (by omega) hrl, putF_frame (pay_le (by omega) (by omega) (by omega) hlen (by rw [List.length_nil]; omega))]; rfl
  have hkk : (17 - L.file = 8 ∨ 17 - L.file = 9) ∧ 17 - L.file ≠ L.file ∧ 17 - (17 - L.file) = L.file := by have := ha.k; omega
  obtain ⟨hk1, hk2, hk3⟩ := hkk
  generalize hk : 17 - L.file = k at *
  have hT : (headL k (L.age + 1) fr rs.length).takes (fr : Int) rs.length := ⟨fun hh => absurd rfl hh, fun _ => by omega, by omega⟩
  have hP : Pl (headL k (L.age + 1) fr rs.length) := ⟨hage, rfl, hfr.1, by show fr + 0 ≤ _; omega⟩
  obtain ⟨p1, p2, p3, p4, p5, p6⟩ := play_more rs _ fr hP hT hrl
  have hbe := headB_len (age := L.age + 1) (first := fr) (n := rs.length) (by omega) (by omega) hlen
  have hBl : B.bytes.length = (headB (L.age + 1) fr rs.length).length + (frB (L.age + 1) (moreF fr rs)).length := by rw [← hB, Area.bytes_eq, List.length_append]
  have hnl : (frB (L.age + 1) (moreF fr rs)).length = bytesF (L.age + 1) fr rs := by
    have e1 : ((headL k (L.age + 1) fr rs.length).adds fr rs).live = 0 + (frB (L.age + 1) (moreF fr rs)).length := p3
    have e2 := p2.live
    rw [e1, p6, p4, p5] at e2
    have e3 : (if (headL k (L.age + 1) fr rs.length).recs = [] ∧ rs ≠ [] then fr else (headL k (L.age + 1) fr rs.length).first) = fr := by split <;> rfl
    rw [e3] at e2
    rw [Nat.zero_add] at e2
    exact e2
  have hL2 : playF (B.head k) B.frs = some (L.anew fr rs) := by
    rw [← hB]
    show playF (headL k (L.age + 1) fr rs.length) (moreF fr rs) = _
    rw [p1]
    have e3 : (if (headL k (L.age + 1) fr rs.length).recs = [] ∧ rs ≠ [] then fr else (headL k (L.age + 1) fr rs.length).first) = fr := by split <;> rfl
    have e4 : ((headL k (L.age + 1) fr rs.length).adds fr rs).file = k := (playF_same p1).2.1
    rw [e3] at p5
    have p3' : ((headL k (L.age + 1) fr rs.length).adds fr rs).live = bytesF (L.age + 1) fr rs := by rw [p3, ← hnl]; show 0 + _ = _; rw [Nat.zero_add]; rfl
    have hsz : (headL k (L.age + 1) fr rs.length).size + (frB (headL k (L.age + 1) fr rs.length).age (moreF fr rs)).length = (anewB (L.age + 1) fr rs).length := by rw [← hBb, hBl]; rfl
    rw [hsz]
    refine congrArg some (lg_ext ?_ ?_ ?_ ?_ rfl ?_)
    · show ((headL k (L.age + 1) fr rs.length).adds fr rs).file = 17 - L.file
      rw [hk]; exact e4
    · exact p6
    · exact p5
    · exact p4
    · exact p3'
  have hAn : (L.anew fr rs).age = L.age + 1 ∧ (L.anew fr rs).first = fr ∧ (L.anew fr rs).recs = rs ∧ (L.anew fr rs).file = k ∧ (L.anew fr rs).live = bytesF (L.age + 1) fr rs ∧ (L.anew fr rs).size = B.bytes.length := ⟨rfl, rfl, rfl, hk, rfl, by rw [hBb]; rfl⟩
  have hgood : B.good k Y B.frs.length := by
    refine ⟨L.anew fr rs, by rw [List.take_length]; exact hL2, ?_, ?_, hy⟩
    · rw [List.take_length, ← hB]; show rs.length ≤ cntF (moreF fr rs); rw [cnt_more]; exact Nat.le_refl _
    · rw [hAn.2.2.2.2.2, hAn.2.2.2.2.1, hBl, hnl]; omega
  have hBage : B.age = L.age + 1 := by rw [← hB]
  have hAage := ha.age
  -- the files behind the write
  have hw1 : D.count.files.length = 64 := by rw [c1]; exact ha.fl
  have hwk : k < D.count.files.length := by omega
  have hfk : D.files.getD k [] = [] := by rw [ha.ff, if_neg hk2]
  have hwr : ∀ i, (D.count.write k 0 (anewB (L.age + 1) fr rs)).files.getD i [] = if i = k then B.bytes else if i = L.file then A.bytes else [] := fun i => by
    rw [write_getD hwk, c1, hfk, hBb]
    have := written_end [] (anewB (L.age + 1) fr rs)
    rw [List.length_nil, List.nil_append] at this
    rw [this]
    by_cases hi : i = k
    · rw [if_pos hi, if_pos hi]
    · rw [if_neg hi, if_neg hi, ha.ff]
  have hsafe := h.st.count.held
  have hroom : D.count.room k 0 (anewB (L.age + 1) fr rs).length → B.bytes.length ≤ D.quota := fun hr => by
    unfold Dk.room at hr
    have e1 : (D.count.file k).length = 0 := by
      show (D.count.files.getD k []).length = 0
      rw [c1, hfk]; rfl
    rw [e1, c4, ← hBb] at hr
    omega
  have hfar : ∀ i : Nat, i ≠ 8 → i ≠ 9 → i ≠ k ∧ i ≠ L.file := fun i h8 h9 => by have := ha.k; omega
  -- an image that holds the other area whole
  have whole : ∀ (g : List (List Nat)) (q : Nat), B.bytes.length ≤ q → g.length = 64 → (∀ i, i ≠ 8 → i ≠ 9 → g.getD i [] = []) → g.getD k [] = B.bytes → (∀ L2, readF (g.getD L.file []) L.file = some L2 → L2.age = A.age) → Img (ag + 1) q g Y := fun g q hq hl ho hg hra => by
    refine .area k B [] hk1 hl ho hBok hgood stuck_nil (by rw [List.append_nil]; exact hg) (fun L2 h2 => ?_) hq
    rw [hk3] at h2
    rw [hra L2 h2, hBage, ← hAage]; omega
  obtain ⟨a1, a2, a3, a4⟩ := count_same (D.count.write k 0 (anewB (L.age + 1) fr rs))
  have an1 : D.an1 L fr rs = (D.count.write k 0 (anewB (L.age + 1) fr rs)).count := by unfold Dk.an1; rw [hk]
  obtain ⟨d1, d2, d3, d4⟩ := count_same (D.an1 L fr rs).sync
  have an1f : (D.an1 L fr rs).files = (D.count.write k 0 (anewB (L.age + 1) fr rs)).files := by rw [an1]; exact a1
  have an1q : (D.an1 L fr rs).quota = D.quota := by rw [an1, a4]; exact c4
  have an2f : (D.an2 L fr rs).files = (D.count.write k 0 (anewB (L.age + 1) fr rs)).files := by unfold Dk.an2; rw [d1]; exact an1f
  have an2s : (D.an2 L fr rs).safe = (D.count.write k 0 (anewB (L.age + 1) fr rs)).files := by unfold Dk.an2; rw [d2]; exact an1f
  have an2w : (D.an2 L fr rs).wait = [] := by unfold Dk.an2; rw [d3]; rfl
  have an2q : (D.an2 L fr rs).quota = D.quota := by unfold Dk.an2; rw [d4]; exact an1q
  obtain ⟨f1, f2, f3, f4⟩ := count_same ((D.an2 L fr rs).cutF L.file 0)
  have hlen2 : (D.count.write k 0 (anewB (L.age + 1) fr rs)).files.length = 64 := by rw [show (D.count.write k 0 (anewB (L.age + 1) fr rs)).files.length = D.count.files.length from List.length_set]; exact hw1
  have hLf : L.file < 64 := by have := ha.k; omega
  have hcut : ∀ i, ((D.an2 L fr rs).cutF L.file 0).files.getD i [] = if i = k then B.bytes else [] := fun i => by
    show ((D.an2 L fr rs).files.set L.file (((D.an2 L fr rs).file L.file).take 0)).getD i [] = _
    rw [files_set (by rw [an2f, hlen2]; exact hLf), List.take_zero, an2f]
    by_cases hi : i = L.file
    · rw [if_pos hi, if_neg (fun e => hk2 (by rw [← e, hi]))]
    · rw [if_neg hi, hwr, if_neg hi]
  cases hout with
  | off1 hoff => exact .off hoff ((h.st.count.lost.mono hxy).up (by omega)) c4 rfl
  | full hoff hr =>
    refine .full ⟨h.st.count.up (by omega), h.pl, h.rl, by rw [c4]; exact h.q, hoff, by omega⟩ c4 rfl ?_
    unfold Dk.room at hr
    have e1 : (D.count.file (17 - L.file)).length = 0 := by
      show (D.count.files.getD (17 - L.file) []).length = 0
      rw [hk, c1, hfk]; rfl
    have hlw := h.live_wt
    have hslk := h.st.slack
    have hbw : bytesF (L.age + 1) fr rs ≤ wtF rs := bytesF_wt (by omega) (by omega)
    rw [e1, c4, ← hBb] at hr
    have := hsafe.1
    omega
  | off2 hoff hr hoff1 =>
    refine .off hoff1 ?_ an1q rfl
    intro g hg
    rw [an1q]
    rw [an1, a3, a2] at hg
    have hg : Crashed (D.wait ++ [⟨false, k, 0, anewB (L.age + 1) fr rs⟩]) D.safe g := by
      rw [show (D.count.write k 0 (anewB (L.age + 1) fr rs)).wait = D.count.wait ++ [⟨false, k, 0, anewB (L.age + 1) fr rs⟩] from rfl, show (D.count.write k 0 (anewB (L.age + 1) fr rs)).safe = D.count.safe from rfl, c3, c2] at hg
      exact hg
    rw [hk] at hr
    have hBq := hroom hr
    rcases hg.snoc with hg | ⟨g1, hg1, hg2⟩
    · exact ((h.st.lost g hg).mono hxy).up (by omega)
    obtain ⟨t1, t2, j, junk, t3, t4, t5, t6⟩ := ha.torn hg1
    have hk64 : k < g1.length := by omega
    have hread := ha.age_read hg1
    have hch : ∃ p, (p = B.bytes ∨ ∃ t, t < B.bytes.length ∧ p = B.bytes.take t) ∧ (∀ i, g.getD i [] = if i = k then p else g1.getD i []) ∧ g.length = 64 := by
      have hwz : ∀ p : List Nat, writtenF (g1.getD k []) 0 p = p := fun p => by
        have := written_end [] p
        rw [List.length_nil, List.nil_append] at this
        rw [t2 k hk2]; exact this
      rcases hg2 with rfl | ⟨_, t, rfl⟩
      · exact ⟨B.bytes, .inl rfl, fun i => by rw [doChg_w hk64, hwz, hBb], by rw [doChg_len]; exact t1⟩
      · by_cases ht : t < B.bytes.length
        · exact ⟨B.bytes.take t, .inr ⟨t, ht, rfl⟩, fun i => by
            show (doChg g1 ⟨false, k, 0, (anewB (L.age + 1) fr rs).take t⟩).getD i [] = _
            rw [doChg_w hk64, hwz, hBb], by rw [doChg_len]; exact t1⟩
        · exact ⟨B.bytes, .inl rfl, fun i => by
            show (doChg g1 ⟨false, k, 0, (anewB (L.age + 1) fr rs).take t⟩).getD i [] = _
            rw [doChg_w hk64, hwz, ← hBb, List.take_of_length_le (by omega)], by rw [doChg_len]; exact t1⟩
    obtain ⟨p, hp, hgi, hgl⟩ := hch
    have hfar2 : ∀ i, i ≠ 8 → i ≠ 9 → g.getD i [] = [] := fun i h8 h9 => by
      obtain ⟨n1, n2⟩ := hfar i h8 h9
      rw [hgi, if_neg n1, t2 i n2]
    have hgL : g.getD L.file [] = g1.getD L.file [] := by rw [hgi, if_neg (fun e => hk2 e.symm)]
    rcases hp with rfl | ⟨t, ht, rfl⟩
    · refine whole g _ hBq hgl hfar2 (by rw [hgi, if_pos rfl]) (fun L2 h2 => ?_)
      rw [hgL] at h2; exact hread L2 h2
    · -- the other area is torn: it reads as nothing
      obtain ⟨j2, junk2, u1, u2, u3, u4⟩ := units_torn B.units t hBok.units
      have u4 := u4 ht
      have hnone : readF (g.getD k []) k = none := by
        rw [hgi, if_pos rfl, show B.bytes.take t = (B.units.take j2).flatten ++ junk2 from u3]
        cases j2 with
        | zero => rw [show (B.units.take 0).flatten ++ junk2 = junk2 from rfl]; exact readF_stuck u2
        | succ j2 =>
          refine (readF_part (B := B) hBok hL2 u2 rfl).1 ?_
          rw [B.units_len] at u4
          rw [← hB] at u4 ⊢
          show cntF ((moreF fr rs).take j2) < rs.length
          have u4 : j2 + 1 < (moreF fr rs).length + 1 := u4
          rw [moreF_len] at u4
          rw [moreF_take, cnt_more, List.length_take]; omega
      exact (img_of2 ha.k hgl hfar2 (by rw [hk]; exact hnone) ha.ok (ha.fine j t3 t4) t5 (by rw [hgL]; exact t6) ha.sz).mono hxy |>.up (by omega)
  | off3 hoff hr hoff1 hoff2 =>
    rw [hk] at hr
    refine .off hoff2 ?_ an2q rfl
    intro g hg
    rw [an2w, an2s] at hg
    cases hg
    rw [an2q]
    refine whole _ _ (hroom hr) hlen2 (fun i h8 h9 => ?_) (by rw [hwr, if_pos rfl]) (fun L2 h2 => ?_)
    · obtain ⟨n1, n2⟩ := hfar i h8 h9
      rw [hwr, if_neg n1, if_neg n2]
    · rw [hwr, if_neg (fun e => hk2 e.symm), if_pos rfl] at h2
      exact ha.age_full L2 h2
  | off4 hoff hr hoff1 hoff2 hoff3 =>
    rw [hk] at hr
    have an3q : (D.an3 L fr rs).quota = D.quota := by unfold Dk.an3; rw [f4]; exact an2q
    refine .off hoff3 ?_ an3q rfl
    intro g hg
    rw [an3q]
    unfold Dk.an3 at hg
    rw [f3, f2] at hg
    have hg : Crashed [⟨true, L.file, 0, []⟩] (D.count.write k 0 (anewB (L.age + 1) fr rs)).files g := by
      rw [show ((D.an2 L fr rs).cutF L.file 0).wait = (D.an2 L fr rs).wait ++ [⟨true, L.file, 0, []⟩] from rfl, an2w, show ((D.an2 L fr rs).cutF L.file 0).safe = (D.an2 L fr rs).safe from rfl, an2s] at hg
      exact hg
    generalize hF : (D.count.write k 0 (anewB (L.age + 1) fr rs)).files = F at *
    cases hg with
    | skip hg =>
      cases hg
      refine whole _ _ (hroom hr) hlen2 (fun i h8 h9 => ?_) (by rw [hwr, if_pos rfl]) (fun L2 h2 => ?_)
      · obtain ⟨n1, n2⟩ := hfar i h8 h9
        rw [hwr, if_neg n1, if_neg n2]
      · rw [hwr, if_neg (fun e => hk2 e.symm), if_pos rfl] at h2
        exact ha.age_full L2 h2
    | keep hg =>
      cases hg
      have hdo : doChg F ⟨true, L.file, 0, []⟩ = F.set L.file ((F.getD L.file []).take 0) := by
        unfold doChg
        rw [if_pos rfl, if_pos (Nat.zero_le _)]
      have hgi : ∀ i, (doChg F ⟨true, L.file, 0, []⟩).getD i [] = if i = k then B.bytes else [] := fun i => by
        rw [hdo, files_set (by rw [hlen2]; exact hLf), List.take_zero]
        by_cases hi : i = L.file
        · rw [if_pos hi, if_neg (fun e => hk2 (by rw [← e, hi]))]
        · rw [if_neg hi, hwr, if_neg hi]
      refine whole _ _ (hroom hr) (by rw [doChg_len]; exact hlen2) (fun i h8 h9 => ?_) (by rw [hgi, if_pos rfl]) (fun L2 h2 => ?_)
      · obtain ⟨n1, n2⟩ := hfar i h8 h9
        rw [hgi, if_neg n1]
      · rw [hgi, if_neg (fun e => hk2 e.symm), readF_nil] at h2; cases h2
    | torn t ht => cases ht
  | ok hoff hr hoff1 hoff2 hoff3 =>
    rw [hk] at hr
    have hBq := hroom hr
    have an3f : ∀ i, (D.an3 L fr rs).files.getD i [] = if i = k then B.bytes else [] := fun i => by unfold Dk.an3; rw [f1]; exact hcut i
    have an3l : (D.an3 L fr rs).files.length = 64 := by
      unfold Dk.an3; rw [f1]
      show ((D.an2 L fr rs).files.set L.file _).length = 64
      rw [List.length_set, an2f]; exact hlen2
    have an3q : (D.an3 L fr rs).quota = D.quota := by unfold Dk.an3; rw [f4]; exact an2q
    have an3o : (D.an3 L fr rs).sync.off = false := hoff3
    refine .ok ⟨.inr ⟨B, B.units.length, [], ?_⟩, ⟨hage, rfl, hfr.1, hfr.2⟩, hrr, by show (D.an3 L fr rs).quota ≤ _; rw [an3q]; exact h.q, an3o, by omega⟩ an3q rfl
    exact {
      fl := an3l
      sl := an3l
      k := by rw [hAn.2.2.2.1]; exact hk1
      ok := hBok
      age := by rw [hAn.1, hBage]
      run := by rw [hAn.2.2.2.1]; exact hL2
      live := rfl
      ff := fun i => by rw [hAn.2.2.2.1]; exact an3f i
      ss := fun i => by
        rw [hAn.2.2.2.1, List.take_length]; exact an3f i
      ww := rfl
      us := by rw [List.drop_length]; rfl
      ne := fun g hg => by cases hg
      le := by rw [B.units_len]; exact Nat.le_refl _
      sz := by show _ ≤ (D.an3 L fr rs).quota; rw [an3q]; exact hBq
      fine := fun j h1 h2 => by
        rw [B.units_len] at h1
        obtain rfl : j = B.frs.length + 1 := by omega
        rw [hAn.2.2.2.1]; exact hgood }
end
end Go.Am
namespace Go.Am
section
variable {ag : Nat} {D D' : Dk} {L L' L2 : Lg} {X Y : Rw → Prop} {A : Area} {s : Nat} {gs : List (List (List Nat))} {e : Int}
theorem leftB_len (h : Wel ag D L X) {kind i : Nat} (hk : kind < 100) (hi : i ≤ 2199023255552) : leftB L kind i = begunF L ++ frB L.hd.age [⟨kind, i, []⟩] ∧ (leftB L kind i).length ≤ 96 := by
  obtain ⟨_, _, _, _, b5, b6, _⟩ := h.st.bb
  have hage := h.bpl.age
  have hp := pay_len (kind := kind) (age := L.hd.age) (i := i) (n := 0) [] (by omega) (by rw [← b5]; omega) (by omega) (by omega)
  rw [List.length_nil] at hp
  have e1 : leftB L kind i = begunF L ++ frB L.hd.age [⟨kind, i, []⟩] := by
    unfold leftB
    rw [putF_frame (by omega), frB_cons, frB_nil, List.append_nil]; rfl
  refine ⟨e1, ?_⟩
  rw [e1, List.length_append, frB_cons, frB_nil, List.append_nil]
  have : (Fr.bytes L.hd.age ⟨kind, i, []⟩).length = 8 + (pay kind L.hd.age i 0 []).length := frameOf_len _
  omega
theorem left_res (h : Wel ag D L X) {kind j fr : Nat} {rs : List (List Nat)} (hk : kind < 100) (hj : j ≤ 2199023255552) (hredo : redoF L.b (Fr.part L.b.age ⟨kind, j, []⟩) = some (L.b.keep fr rs)) (hfr : 1 ≤ fr ∧ fr + rs.length ≤ 1099511627777) (hrr : ∀ r ∈ rs, Bytes r ∧ r.length ≤ 16284)
    (hage : L.age + 1 < 1125899906842624) (hwt : wtF rs ≤ wtF L.recs) (hxy : ∀ x, X x → Y x) (hy : Y ⟨fr, rs⟩) {w : Nat} (hw : wtF L.recs ≤ w) (hout : LeftOut L D kind j fr rs e L' D') : Res ag D L X Y ⟨fr, rs⟩ w e L' D' := by
  obtain ⟨b1, b2, b3, b4, b5, b6, b7⟩ := h.st.bb
  obtain ⟨l1, l2⟩ := leftB_len h hk hj
  have hslk := h.st.slack
  have hlw := h.live_wt
  have hbage := h.bpl.age
  have hrun : playF L.b [⟨kind, j, []⟩] = some { L.b.keep fr rs with size := L.b.size + (frB L.b.age [⟨kind, j, []⟩]).length } := by
    show (match redoF L.b (Fr.part L.b.age ⟨kind, j, []⟩) with | some L' => playF { L' with size := L.b.size + (Fr.bytes L.b.age ⟨kind, j, []⟩).length } [] | none => none) = _
    rw [hredo, frB_cons, frB_nil, List.append_nil]; rfl
  have hsz : L.b.size + (frB L.b.age [⟨kind, j, []⟩]).length = L.size + (leftB L kind j).length := by
    rw [l1, List.length_append, b5, b7]; omega
  have key : ∀ (e : Int) (L1 : Lg) (D1 : Dk), ¬ L.size + (leftB L kind j).length > 2 * bytesF L.hd.age fr rs + 4096 → PutOut L.hd D (leftB L kind j) e L1 D1 → _ := fun e L1 D1 hle ho => put_res (Y := Y) h.ag h.st h.q (new := [⟨kind, j, []⟩]) (by simp) (fun x hx => by
      rw [List.mem_singleton] at hx
      subst hx
      exact ⟨hj, Bytes.nil, by show 0 ≤ _; omega, hk⟩) hxy hrun (by show bytesF L.b.age fr rs = bytesF L.b.age fr rs; rfl) (fun k hk => by
      cases k with
      | zero => exact ⟨L.b, rfl, b1, by rw [b2, b3]; exact hxy _ h.x⟩
      | succ k =>
        rw [show ([⟨kind, j, []⟩] : List Fr).take (k + 1) = [⟨kind, j, []⟩] by simp]
        refine ⟨_, hrun, ?_, hy⟩
        show L.b.size + (frB L.b.age [⟨kind, j, []⟩]).length ≤ 2 * bytesF L.b.age fr rs + 4096
        rw [hsz, b5]; omega) l1 ho
  cases hout with
  | anew hgt ho =>
    rcases h.st with hb | ⟨A, s, gs, ha⟩
    · exfalso
      have := hb.size
      omega
    · rw [ha.base.2.2] at ho
      exact anew_res h ha hfr hrr hage hwt hxy hy hw ho
  | fail hle ho he =>
    rcases key _ _ _ hle ho with ⟨rfl, h1, h2, rfl, h4⟩ | ⟨rfl, h1, h2, rfl, h4, h5⟩ | ⟨rfl, _⟩
    · exact .off h1 (h2.up (by omega)) h4 (hd_rw L)
    · exact .full ((h.hd h2 h4 h1).up (by omega)) h4 (hd_rw L) (by omega)
    · exact absurd rfl he
  | ok hle ho =>
    rcases key _ _ _ hle ho with ⟨h0, _⟩ | ⟨h0, _⟩ | ⟨_, h1, rfl, h4, h5⟩
    · cases h0
    · cases h0
    · have e2 : ({ L.b.keep fr rs with size := L.b.size + (frB L.b.age [⟨kind, j, []⟩]).length } : Lg) = (L.hd.grown (leftB L kind j).length).keep fr rs := by
        rw [hsz]
        refine lg_ext rfl rfl rfl rfl ?_ rfl
        show L.size + (leftB L kind j).length = L.hd.size + (leftB L kind j).length
        rw [(hd_row L).2.2.1]
      rw [e2] at h5
      refine .ok ⟨h5.up (by omega), ⟨?_, rfl, hfr.1, hfr.2⟩, hrr, by rw [h4]; exact h.q, h1, by omega⟩ h4 rfl
      show L.hd.age < _
      rw [← b5]; exact hbage
theorem Wel.mono (h : Wel ag D L X) (hxy : ∀ x, X x → Y x) : Wel ag D L Y := ⟨h.st.mono hxy, h.pl, h.rl, h.q, h.off, h.ag⟩
theorem next_row (h : L'.first = L.first) (h2 : L'.recs = L.recs) : L'.next = L.next := by unfold Lg.next; rw [h, h2]
theorem cut_res (h : Wel ag D L X) {i : Int} (hage : L.age + 1 < 1125899906842624) (hY : ∀ j : Nat, i = j → (∀ x, X x → Y x) ∧ Y (doR L.row ⟨2, j, []⟩)) (hout : CutOut L D i e L' D') :
    ((i < L.first ∨ (L.next : Int) < i) ∧ e = 1 ∧ L' = L ∧ D' = D) ∨ (L.first ≤ i ∧ i ≤ L.next ∧ ∃ j : Nat, i = j ∧ Res ag D L X Y (doR L.row ⟨2, j, []⟩) (wtF L.recs) e L' D') := by
  obtain ⟨b1, b2, b3, b4, b5, b6, b7⟩ := h.st.bb
  have hlo := h.pl.lo; have hhi := h.pl.hi
  have hnx : L.next = L.first + L.recs.length := rfl
  cases hout with
  | arg hb => exact .inl ⟨hb, rfl, rfl, rfl⟩
  | off _ _ ho => rw [h.off] at ho; cases ho
  | same hi ho =>
    right
    obtain ⟨y1, y2⟩ := hY L.next hi
    refine ⟨by omega, by omega, L.next, hi, .ok ((h.mono y1).up (by omega)) rfl ?_⟩
    unfold doR
    show L.row = ⟨L.first, L.recs.take (L.next - L.first)⟩
    rw [List.take_of_length_le (by omega)]; rfl
  | @left j _ _ _ hi h1 h2 ho hl =>
    right
    obtain ⟨y1, y2⟩ := hY j hi
    refine ⟨by omega, by omega, j, hi, ?_⟩
    have e1 : doR L.row ⟨2, j, []⟩ = ⟨L.first, L.recs.take (j - L.first)⟩ := rfl
    rw [e1] at y2 ⊢
    refine left_res h (by omega) (by omega) ?_ ⟨hlo, by rw [List.length_take]; omega⟩ (fun r hr => h.rl r (List.mem_of_mem_take hr)) hage (wtF_take _ _) y1 y2 (Nat.le_refl _) hl
    unfold redoF
    rw [if_neg (show ¬ (Fr.part L.b.age ⟨2, j, []⟩).kind = 1 by show ¬ ((2 : Nat) : Int) = 1; omega), if_pos (show (Fr.part L.b.age ⟨2, j, []⟩).kind = 2 from rfl)]
    have hn : L.b.next = L.next := next_row b2 b3
    rw [if_neg]
    · show some (L.b.keep L.b.first (L.b.recs.take (((j : Int)).toNat - L.b.first))) = _
      rw [b2, b3, show ((j : Int)).toNat = j by omega]
    · show ¬ ((j : Int) < L.b.first ∨ (L.b.next : Int) < j)
      rw [b2, hn]; omega
theorem drop_res (h : Wel ag D L X) {i : Int} (hage : L.age + 1 < 1125899906842624) (hY : ∀ j : Nat, i = j → (∀ x, X x → Y x) ∧ Y (doR L.row ⟨3, j, []⟩)) (hout : DropOut L D i e L' D') :
    ((i < L.first ∨ (L.next : Int) < i) ∧ e = 1 ∧ L' = L ∧ D' = D) ∨ (L.first ≤ i ∧ i ≤ L.next ∧ ∃ j : Nat, i = j ∧ Res ag D L X Y (doR L.row ⟨3, j, []⟩) (wtF L.recs) e L' D') := by
  obtain ⟨b1, b2, b3, b4, b5, b6, b7⟩ := h.st.bb
  have hlo := h.pl.lo; have hhi := h.pl.hi
  have hnx : L.next = L.first + L.recs.length := rfl
  cases hout with
  | arg hb => exact .inl ⟨hb, rfl, rfl, rfl⟩
  | off _ _ ho => rw [h.off] at ho; cases ho
  | same hi ho =>
    right
    obtain ⟨y1, y2⟩ := hY L.first hi
    refine ⟨by omega, by omega, L.first, hi, .ok ((h.mono y1).up (by omega)) rfl ?_⟩
    show L.row = ⟨L.first, L.recs.drop (L.first - L.first)⟩
    rw [Nat.sub_self, List.drop_zero]; rfl
  | @left j _ _ _ hi h1 h2 ho hl =>
    right
    obtain ⟨y1, y2⟩ := hY j hi
    refine ⟨by omega, by omega, j, hi, ?_⟩
    have e1 : doR L.row ⟨3, j, []⟩ = ⟨j, L.recs.drop (j - L.first)⟩ := rfl
    rw [e1] at y2 ⊢
    refine left_res h (by omega) (by omega) ?_ ⟨by omega, by rw [List.length_drop]; omega⟩ (fun r hr => h.rl r (List.mem_of_mem_drop hr)) hage (wtF_drop _ _) y1 y2 (Nat.le_refl _) hl
    unfold redoF
    rw [if_neg (show ¬ (Fr.part L.b.age ⟨3, j, []⟩).kind = 1 by show ¬ ((3 : Nat) : Int) = 1; omega), if_neg (show ¬ (Fr.part L.b.age ⟨3, j, []⟩).kind = 2 by show ¬ ((3 : Nat) : Int) = 2; omega), if_pos (show (Fr.part L.b.age ⟨3, j, []⟩).kind = 3 from rfl)]
    have hn : L.b.next = L.next := next_row b2 b3
    rw [if_neg]
    · show some (L.b.keep ((j : Int)).toNat (L.b.recs.drop (((j : Int)).toNat - L.b.first))) = _
      rw [b2, b3, show ((j : Int)).toNat = j by omega]
    · show ¬ ((j : Int) < L.b.first ∨ (L.b.next : Int) < j)
      rw [b2, hn]; omega
theorem append_res (h : Wel ag D L X) {i : Int} {rs : List (List Nat)} (hb : ∀ r ∈ rs, Bytes r) (hage : L.age + 1 < 1125899906842624) (hY : ∀ j : Nat, i = j → (∀ x, X x → Y x) ∧ ∀ k, Y (doR L.row ⟨1, j, rs.take k⟩)) (hout : AppOut L D i rs e L' D') :
    ((¬ L.takes i rs.length ∨ ∃ r ∈ rs, 16284 < r.length) ∧ e = 1 ∧ L' = L ∧ D' = D) ∨ (L.takes i rs.length ∧ (∀ r ∈ rs, r.length ≤ 16284) ∧ ∃ j : Nat, i = j ∧ Res ag D L X Y (doR L.row ⟨1, j, rs⟩) (wtF L.recs + wtF rs) e L' D') := by
  obtain ⟨b1, b2, b3, b4, b5, b6, b7⟩ := h.st.bb
  have hlo := h.pl.lo; have hhi := h.pl.hi
  cases hout with
  | arg hb => exact .inl ⟨hb, rfl, rfl, rfl⟩
  | off _ ho => rw [h.off] at ho; cases ho
  | noop ht ho hz hor =>
    right
    subst hz
    refine ⟨ht, fun r hr => (by cases hr), ?_⟩
    have hi : 0 ≤ i := by
      by_cases hz : L.recs = []
      · have := ht.2.1 hz; omega
      · have := ht.1 hz; omega
    obtain ⟨j, rfl⟩ := Int.eq_ofNat_of_zero_le hi
    obtain ⟨y1, y2⟩ := hY j rfl
    refine ⟨j, rfl, .ok ((h.mono y1).up (by omega)) rfl ?_⟩
    show L.row = ⟨if L.recs = [] then j else L.first, L.recs ++ []⟩
    rw [List.append_nil]
    by_cases hz : L.recs = []
    · rw [if_pos hz]
      have : j = L.first := by
        rcases hor with h | h
        · exact absurd hz h
        · omega
      rw [this]; rfl
    · rw [if_neg hz]; rfl
  | @left j _ _ _ hi ht ho hz hz2 hne hl =>
    right
    subst hz
    refine ⟨ht, fun r hr => (by cases hr), j, hi, ?_⟩
    obtain ⟨y1, y2⟩ := hY j hi
    have e1 : doR L.row ⟨1, j, []⟩ = ⟨j, []⟩ := by
      show (⟨if L.recs = [] then j else L.first, L.recs ++ []⟩ : Rw) = _
      rw [if_pos hz2, hz2]; rfl
    have y2 := y2 0
    rw [show ([] : List (List Nat)).take 0 = [] from rfl] at y2
    rw [e1] at y2 ⊢
    have hji := ht.2.1 hz2
    refine left_res h (by omega) (by omega) ?_ ⟨by omega, by show j + 0 ≤ _; omega⟩ (fun r hr => by cases hr) hage (Nat.zero_le _) y1 y2 (Nat.le_add_right _ _) hl
    unfold redoF
    rw [if_neg (show ¬ (Fr.part L.b.age ⟨4, j, []⟩).kind = 1 by show ¬ ((4 : Nat) : Int) = 1; omega), if_neg (show ¬ (Fr.part L.b.age ⟨4, j, []⟩).kind = 2 by show ¬ ((4 : Nat) : Int) = 2; omega), if_neg (show ¬ (Fr.part L.b.age ⟨4, j, []⟩).kind = 3 by show ¬ ((4 : Nat) : Int) = 3; omega), if_pos (show (Fr.part L.b.age ⟨4, j, []⟩).kind = 4 from rfl)]
    have htb : L.b.takes (j : Int) 0 := takes_row b2 b3 (by rw [← hi]; exact ht)
    rw [if_pos (show L.b.takes (Fr.part L.b.age ⟨4, j, []⟩).i 0 from htb)]
    show some (L.b.begin ((j : Int)).toNat) = _
    rw [show ((j : Int)).toNat = j by omega]
    have hz3 : L.b.recs = [] := by rw [b3]; exact hz2
    have hl0 : L.b.live = 0 := by rw [b4, h.pl.live, hz2]; rfl
    refine congrArg some ?_
    unfold Lg.begin
    rw [if_pos hz3]
    exact lg_ext rfl rfl rfl hz3 rfl hl0
  | @fail j _ _ _ hi ht ho hne hr hp he =>
    right
    subst hi
    obtain ⟨y1, y2⟩ := hY j rfl
    exact ⟨ht, hr, j, rfl, (app_res h hne ht (fun r hx => ⟨hb r hx, hr r hx⟩) y1 y2).1 hp he⟩
  | @ok j _ _ hi ht ho hne hr hp =>
    right
    subst hi
    obtain ⟨y1, y2⟩ := hY j rfl
    exact ⟨ht, hr, j, rfl, (app_res (e := 0) h hne ht (fun r hx => ⟨hb r hx, hr r hx⟩) y1 y2).2 hp⟩
theorem sync_res (h : Wel ag D L X) (hoff : D.count.off = false) : Wel ag D.count.sync L (fun x => x = L.row) := by
  obtain ⟨c1, c2, c3, c4⟩ := count_same D
  have hx := h.x
  refine ⟨?_, h.pl, h.rl, by show D.count.quota ≤ _; rw [c4]; exact h.q, hoff, h.ag⟩
  rcases h.st with hb | ⟨A, s, gs, ha⟩
  · left
    exact { hb with
      fl := by show D.count.files.length = 64; rw [c1]; exact hb.fl
      sl := by show D.count.files.length = 64; rw [c1]; exact hb.fl
      ff := fun i => by show D.count.files.getD i [] = []; rw [c1]; exact hb.ff i
      ss := fun i => by show D.count.files.getD i [] = []; rw [c1]; exact hb.ff i
      ww := rfl
      x := by show (⟨1, []⟩ : Rw) = L.row; unfold Lg.row; rw [hb.first, hb.recs] }
  · right
    refine ⟨A, A.units.length, [], ?_⟩
    exact { ha with
      fl := by show D.count.files.length = 64; rw [c1]; exact ha.fl
      sl := by show D.count.files.length = 64; rw [c1]; exact ha.fl
      ff := fun i => by show D.count.files.getD i [] = _; rw [c1]; exact ha.ff i
      ss := fun i => by show D.count.files.getD i [] = _; rw [c1, List.take_length]; exact ha.ff i
      ww := rfl
      us := by rw [List.drop_length]; rfl
      ne := fun g hg => by cases hg
      le := by rw [A.units_len]; exact Nat.le_refl _
      sz := by show _ ≤ D.count.quota; rw [c4]; exact ha.sz
      fine := fun j h1 h2 => by
        rw [A.units_len] at h1
        obtain rfl : j = A.frs.length + 1 := by omega
        obtain ⟨L0, g1, g2, g3, _⟩ := ha.fine (A.frs.length + 1) ha.le (Nat.le_refl _)
        have e : L0 = L := by
          rw [List.take_length, ha.run] at g1; cases g1; rfl
        exact ⟨L0, g1, g2, g3, by rw [e]; rfl⟩ }
end
end Go.Am
