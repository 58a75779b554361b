/-
  The law of the log, with no program in sight. Conditions: none.
-/
import Derived.Test.YtkgjghlklniaeaaP0
namespace Go.Am
section
variable {ag : Nat} {D D' : Dk} {L L' L2 : Lg} {X Y : Rw → Prop} {A : Area} {s : Nat} {gs : List (List (List Nat))} {e : Int}
theorem redo_pl (h : Pl L) (hrl : ∀ r ∈ L.recs, Bytes r ∧ r.length ≤ 16284) {x : Fr} (hx : FrOk x) (hr : redoF L (x.part L.age) = some L') : Pl L' ∧ ∀ r ∈ L'.recs, Bytes r ∧ r.length ≤ 16284 := by
  have hlo := h.lo; have hhi := h.hi
  have hi : (x.part L.age).i.toNat = x.i := by show ((x.i : Int)).toNat = x.i; omega
  unfold redoF at hr
  rw [hi] at hr
  split at hr
  · split at hr
    · rename_i ht
      cases hr
      refine ⟨h.add ht, fun r hr => ?_⟩
      rcases List.mem_append.1 hr with hr | hr
      · exact hrl r hr
      · rw [List.mem_singleton] at hr
        subst hr
        exact ⟨hx.b, hx.l⟩
    · cases hr
  split at hr
  · split at hr
    · cases hr
    · cases hr
      exact ⟨⟨h.age, rfl, hlo, by show L.first + (L.recs.take _).length ≤ _; rw [List.length_take]; omega⟩, fun r hr => hrl r (List.mem_of_mem_take hr)⟩
  split at hr
  · split at hr
    · cases hr
    · rename_i hb
      cases hr
      have hb : ¬ ((x.i : Int) < L.first ∨ (L.next : Int) < x.i) := hb
      have hnx : L.next = L.first + L.recs.length := rfl
      exact ⟨⟨h.age, rfl, by show 1 ≤ x.i; omega, by show x.i + (L.recs.drop _).length ≤ _; rw [List.length_drop]; omega⟩, fun r hr => hrl r (List.mem_of_mem_drop hr)⟩
  split at hr
  · split at hr
    · rename_i ht
      cases hr
      have ht : L.takes (x.i : Int) 0 := ht
      unfold Lg.begin
      by_cases hz : L.recs = []
      · rw [if_pos hz]
        have := ht.2.1 hz
        refine ⟨⟨h.age, ?_, by show 1 ≤ x.i; omega, by show x.i + L.recs.length ≤ _; rw [hz]; show x.i + 0 ≤ _; omega⟩, hrl⟩
        show L.live = bytesF L.age x.i L.recs
        rw [h.live, hz]; rfl
      · rw [if_neg hz]; exact ⟨h, hrl⟩
    · cases hr
  · cases hr
theorem play_pl {l : List Fr} : ∀ {L L' : Lg}, Pl L → (∀ r ∈ L.recs, Bytes r ∧ r.length ≤ 16284) → (∀ x ∈ l, FrOk x) → playF L l = some L' → Pl L' ∧ ∀ r ∈ L'.recs, Bytes r ∧ r.length ≤ 16284 := by
  induction l with
  | nil => intro L L' h hrl _ hr; cases hr; exact ⟨h, hrl⟩
  | cons x l ih =>
    intro L L2 h hrl hx hr
    obtain ⟨L', h1, h2⟩ := playF_cons hr
    obtain ⟨g1, g2⟩ := redo_pl h hrl (hx x List.mem_cons_self) h1
    have g3 : Pl { L' with size := L.size + (x.bytes L.age).length } := ⟨g1.age, g1.live, g1.lo, g1.hi⟩
    exact ih g3 g2 (fun y hy => hx y (List.mem_cons_of_mem _ hy)) h2
theorem area_pl (hA : AreaOk ag A) {k : Nat} (hr : playF (A.head k) A.frs = some L) : Pl L ∧ ∀ r ∈ L.recs, Bytes r ∧ r.length ≤ 16284 :=
  play_pl ⟨hA.age.2, rfl, hA.first.1, by show A.first + 0 ≤ _; have := hA.first; omega⟩ (fun r hr => by cases hr) hA.frs hr
def Cuts (L : Lg) (w : List Chg) : Prop := ∀ c ∈ w, c.cut = true ∧ c.at_ = keepN L c.file ∧ c.file < 64
theorem cuts_crash : ∀ (w : List Chg) (f g : List (List Nat)), Cuts L w → f.length = 64 → Crashed w f g → ∀ i, g.getD i [] = f.getD i [] ∨ g.getD i [] = (f.getD i []).take (keepN L i)
  | [], f, g, _, _, h => by cases h; exact fun i => .inl rfl
  | c :: w, f, g, hc, hl, h => by
    obtain ⟨h1, h2, h3⟩ := hc c List.mem_cons_self
    have hw : Cuts L w := fun d hd => hc d (List.mem_cons_of_mem _ hd)
    cases h with
    | skip h => exact cuts_crash w f g hw hl h
    | torn t ht => rw [h1] at ht; cases ht
    | keep h =>
      have ih := cuts_crash w _ g hw (by rw [doChg_len]; exact hl) h
      have hdo : ∀ i, (doChg f c).getD i [] = f.getD i [] ∨ (doChg f c).getD i [] = (f.getD i []).take (keepN L i) := fun i => by
        unfold doChg
        rw [if_pos h1]
        split
        · rw [files_set (by omega)]
          by_cases hi : i = c.file
          · rw [if_pos hi, hi, h2]; exact .inr rfl
          · rw [if_neg hi]; exact .inl rfl
        · exact .inl rfl
      intro i
      rcases ih i with e1 | e1 <;> rcases hdo i with e2 | e2
      · exact .inl (by rw [e1, e2])
      · exact .inr (by rw [e1, e2])
      · exact .inr (by rw [e1, e2])
      · exact .inr (by rw [e1, e2, List.take_take, Nat.min_self])
theorem trim_res : ∀ (n f : Nat) (D D' : Dk) (b : Bool), trim L n f D = (b, D') → f + n ≤ 64 → D.off = false → D.files.length = 64 → Cuts L D.wait →
    Cuts L D'.wait ∧ D'.safe = D.safe ∧ D'.quota = D.quota ∧ D'.files.length = 64 ∧ D'.off = !b ∧ (D.armed = 0 → b = true ∧ D'.armed = 0) ∧
      (b = true → ∀ i, D'.files.getD i [] = if f ≤ i ∧ i < f + n then (D.files.getD i []).take (keepN L i) else D.files.getD i [])
  | 0, f, D, D', b, h, _, ho, hl, hc => by
    cases h
    exact ⟨hc, rfl, rfl, hl, by rw [ho]; rfl, fun h => ⟨rfl, h⟩, fun _ i => by rw [if_neg (by omega)]⟩
  | n + 1, f, D, D', b, h, hf, ho, hl, hc => by
    unfold trim at h
    obtain ⟨c1, c2, c3, c4⟩ := count_same D
    have harm : D.armed = 0 → D.count = D := fun h0 => by unfold Dk.count; rw [if_neg (by rw [ho]; exact Bool.false_ne_true), if_neg (by omega)]
    split at h
    · rename_i hlt
      split at h
      · rename_i hoff
        cases h
        refine ⟨by rw [c3]; exact hc, c2, c4, by rw [c1]; exact hl, by rw [hoff]; rfl, fun h0 => ?_, fun hb => by cases hb⟩
        rw [harm h0, ho] at hoff; cases hoff
      · rename_i hoff
        have hoff : D.count.off = false := by
          cases hz : D.count.off with
          | true => exact absurd hz hoff
          | false => rfl
        have hcl : (D.count.cutF f (keepN L f)).files.length = 64 := by
          show (D.count.files.set f _).length = 64
          rw [List.length_set, c1]; exact hl
        have hcc : Cuts L (D.count.cutF f (keepN L f)).wait := fun c hc' => by
          have hc' : c ∈ D.count.wait ++ [⟨true, f, keepN L f, []⟩] := hc'
          rw [c3] at hc'
          rcases List.mem_append.1 hc' with hc' | hc'
          · exact hc c hc'
          · rw [List.mem_singleton] at hc'
            subst hc'
            exact ⟨rfl, rfl, by show f < 64; omega⟩
        obtain ⟨g1, g2, g3, g4, g5, g6, g7⟩ := trim_res n (f + 1) (D.count.cutF f (keepN L f)) D' b h (by omega) hoff hcl hcc
        refine ⟨g1, by rw [g2]; exact c2, by rw [g3]; exact c4, g4, g5, fun h0 => g6 (by show D.count.armed = 0; rw [harm h0]; exact h0), fun hb i => ?_⟩
        rw [g7 hb]
        have hci : (D.count.cutF f (keepN L f)).files.getD i [] = if i = f then (D.files.getD f []).take (keepN L f) else D.files.getD i [] := by
          show (D.count.files.set f ((D.count.files.getD f []).take (keepN L f))).getD i [] = _
          rw [files_set (by rw [c1]; omega), c1]
        rw [hci]
        by_cases hi : i = f
        · subst hi
          rw [if_neg (by omega), if_pos rfl, if_pos (by omega)]
        · rw [if_neg hi]
          by_cases hin : f + 1 ≤ i ∧ i < f + 1 + n
          · rw [if_pos hin, if_pos (by omega)]
          · rw [if_neg hin, if_neg (by omega)]
    · rename_i hle
      obtain ⟨g1, g2, g3, g4, g5, g6, g7⟩ := trim_res n (f + 1) D D' b h (by omega) ho hl hc
      refine ⟨g1, g2, g3, g4, g5, g6, fun hb i => ?_⟩
      rw [g7 hb]
      have hle : ¬ keepN L f < (D.files.getD f []).length := hle
      by_cases hi : i = f
      · subst hi
        rw [if_neg (by omega), if_pos (by omega), List.take_of_length_le (by omega)]
      · by_cases hin : f + 1 ≤ i ∧ i < f + 1 + n
        · rw [if_pos hin, if_pos (by omega)]
        · rw [if_neg hin, if_neg (by omega)]
inductive Held_ (ag q : Nat) (f : List (List Nat)) (L : Lg) : Prop
  | none : L = Lg.none → (∀ i, i ≠ 8 → i ≠ 9 → f.getD i [] = []) → readF (f.getD 8 []) 8 = none → readF (f.getD 9 []) 9 = none → Held_ ag q f L
  | area (A : Area) (junk : List Nat) : L.file = 8 ∨ L.file = 9 → (∀ i, i ≠ 8 → i ≠ 9 → f.getD i [] = []) → AreaOk ag A → playF (A.head L.file) A.frs = some L → A.n ≤ cntF A.frs → L.size ≤ 2 * L.live + 4096 → Stuck junk → f.getD L.file [] = A.bytes ++ junk →
      (∀ L2, readF (f.getD (17 - L.file) []) (17 - L.file) = some L2 → L2.age < A.age) → A.bytes.length ≤ q → Held_ ag q f L
theorem head_size (h : AreaOk ag A) {k : Nat} (hr : playF (A.head k) A.frs = some L) : L.size = A.bytes.length := by
  obtain ⟨_, _, h3⟩ := playF_same hr
  rw [h3, A.bytes_eq, List.length_append]; rfl
theorem pick_res {q : Nat} (h : Img ag q D.files X) : Held_ ag q D.files (openL D) ∧ X (openL D).row := by
  cases h with
  | none hl ho h8 h9 hx =>
    have e : openL D = Lg.none := by
      unfold openL Dk.file
      rw [h8, h9]; rfl
    rw [e]
    exact ⟨.none rfl ho h8 h9, hx⟩
  | area k A junk hk hl ho hA hg hj hf hot hz =>
    obtain ⟨L0, g1, g2, g3, g4⟩ := hg
    rw [List.take_length] at g1 g2
    obtain ⟨r1, r2, _⟩ := playF_same g1
    have r1 : L0.age = A.age := r1
    have r2 : L0.file = k := r2
    have hage := hA.age
    have hrd : readF (D.files.getD k []) k = some L0 := by
      rw [readF_area (b := D.files.getD k []) (file := k) hj (by rw [hf, A.bytes_eq, List.append_assoc]) hA.frs hA.age hA.first hA.n g1, if_pos g2]
    have e : openL D = L0 := by
      unfold openL Dk.file
      rcases hk with rfl | rfl
      · rw [hrd]
        have e1 : pickL Lg.none (some L0) = L0 := by
          show (if (0 : Nat) < L0.age then L0 else Lg.none) = L0
          rw [if_pos (by omega)]
        rw [e1]
        cases h9 : readF (D.files.getD 9 []) 9 with
        | none => rfl
        | some y =>
          have := hot y h9
          show (if L0.age < y.age then y else L0) = L0
          rw [if_neg (by omega)]
      · rw [hrd]
        have e2 : (pickL Lg.none (readF (D.files.getD 8 []) 8)).age < L0.age := by
          cases h8 : readF (D.files.getD 8 []) 8 with
          | none => show 0 < L0.age; omega
          | some y =>
            have := hot y h8
            show (if (0 : Nat) < y.age then y else Lg.none).age < L0.age
            split
            · omega
            · show 0 < L0.age; omega
        show (if _ < L0.age then L0 else _) = L0
        rw [if_pos e2]
    rw [e]
    exact ⟨.area A junk (by rw [r2]; exact hk) ho hA (by rw [r2]; exact g1) g2 g3 hj (by rw [r2]; exact hf) (by rw [r2]; exact hot) hz, g4⟩
theorem keepN_other {i : Nat} (h : i ≠ L.file) : keepN L i = 0 := by unfold keepN; rw [if_neg h]
theorem held_img {q : Nat} {f g : List (List Nat)} (h : Held_ ag q f L) (hl : g.length = 64) (hg : ∀ i, g.getD i [] = f.getD i [] ∨ g.getD i [] = (f.getD i []).take (keepN L i)) : Img ag q g (fun x => x = L.row) := by
  cases h with
  | none e ho h8 h9 =>
    subst e
    have hk : ∀ i, keepN Lg.none i = 0 := fun i => by unfold keepN; split <;> rfl
    have hi : ∀ i, g.getD i [] = f.getD i [] ∨ g.getD i [] = [] := fun i => by
      rcases hg i with e | e
      · exact .inl e
      · rw [hk, List.take_zero] at e; exact .inr e
    refine .none hl (fun i a b => ?_) ?_ ?_ rfl
    · rcases hi i with e | e
      · rw [e]; exact ho i a b
      · exact e
    · rcases hi 8 with e | e
      · rw [e]; exact h8
      · rw [e]; exact readF_nil 8
    · rcases hi 9 with e | e
      · rw [e]; exact h9
      · rw [e]; exact readF_nil 9
  | area A junk hk ho hA hr hn hs hj hf hot hz =>
    have hsz := head_size hA hr
    have hkn : keepN L L.file = A.bytes.length := by unfold keepN; rw [if_pos rfl, hsz]
    have hother : ∀ i, i ≠ L.file → g.getD i [] = f.getD i [] ∨ g.getD i [] = [] := fun i hi => by
      rcases hg i with e | e
      · exact .inl e
      · rw [keepN_other hi, List.take_zero] at e; exact .inr e
    have hgood : A.good L.file (fun x => x = L.row) A.frs.length := ⟨L, by rw [List.take_length]; exact hr, by rw [List.take_length]; exact hn, hs, rfl⟩
    have hkne : 17 - L.file ≠ L.file := by omega
    have hno : ∀ i, i ≠ 8 → i ≠ 9 → g.getD i [] = [] := fun i a b => by
      rcases hother i (by omega) with e | e
      · rw [e]; exact ho i a b
      · exact e
    have hrd : ∀ L2, readF (g.getD (17 - L.file) []) (17 - L.file) = some L2 → L2.age < A.age := fun L2 h2 => by
      rcases hother _ hkne with e | e
      · rw [e] at h2; exact hot L2 h2
      · rw [e, readF_nil] at h2; cases h2
    rcases hg L.file with e | e
    · exact .area L.file A junk hk hl hno hA hgood hj (by rw [e, hf]) hrd hz
    · rw [hkn, hf, List.take_left] at e
      exact .area L.file A [] hk hl hno hA hgood stuck_nil (by rw [e, List.append_nil]) hrd hz
theorem open_res (hag : 1 ≤ ag) (h : Img ag D.quota D.files X) (hl : D.files.length = 64) (hsf : D.safe = D.files) (hw : D.wait = []) (hoff : D.off = false) (hq : D.quota ≤ 1048576) :
    (∀ L' D', OpenS D L' D' → Wel ag D' L' X ∧ D'.quota = D.quota) ∧ (∀ D', OpenE D D' → D'.off = true ∧ Lost ag D' X ∧ D'.quota = D.quota ∧ D.armed ≠ 0) := by
  obtain ⟨hh, hx⟩ := pick_res h
  have hcut : Cuts (openL D) D.wait := by rw [hw]; intro c hc; cases hc
  have hslk : ¬ 2 * (openL D).live + 4096 < (openL D).size := by
    cases hh with
    | none e => rw [e]; show ¬ 2 * 0 + 4096 < 0; omega
    | area A junk hk ho hA hr hn hs => omega
  have lost : ∀ D1 : Dk, Cuts (openL D) D1.wait → D1.safe = D.safe → D1.quota = D.quota → Lost ag D1 X := fun D1 c1 c2 c3 g hg => by
    rw [c2, hsf] at hg
    rw [c3]
    exact (held_img hh (by rw [hg.len]; exact hl) (cuts_crash _ _ _ c1 hl hg)).mono fun x hxe => by rw [hxe]; exact hx
  refine ⟨fun L' D' ho => ?_, fun D' ho => ?_⟩
  · cases ho with
    | anew _ _ hgt => exact absurd hgt hslk
    | @same D1 ht hco _ =>
      obtain ⟨g1, g2, g3, g4, g5, g6, g7⟩ := trim_res 40 8 D D1 true ht (by omega) hoff hl hcut
      have g7 := g7 rfl
      obtain ⟨c1, c2, c3, c4⟩ := count_same D1
      have hqq : D1.count.quota = D.quota := by rw [c4, g3]
      have hff : ∀ i, D1.count.sync.files.getD i [] = if 8 ≤ i ∧ i < 48 then (D.files.getD i []).take (keepN (openL D) i) else D.files.getD i [] := fun i => by
        show D1.count.files.getD i [] = _
        rw [c1]; exact g7 i
      generalize openL D = L0 at *
      refine ⟨?_, hqq⟩
      cases hh with
      | none e hno h8 h9 =>
        subst e
        have hff : ∀ i, D1.count.sync.files.getD i [] = [] := fun i => by
          rw [hff]
          by_cases hi : 8 ≤ i ∧ i < 48
          · rw [if_pos hi, show keepN Lg.none i = 0 by unfold keepN; split <;> rfl, List.take_zero]
          · rw [if_neg hi]; exact hno i (by omega) (by omega)
        refine ⟨.inl ?_, ⟨by show 0 < _; omega, rfl, Nat.le_refl 1, by show 1 + 0 ≤ _; omega⟩, fun r hr => (by cases hr), by show D1.count.quota ≤ _; rw [hqq]; exact hq, hco, hag⟩
        exact ⟨by show D1.count.files.length = 64; rw [c1]; exact g4, by show D1.count.files.length = 64; rw [c1]; exact g4, rfl, Nat.zero_le _, rfl, rfl, rfl, rfl, hff, hff, rfl, hx⟩
      | area A junk hk hno hA hr hn hs hj hf hot hz =>
        obtain ⟨q1, q2⟩ := area_pl hA hr
        have hsz := head_size hA hr
        have hff : ∀ i, D1.count.sync.files.getD i [] = if i = L0.file then A.bytes else [] := fun i => by
          rw [hff]
          by_cases hi : i = L0.file
          · rw [if_pos (by omega), if_pos hi, hi, hf]
            unfold keepN
            rw [if_pos rfl, hsz, List.take_left]
          · rw [if_neg hi]
            by_cases h2 : 8 ≤ i ∧ i < 48
            · rw [if_pos h2, keepN_other hi, List.take_zero]
            · rw [if_neg h2]; exact hno i (by omega) (by omega)
        refine ⟨.inr ⟨A, A.units.length, [], ?_⟩, q1, q2, by show D1.count.quota ≤ _; rw [hqq]; exact hq, hco, hag⟩
        exact {
          fl := by show D1.count.files.length = 64; rw [c1]; exact g4
          sl := by show D1.count.files.length = 64; rw [c1]; exact g4
          k := hk
          ok := hA
          age := (playF_same hr).1
          run := hr
          live := q1.live
          ff := hff
          ss := fun i => by rw [List.take_length]; exact hff i
          ww := rfl
          us := by rw [List.drop_length]; rfl
          ne := fun g hg => by cases hg
          le := by rw [A.units_len]; exact Nat.le_refl _
          sz := by show _ ≤ D1.count.quota; rw [hqq]; exact hz
          fine := fun j h1 h2 => by
            rw [A.units_len] at h1
            obtain rfl : j = A.frs.length + 1 := by omega
            exact ⟨L0, by rw [List.take_length]; exact hr, by rw [List.take_length]; exact hn, hs, hx⟩ }
  · cases ho with
    | anew _ _ hgt => exact absurd hgt hslk
    | trim ht =>
      obtain ⟨g1, g2, g3, g4, g5, g6, _⟩ := trim_res 40 8 D D' false ht (by omega) hoff hl hcut
      exact ⟨g5, lost D' g1 g2 g3, g3, fun h0 => by have := (g6 h0).1; cases this⟩
    | @sync D1 ht hco =>
      obtain ⟨g1, g2, g3, g4, g5, g6, _⟩ := trim_res 40 8 D D1 true ht (by omega) hoff hl hcut
      obtain ⟨c1, c2, c3, c4⟩ := count_same D1
      refine ⟨hco, lost _ (by rw [c3]; exact g1) (by rw [c2]; exact g2) (by rw [c4]; exact g3), by rw [c4]; exact g3, fun h0 => ?_⟩
      have h1 := (g6 h0).2
      unfold Dk.count at hco
      rw [g5] at hco
      rw [if_neg (by decide), if_neg (by omega), g5] at hco
      cases hco
end
end Go.Am
