/-
  The operations that change nothing: slices, fields, elements, lengths. Conditions: none.
-/
import Derived.Test.YthnjfpfcnpefaaaGreatK6
namespace Go.Am
section
variable {P : Program} {w0 w : World} {m : Mp} {σ : S} {T : Tm} {a : Act} {v : AVal} {dst : Option Tmp} {type : TypeId} {pos : String} {after : Array Edge} {guard : Option (Nat × Bool)}
theorem sim_toInt {s d : TypeId} {k : IntKind} {x : Operand} {y : Opd} (hs : (P.underlying s).isSome = true) (hd : P.underlying d = some (.int k)) (hT : TR m T a.tmps) (hx : copd x = some y)
    (hv : qToInt k y T σ = some v) : QRuns P a.eval ⟨dst, .convert s d x, type, pos, after, guard⟩ w m v := by
  have hx' := copd_ok hT hx
  unfold qToInt vToInt at hv
  split at hv
  · rename_i k' n hn
    rw [hn] at hx'
    rw [outIB_eq] at hv; cases hv
    obtain ⟨ds, hs'⟩ := Option.isSome_iff_exists.1 hs
    refine ⟨_, ?_, (SR.int _ _).vr⟩
    simp [execOp, hx'.int, convert, run_underlying hs', run_underlying hd, Conv.intToInt]
  · cases hv
theorem sim_sameStr {s d : TypeId} {x : Operand} {y : Opd} (hs : P.underlying s = some .string) (hd : P.underlying d = some .string) (hT : TR m T a.tmps) (hx : copd x = some y)
    (hv : qSameStr y T σ = some v) : QRuns P a.eval ⟨dst, .convert s d x, type, pos, after, guard⟩ w m v := by
  have hx' := copd_ok hT hx
  unfold qSameStr vSameStr at hv
  split at hv
  · rename_i l hn
    rw [hn] at hx'
    cases hv
    obtain ⟨b, hb, he⟩ := hx'.str
    refine ⟨_, ?_, (SR.str _ _ he).vr⟩
    simp [execOp, hb, convert, run_underlying hs, run_underlying hd]
  · cases hv
theorem u8s_ok {l : List AVal} {s : List Nat} {xs : List Value} (h : u8s l = some s) (hx : SRs m l xs) : xs = (s.map Int.ofNat).map (Value.int .u8) ∧ ∀ n ∈ s, n < 256 := by
  induction l generalizing s xs with
  | nil => cases h; cases hx; exact ⟨rfl, by simp⟩
  | cons c l ih =>
    unfold u8s at h
    split at h
    · rename_i k q
      split at h
      · split at h
        · rename_i n
          obtain ⟨hn, h⟩ := test_eq.1 h
          obtain ⟨s', hs', h⟩ := andThen_eq.1 h
          cases h
          cases hx with
          | cons _ x _ r hh hs =>
            cases hh
            obtain ⟨e1, e2⟩ := ih hs' hs
            refine ⟨by rw [e1]; rfl, ?_⟩
            intro q hq
            cases hq with
            | head => have := Nat.le_of_ble_eq_true hn; omega
            | tail _ hq => exact e2 q hq
        · cases h
      · cases h
    · cases h
theorem foldl_bytes (s : List Nat) (hs : ∀ n ∈ s, n < 256) (r : ByteArray) :
    ((s.map Int.ofNat).foldl (fun r n => r.push (UInt8.ofNat n.toNat)) r).data.toList.map (·.toNat) = r.data.toList.map (·.toNat) ++ s := by
  induction s generalizing r with
  | nil => simp
  | cons n s ih =>
    simp only [List.map_cons, List.foldl_cons]
    rw [ih (fun q hq => hs q (List.mem_cons_of_mem _ hq))]
    have hn := hs n (List.mem_cons_self)
    simp [ByteArray.push]
    omega
theorem bytes_run {l : List AVal} {s : List Nat} {xs : List Value} {ad : Addr} {len cap : Nat} (h : u8s l = some s) (hx : SRs m l xs) (hr : (loadCells ad len).run P w = .ok xs.toArray w) :
    ∃ t, (Conv.bytesToString (.slice (some ad) len cap)).run P w = .ok (.string t) w ∧ t.data.toList.map (·.toNat) = s := by
  obtain ⟨e1, e2⟩ := u8s_ok h hx
  refine ⟨_, run_bytesToString w ad len cap (s.map Int.ofNat) ?_, ?_⟩
  · rw [hr, e1]
  · rw [foldl_bytes s e2]; rfl
theorem vBytes_run (hW : WR w0 m σ w) {b : Pos} {o len cap : Nat} {a : Addr} {mi : MI} (hm : m b = some mi) (hoff : a = (⟨mi.c, mi.base + o, none⟩ : Addr) ∨ len = 0) (h : vBytes σ b o len = some v) :
    ∃ t, (Conv.bytesToString (.slice (some a) len cap)).run P w = .ok (.string t) w ∧ VR m v (.string t) := by
  unfold vBytes at h
  split at h
  · cases h
    obtain ⟨t, h1, h2⟩ := bytes_run (P := P) (w := w) (m := m) (ad := a) (len := 0) (cap := cap) (l := []) (s := []) rfl .nil rfl
    exact ⟨t, h1, (SR.str _ _ h2).vr⟩
  · rename_i l
    obtain ⟨cs, hr, h⟩ := andThen_eq.1 h
    obtain ⟨s, hs, h⟩ := andThen_eq.1 h
    cases h
    have hoff : a = (⟨mi.c, mi.base + o, none⟩ : Addr) := by rcases hoff with h | h; exact h; cases h
    subst hoff
    obtain ⟨xs, h1, h2, _⟩ := hW.read hr hm P
    obtain ⟨t, h3, h4⟩ := bytes_run (cap := cap) hs h2 h1
    exact ⟨t, h3, (SR.str _ _ h4).vr⟩
theorem sim_bytesStr {s d e : TypeId} {x : Operand} {y : Opd} (hW : WR w0 m σ w) (hs : P.underlying s = some (.slice e)) (he : isU8 P e = true) (hd : P.underlying d = some .string)
    (hT : TR m T a.tmps) (hx : copd x = some y) (hv : qBytesStr y T σ = some v) : QRuns P a.eval ⟨dst, .convert s d x, type, pos, after, guard⟩ w m v := by
  have hx' := copd_ok hT hx
  have he' : P.underlying e = some (.int .u8) := by
    unfold isU8 at he; split at he
    · assumption
    · cases he
  have fin : ∀ ad l c, a.eval x = .slice ad l c → ∀ t, (Conv.bytesToString (.slice ad l c)).run P w = .ok (.string t) w → VR m v (.string t) → QRuns P a.eval ⟨dst, .convert s d x, type, pos, after, guard⟩ w m v := by
    intro ad l c e1 t h1 h2
    refine ⟨_, ?_, h2⟩
    simp only [execOp, e1]
    simp [run_convert_bytes_string w s d e ad l c hs he' hd, h1]
  unfold qBytesStr vBytesStr at hv
  split at hv
  · rename_i hn; rw [hn] at hx'; cases hv
    exact fin _ _ _ hx'.nsl ByteArray.empty (by simp [Conv.bytesToString]) (SR.str [] ByteArray.empty rfl).vr
  · rename_i b o len cap hn; rw [hn] at hx'
    obtain ⟨mi, hm, _, e1⟩ := hx'.sl
    obtain ⟨t, h1, h2⟩ := vBytes_run (P := P) (cap := cap) hW hm (.inl rfl) hv
    exact fin _ _ _ e1 t h1 h2
  · rename_i b o len z hn; rw [hn] at hx'
    obtain ⟨mi, off, cap, hm, _, h2, _, e1⟩ := hx'.slu
    obtain ⟨t, h1, h3⟩ := vBytes_run (P := P) (cap := cap) hW hm (h2.imp id (·.1)) hv
    exact fin _ _ _ e1 t h1 h3
  · cases hv

/-! Bounds. -/
def OV (m : Mp) (x : Option AVal) (y : Option Value) : Prop := (x = none ∧ y = none) ∨ ∃ u v, x = some u ∧ y = some v ∧ VR m u v
theorem copt_ov (hT : TR m T a.tmps) {x : Option Operand} {y : Option Opd} (h : copt x = some y) : OV m (evo T y) (x.map a.eval) := by
  rcases copt_ok hT h with ⟨rfl, rfl⟩ | ⟨u, v, rfl, rfl, hv⟩
  · exact .inl ⟨rfl, rfl⟩
  · exact .inr ⟨_, _, rfl, rfl, hv⟩
theorem bnd_run {x : Option AVal} {y : Option Value} {q n r : Nat} (h : bnd x q n = some r) (hx : OV m x y) :
    (y = none ∧ r = q) ∨ ∃ z, y = some z ∧ r ≤ n ∧ ∀ code, (Instr.sliceBound z n code).run P w = .ok r w := by
  unfold bnd at h
  rcases hx with ⟨rfl, rfl⟩ | ⟨u, z, rfl, rfl, hv⟩
  · cases h; exact .inl ⟨rfl, rfl⟩
  · refine .inr ⟨z, rfl, ?_⟩
    simp only at h
    split at h
    · rename_i k i
      split at h
      · rename_i q'
        split at h
        · rename_i hle
          cases h
          have hle := Nat.le_of_ble_eq_true hle
          refine ⟨hle, fun code => ?_⟩
          rw [hv.int]
          have : (0 : Int) ≤ Int.ofNat r ∧ Int.ofNat r ≤ (n : Int) := ⟨Int.natCast_nonneg r, Int.ofNat_le.2 hle⟩
          simp only [Instr.sliceBound, asIntOf, pure_bind, this, and_self, if_true]
          rfl
        · cases h
      · cases h
    · cases h
theorem bounds_run {isS : Bool} {lo hi mx : Option AVal} {lo' hi' mx' : Option Value} {len cap l h M : Nat} (hb : bounds lo hi mx len cap = some (l, h, M))
    (h1 : OV m lo lo') (h2 : OV m hi hi') (h3 : OV m mx mx') (hc : len ≤ cap) (hn : mx' = none ∨ hi' ≠ none) :
    (Instr.sliceBounds isS len cap lo' hi' mx').run P w = .ok (l, h, M) w ∧ l ≤ h ∧ h ≤ M ∧ M ≤ cap ∧ (mx' = none → M = cap) := by
  unfold bounds at hb
  obtain ⟨M', hM, hb⟩ := andThen_eq.1 hb
  obtain ⟨H', hH, hb⟩ := andThen_eq.1 hb
  obtain ⟨L', hL, hb⟩ := andThen_eq.1 hb
  cases hb
  unfold Instr.sliceBounds
  rcases bnd_run (P := P) (w := w) hM h3 with ⟨rfl, rfl⟩ | ⟨zm, rfl, hMle, rm⟩
  · rcases bnd_run (P := P) (w := w) hH h2 with ⟨rfl, rfl⟩ | ⟨zh, rfl, hHle, rh⟩
    · rcases bnd_run (P := P) (w := w) hL h1 with ⟨rfl, rfl⟩ | ⟨zl, rfl, hLle, rl⟩
      · exact ⟨by simp, by omega, hc, by omega, fun _ => rfl⟩
      · exact ⟨by simp [rl], hLle, hc, by omega, fun _ => rfl⟩
    · rcases bnd_run (P := P) (w := w) hL h1 with ⟨rfl, rfl⟩ | ⟨zl, rfl, hLle, rl⟩
      · exact ⟨by simp [rh], by omega, hHle, by omega, fun _ => rfl⟩
      · exact ⟨by simp [rh, rl], hLle, hHle, by omega, fun _ => rfl⟩
  · rcases bnd_run (P := P) (w := w) hH h2 with ⟨rfl, rfl⟩ | ⟨zh, rfl, hHle, rh⟩
    · rcases hn with h | h
      · cases h
      · exact absurd rfl h
    · rcases bnd_run (P := P) (w := w) hL h1 with ⟨rfl, rfl⟩ | ⟨zl, rfl, hLle, rl⟩
      · exact ⟨by simp [rm, rh], by omega, hHle, hMle, fun h => by cases h⟩
      · exact ⟨by simp [rm, rh, rl], hLle, hHle, hMle, fun h => by cases h⟩
theorem extract_bytes (s : ByteArray) (l h : Nat) :
    (s.extract l h).data.toList.map (·.toNat) = ((s.data.toList.map (·.toNat)).drop l).take (h - l) := by
  rw [ByteArray.data_extract, Array.toList_extract, List.extract_eq_take_drop, List.map_take, List.map_drop]
theorem sim_slStr {t : TypeId} {x : Operand} {y : Opd} {lo hi : Option Operand} {lo' hi' : Option Opd} (ht : P.underlying t = some .string) (hT : TR m T a.tmps) (hx : copd x = some y)
    (hlo : copt lo = some lo') (hhi : copt hi = some hi') (hv : qSlStr y lo' hi' T σ = some v) : QRuns P a.eval ⟨dst, .slice t x lo hi none, type, pos, after, guard⟩ w m v := by
  have hx' := copd_ok hT hx
  unfold qSlStr vSlStr at hv
  split at hv
  · rename_i s hn
    rw [hn] at hx'
    obtain ⟨b, hb, rfl⟩ := hx'.str
    obtain ⟨⟨l, h, M⟩, hbd, hv⟩ := andThen_eq.1 hv
    simp only [forceNats_eq] at hv; cases hv
    rw [lenS_eq, size_map] at hbd
    obtain ⟨r1, r2, r3, r4, _⟩ := bounds_run (P := P) (w := w) (isS := false) hbd (copt_ov hT hlo) (copt_ov hT hhi) (.inl ⟨rfl, rfl⟩) (Nat.le_refl _) (.inl rfl)
    refine ⟨.string (b.extract l h), ?_, (SR.str _ _ (extract_bytes b l h)).vr⟩
    simp [execOp, hb, Instr.sliceAt, Instr.slice, run_underlying ht, r1]
  · cases hv
theorem outSl_eq (b : Pos) (o l c : Nat) : outSl b o l c = some (.sl b o l c) := by unfold outSl; simp only [forceNat_eq]
theorem outSlu_eq (b : Pos) (o l e : Nat) : outSlu b o l e = some (.slu b o l e) := by unfold outSlu; simp only [forceNat_eq]
theorem outPtr_eq (b : Pos) (o : Nat) : outPtr b o = some (.ptr b o) := by unfold outPtr; simp only [forceNat_eq]
theorem slKnown_ok {b : Pos} {o z l h M : Nat} {mi : MI} (hm : m b = some mi) (hle : h ≤ M) (hv : slKnown z b o (l, h, M) = some v) :
    VR m v (.slice (some (if M = l then ⟨mi.c, mi.base + o, none⟩ else Addr.add ⟨mi.c, mi.base + o, none⟩ (l * z))) (h - l) (M - l)) := by
  unfold slKnown at hv
  simp only [outSl_eq] at hv
  split at hv
  · rename_i he; have := Nat.eq_of_beq_eq_true he; cases hv
    rw [if_pos this]; exact (SR.sl _ _ _ _ mi hm (by omega)).vr
  · rename_i he; have := Nat.ne_of_beq_eq_false he; cases hv
    rw [if_neg this, Addr.add_lit, Nat.add_assoc]; exact (SR.sl _ _ _ _ mi hm (by omega)).vr
theorem ite_some {c : Prop} [Decidable c] {x : Addr} {f : Addr → Addr} : (if c then some x else Option.map f (some x)) = some (if c then x else f x) := by split <;> rfl
theorem sim_slSl {t e : TypeId} {z : Nat} {x : Operand} {y : Opd} {lo hi mx : Option Operand} {lo' hi' mx' : Option Opd} (ht : P.underlying t = some (.slice e)) (hz : csize P e = some z)
    (hn : mx = none ∨ hi ≠ none) (hT : TR m T a.tmps) (hx : copd x = some y)
    (hlo : copt lo = some lo') (hhi : copt hi = some hi') (hmx : copt mx = some mx') (hv : qSlSl z y lo' hi' mx' T σ = some v) :
    QRuns P a.eval ⟨dst, .slice t x lo hi mx, type, pos, after, guard⟩ w m v := by
  have hx' := copd_ok hT hx
  have hn' : mx.map a.eval = none ∨ hi.map a.eval ≠ none := by
    rcases hn with rfl | h
    · exact .inl rfl
    · refine .inr ?_; cases hi <;> simp_all
  have go : ∀ (b : Option Addr) len cap l h M, a.eval x = .slice b len cap → (Instr.sliceBounds true len cap (lo.map a.eval) (hi.map a.eval) (mx.map a.eval)).run P w = .ok (l, h, M) w →
      (execOp a.eval ⟨dst, .slice t x lo hi mx, type, pos, after, guard⟩).run P w = .ok (.value (.slice (if M = l then b else b.map (·.add (l * z))) (h - l) (M - l))) w := by
    intro b len cap l h M e1 r1
    simp [execOp, e1, Instr.sliceAt, Instr.slice, run_underlying ht, r1, sizeOf_run hz]
  unfold qSlSl vSlSl at hv
  split at hv
  · rename_i hn1
    rw [hn1] at hx'
    obtain ⟨⟨l, h, M⟩, hbd, hv⟩ := andThen_eq.1 hv
    cases hv
    obtain ⟨r1, r2, r3, r4, _⟩ := bounds_run (P := P) (w := w) (isS := true) hbd (copt_ov hT hlo) (copt_ov hT hhi) (copt_ov hT hmx) (Nat.le_refl _) hn'
    refine ⟨_, go none 0 0 l h M hx'.nsl r1, ?_⟩
    have e1 : l = 0 := by omega
    have e2 : h = 0 := by omega
    have e3 : M = 0 := by omega
    subst e1; subst e2; subst e3
    exact SR.nsl.vr
  · rename_i b o len cap hn1
    rw [hn1] at hx'
    obtain ⟨mi, hm, hle, e1⟩ := hx'.sl
    obtain ⟨⟨l, h, M⟩, hbd, hv⟩ := andThen_eq.1 hv
    obtain ⟨r1, r2, r3, r4, _⟩ := bounds_run (P := P) (w := w) (isS := true) hbd (copt_ov hT hlo) (copt_ov hT hhi) (copt_ov hT hmx) hle hn'
    refine ⟨_, go _ _ _ l h M e1 r1, ?_⟩
    rw [ite_some]; exact slKnown_ok hm r3 hv
  · rename_i b o len ez hn1
    rw [hn1] at hx'
    obtain ⟨mi, off, cap, hm, c1, c2, c3, e1⟩ := hx'.slu
    have hmx' := copt_ov hT hmx
    split at hv
    · rename_i hmn
      obtain ⟨hze, hv⟩ := test_eq.1 hv
      have hze := Nat.eq_of_beq_eq_true hze; subst hze
      obtain ⟨⟨l, h, M⟩, hbd, hv⟩ := andThen_eq.1 hv
      simp only [outSlu_eq] at hv; cases hv
      rw [hmn] at hmx'
      have hmx0 : mx.map a.eval = none := by rcases hmx' with h | ⟨_, _, h, _⟩; exact h.2; cases h
      obtain ⟨r1, r2, r3, r4, r5⟩ := bounds_run (P := P) (w := w) (isS := true) hbd (copt_ov hT hlo) (copt_ov hT hhi) (.inl ⟨rfl, rfl⟩) (Nat.le_refl _) (.inl rfl)
      have hM : M = len := r5 rfl
      -- the model's capacity is not ours
      have r1' : (Instr.sliceBounds true len cap (lo.map a.eval) (hi.map a.eval) (mx.map a.eval)).run P w = .ok (l, h, cap) w := by
        rw [hmx0]
        unfold bounds at hbd
        obtain ⟨M', hM', hbd⟩ := andThen_eq.1 hbd
        obtain ⟨H', hH, hbd⟩ := andThen_eq.1 hbd
        obtain ⟨L', hL, hbd⟩ := andThen_eq.1 hbd
        cases hbd; cases hM'
        unfold Instr.sliceBounds
        rcases bnd_run (P := P) (w := w) hH (copt_ov hT hhi) with ⟨k1, rfl⟩ | ⟨zh, k1, hHle, _⟩
        · rw [k1]
          rcases bnd_run (P := P) (w := w) hL (copt_ov hT hlo) with ⟨k2, rfl⟩ | ⟨zl, k2, hLle, rl⟩
          · rw [k2]; simp
          · rw [k2]; simp [rl]
        · rw [k1]
          have rh : ∀ code, (Instr.sliceBound zh cap code).run P w = .ok h w := by
            have hcap' : bnd (evo T hi') len cap = some h := by
              unfold bnd at hH ⊢
              split at hH
              · rename_i hz0; rcases copt_ov (m := m) hT hhi with ⟨q1, q2⟩ | ⟨_, _, q1, _⟩
                · rw [k1] at q2; cases q2
                · rw [hz0] at q1; cases q1
              · split at hH
                · split at hH
                  · split at hH
                    · rename_i hle; cases hH
                      have := Nat.le_of_ble_eq_true hle
                      simp [Nat.ble_eq_true_of_le (show h ≤ cap by omega)]
                    · cases hH
                  · cases hH
                · cases hH
            rcases bnd_run (P := P) (w := w) hcap' (copt_ov hT hhi) with ⟨k3, _⟩ | ⟨zh', k3, _, rh⟩
            · rw [k1] at k3; cases k3
            · rw [k1] at k3; cases k3; exact rh
          rcases bnd_run (P := P) (w := w) hL (copt_ov hT hlo) with ⟨k2, rfl⟩ | ⟨zl, k2, hLle, rl⟩
          · rw [k2]; simp [rh]
          · rw [k2]; simp [rh, rl]
      refine ⟨_, go _ _ _ l h cap e1 r1', ?_⟩
      have key : SR m (.slu b (o + l * ez) (h - l) ez) (.slice (some (if cap = l then off else Addr.add off (l * ez))) (h - l) (cap - l)) := by
        by_cases hcl : cap = l
        · rw [if_pos hcl]
          exact SR.slu _ _ _ _ mi _ _ hm (by omega) (.inr ⟨by omega, by omega⟩) (.inl (by omega))
        · rw [if_neg hcl]
          have hoff : off = (⟨mi.c, mi.base + o, none⟩ : Addr) := by
            rcases c2 with h' | h'
            · exact h'
            · omega
          rw [hoff, Addr.add_lit]
          refine SR.slu _ _ _ _ mi _ _ hm (by omega) (.inl (by rw [Nat.add_assoc])) (.inr ?_)
          have e : (cap - l) * ez + l * ez = cap * ez := by rw [← Nat.add_mul]; congr 1; omega
          rcases c3 with c3 | c3 <;> omega
      rw [ite_some]; exact key.vr
    · rename_i mxv hmn
      obtain ⟨⟨l, h, M⟩, hbd, hv⟩ := andThen_eq.1 hv
      rw [hmn] at hmx'
      obtain ⟨zm, hzm, hzv⟩ : ∃ zm, mx.map a.eval = some zm ∧ VR m mxv zm := by
        rcases hmx' with ⟨h, _⟩ | ⟨u, z', h1, h2, h3⟩
        · cases h
        · cases h1; exact ⟨z', h2, h3⟩
      -- bounds within len are bounds within cap
      unfold bounds at hbd
      obtain ⟨M', hM', hbd⟩ := andThen_eq.1 hbd
      obtain ⟨H', hH, hbd⟩ := andThen_eq.1 hbd
      obtain ⟨L', hL, hbd⟩ := andThen_eq.1 hbd
      cases hbd
      have hMle : M ≤ len := by
        rcases bnd_run (P := P) (w := w) (m := m) hM' (.inr ⟨_, zm, rfl, rfl, hzv⟩) with ⟨h, _⟩ | ⟨_, _, h, _⟩
        · cases h
        · exact h
      have hM2 : bnd (some mxv) cap cap = some M := by
        unfold bnd at hM' ⊢
        simp only at hM' ⊢
        split at hM'
        · split at hM'
          · split at hM'
            · cases hM'; simp [Nat.ble_eq_true_of_le (show M ≤ cap by omega)]
            · cases hM'
          · cases hM'
        · cases hM'
      have hb2 : bounds (evo T lo') (evo T hi') (some mxv) len cap = some (l, h, M) := by
        unfold bounds; rw [hM2, andThen_some, hH, andThen_some, hL, andThen_some]
      obtain ⟨r1, r2, r3, r4, _⟩ := bounds_run (P := P) (w := w) (isS := true) hb2 (copt_ov hT hlo) (copt_ov hT hhi) (.inr ⟨_, zm, rfl, rfl, hzv⟩) c1 (by rw [hzm] at hn'; exact hn')
      rw [← hzm] at r1
      refine ⟨_, go _ _ _ l h M e1 r1, ?_⟩
      rw [ite_some]
      split at hv
      · rename_i hz
        have hlen : len = 0 := by cases len with | zero => rfl | succ n => cases hz
        rw [outSlu_eq] at hv
        cases hv
        have hM0 : M = 0 := by omega
        have hl0 : l = 0 := by omega
        have hh0 : h = 0 := by omega
        subst hM0 hl0 hh0
        rw [if_pos rfl]
        exact (SR.slu b o 0 ez mi off 0 hm (Nat.le_refl _) (.inr ⟨rfl, rfl⟩) (.inl rfl)).vr
      · rename_i hnz
        have hlen : len ≠ 0 := by intro e; subst e; simp [isZero] at hnz
        have hoff : off = (⟨mi.c, mi.base + o, none⟩ : Addr) := by
          rcases c2 with h' | h'
          · exact h'
          · exact absurd h'.1 hlen
        subst hoff
        exact slKnown_ok hm r3 hv
  · cases hv
theorem sim_slArr {t : TypeId} {n z : Nat} {x : Operand} {y : Opd} {lo hi mx : Option Operand} {lo' hi' mx' : Option Opd}
    (ht : (∃ e, P.underlying t = some (.array n e) ∧ csize P e = some z) ∨ ∃ arr e, P.underlying t = some (.pointer arr) ∧ P.underlying arr = some (.array n e) ∧ csize P e = some z)
    (hn : mx = none ∨ hi ≠ none) (hT : TR m T a.tmps) (hx : copd x = some y)
    (hlo : copt lo = some lo') (hhi : copt hi = some hi') (hmx : copt mx = some mx') (hv : qSlArr n z y lo' hi' mx' T σ = some v) :
    QRuns P a.eval ⟨dst, .slice t x lo hi mx, type, pos, after, guard⟩ w m v := by
  have hx' := copd_ok hT hx
  have hn' : mx.map a.eval = none ∨ hi.map a.eval ≠ none := by
    rcases hn with rfl | h
    · exact .inl rfl
    · refine .inr ?_; cases hi <;> simp_all
  unfold qSlArr vSlArr at hv
  split at hv
  · rename_i b o hn1
    rw [hn1] at hx'
    obtain ⟨mi, hm, e1⟩ := hx'.ptr
    obtain ⟨⟨l, h, M⟩, hbd, hv⟩ := andThen_eq.1 hv
    obtain ⟨r1, r2, r3, r4, _⟩ := bounds_run (P := P) (w := w) (isS := false) hbd (copt_ov hT hlo) (copt_ov hT hhi) (copt_ov hT hmx) (Nat.le_refl _) hn'
    refine ⟨_, ?_, slKnown_ok hm r3 hv⟩
    rcases ht with ⟨e, h1, h2⟩ | ⟨arr, e, h1, h2, h3⟩
    · simp [execOp, e1, Instr.sliceAt, run_underlying h1, Instr.sureAddr, r1, sizeOf_run h2]
    · simp [execOp, e1, Instr.sliceAt, Instr.slice, run_underlying h1, run_underlying h2, asAddr, r1, sizeOf_run h3]
  · cases hv
end
end Go.Am
