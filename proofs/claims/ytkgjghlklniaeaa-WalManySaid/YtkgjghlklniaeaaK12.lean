/-
  Bytes of a string; stores, copies, appends. Conditions: none.
-/
import Derived.Test.YtkgjghlklniaeaaK11
namespace Go.Am
open Go.RowKit (Below)
section
variable {P : Program} {w0 w : World} {m : Mp} {σ : S} {T : Tm} {a : Act} {v : AVal} {dst : Option Tmp} {type : TypeId} {pos : String} {after : Array Edge} {guard : Option (Nat × Bool)} {blk : Blk} {mk : Pos → AVal}
theorem bytesV_get (s : List Nat) (i : Nat) : (bytesV s)[i]? = (s[i]?).map fun c => AVal.int .u8 (.ofNat c) := by
  induction s generalizing i with
  | nil => simp [bytesV]
  | cons c s ih => cases i with
    | zero => simp [bytesV]
    | succ i => simp [bytesV, ih]
theorem bytesV_rel (b : ByteArray) : SRs m (bytesV (b.data.toList.map (·.toNat))) (b.data.map fun c => Value.int .u8 (c.toNat : Int)).toList := by
  refine SRs.of_get ?_ ?_
  · have : ∀ s : List Nat, (bytesV s).length = s.length := by intro s; induction s <;> simp [bytesV, *]
    rw [this]; simp
  · intro i v x hv hx
    rw [bytesV_get, List.getElem?_map] at hv
    rw [Array.getElem?_toList, Array.getElem?_map, ← Array.getElem?_toList] at hx
    cases hg : b.data.toList[i]? with
    | none => rw [hg] at hv; simp at hv
    | some c =>
      rw [hg] at hv hx
      simp only [Option.map_some, Option.some.injEq] at hv hx
      subst hv hx
      exact SR.int _ _
theorem simA {o : Op} {q : AOp} (h : cop P o = some (.a q)) (hW : WR w0 m σ w) (hT : TR m T a.tmps) (hv : evalA q T = some (blk, mk)) :
    ARuns P a.eval ⟨dst, o, type, pos, after, guard⟩ w0 w m σ blk mk := by
  cases o with
  | alloc t => simp [cop, Option.bind_eq_some_iff] at h; obtain ⟨z, hz, rfl⟩ := h; exact a_alloc (T := T) hW hz hv
  | box t x => simp [cop, Option.bind_eq_some_iff] at h; obtain ⟨y, hy, rfl⟩ := h; exact a_box hW hT hy hv
  | buildSlice t n ps =>
    simp only [cop] at h
    split at h
    · rename_i e hu
      simp only [bindSome] at h
      obtain ⟨s, hs, z, hz, h⟩ := h
      split at h
      · rename_i hc
        simp [Option.bind_eq_some_iff] at h
        obtain ⟨l, hl, rfl⟩ := h
        simp only [Bool.and_eq_true, decide_eq_true_eq] at hc
        exact a_bslice hu hs hz ⟨hc.1.1, hc.1.2, hc.2⟩ hl hW hT hv
      · cases h
    · cases h
  | makeSlice t l c =>
    simp only [cop] at h
    split at h
    · rename_i e hu
      simp only [bindSome] at h
      obtain ⟨i, hi, z, hz, h⟩ := h
      split at h
      · rename_i hc
        simp [Option.bind_eq_some_iff] at h
        obtain ⟨l', hl, c', hc', rfl⟩ := h
        simp only [Bool.and_eq_true, decide_eq_true_eq] at hc
        exact a_mkslice hu hi hz ⟨hc.1.1, hc.1.2, hc.2⟩ hW hT hl hc' hv
      · cases h
    · cases h
  | _ =>
    simp only [cop, bindSome, pure, Option.some.injEq, reduceCtorEq, and_false, exists_false] at h
    repeat' first
      | contradiction
      | (cases h; done)
      | (obtain ⟨_, _, h⟩ := h)
      | split at h
      | (simp only [bindSome, pure, Option.some.injEq, reduceCtorEq, and_false, exists_false] at h)
end
end Go.Am
