/-
  Structs and arrays compared; and all operations that change nothing, in one word. Conditions: none.
-/
import Derived.Test.YtkgjghlklniaeaaK8
namespace Go.Am
section
variable {P : Program} {w0 w : World} {m : Mp} {σ : S} {T : Tm} {a : Act} {v : AVal} {dst : Option Tmp} {type : TypeId} {pos : String} {after : Array Edge} {guard : Option (Nat × Bool)}
theorem bindSome {α β : Type} {o : Option α} {k : α → Option β} {b : β} : (o >>= k) = some b ↔ ∃ x, o = some x ∧ k x = some b := by cases o <;> simp
theorem simQ {o : Op} {q : QOp} (h : cop P o = some (.q q)) (hW : WR w0 m σ w) (hT : TR m T a.tmps) (hv : evalQ q T σ = some v) :
    QRuns P a.eval ⟨dst, o, type, pos, after, guard⟩ w m v := by
  cases o with
  | move x => simp [cop, Option.bind_eq_some_iff] at h; obtain ⟨y, hy, rfl⟩ := h; exact sim_mov (σ := σ) hT hy hv
  | assign x => simp [cop, Option.bind_eq_some_iff] at h; obtain ⟨y, hy, rfl⟩ := h; exact sim_assign (σ := σ) hT hy hv
  | pick c x y => simp [cop, Option.bind_eq_some_iff] at h; obtain ⟨c', hc, x', hx, y', hy, rfl⟩ := h; exact sim_pick (σ := σ) hT hc hx hy hv
  | nilCheck x => simp [cop, Option.bind_eq_some_iff] at h; obtain ⟨y, hy, rfl⟩ := h; exact sim_nilck (σ := σ) hT hy hv
  | unOp op t x => simp [cop, Option.bind_eq_some_iff] at h; obtain ⟨y, hy, rfl⟩ := h; exact sim_un (σ := σ) hT hy hv
  | extract x i => simp [cop, Option.bind_eq_some_iff] at h; obtain ⟨y, hy, rfl⟩ := h; exact sim_extract (σ := σ) hT hy hv
  | load t x =>
    simp only [cop] at h
    split at h
    · rename_i ha; simp [Option.bind_eq_some_iff] at h; obtain ⟨n, hn, y, hy, rfl⟩ := h; exact sim_loadN hW hT ha hn hy hv
    · rename_i ha
      split at h
      · rename_i hu; simp [Option.bind_eq_some_iff] at h; obtain ⟨y, hy, rfl⟩ := h; exact sim_load1 hW hT (by simpa using ha) hu hy hv
      · cases h
  | binOp op t x y yt =>
    simp only [cop] at h
    split at h
    · cases h
    · split at h
      · rename_i hu; simp [Option.bind_eq_some_iff] at h; obtain ⟨x', hx, y', hy, rfl⟩ := h; exact sim_bin (σ := σ) (tk := .bool) hu hT hx hy hv
      · simp [Option.bind_eq_some_iff] at h; obtain ⟨x', hx, y', hy, rfl⟩ := h; exact sim_bin (σ := σ) (tk := .num) trivial hT hx hy hv
      · simp [Option.bind_eq_some_iff] at h; obtain ⟨x', hx, y', hy, rfl⟩ := h; exact sim_bin (σ := σ) (tk := .num) trivial hT hx hy hv
      · rename_i e hu; simp [Option.bind_eq_some_iff] at h; obtain ⟨x', hx, y', hy, rfl⟩ := h; exact sim_bin (σ := σ) (tk := .ptr) ⟨e, hu⟩ hT hx hy hv
      · rename_i e hu; simp [Option.bind_eq_some_iff] at h; obtain ⟨x', hx, y', hy, rfl⟩ := h; exact sim_bin (σ := σ) (tk := .sl) ⟨e, hu⟩ hT hx hy hv
      · cases h
  | convert s d x =>
    simp only [cop] at h
    split at h
    · rename_i ds k h1 h2; simp [Option.bind_eq_some_iff] at h; obtain ⟨y, hy, rfl⟩ := h; exact sim_toInt (σ := σ) (by rw [h1]; rfl) h2 hT hy hv
    · rename_i e h1 h2
      split at h
      · rename_i hu; simp [Option.bind_eq_some_iff] at h; obtain ⟨y, hy, rfl⟩ := h; exact sim_bytesStr hW h1 hu h2 hT hy hv
      · cases h
    · cases h
  | build t ps =>
    simp only [cop, bindSome] at h
    obtain ⟨z, hz, h⟩ := h
    split at h
    · rename_i fs hu
      split at h
      · rename_i hf; simp [Option.bind_eq_some_iff] at h; obtain ⟨l, hl, rfl⟩ := h; exact sim_buildS (σ := σ) hu hz hf hl hT hv
      · cases h
    · rename_i k e hu
      simp [Option.bind_eq_some_iff] at h
      obtain ⟨n, hn, l, hl, rfl⟩ := h; exact sim_buildA (σ := σ) hu hz hn hl hT hv
    · cases h
  | slice t x lo hi mx =>
    simp only [cop] at h
    split at h
    · rename_i e hu
      simp only [bindSome] at h
      obtain ⟨n, hn, h⟩ := h
      split at h
      · cases h
      · rename_i hc
        simp [Option.bind_eq_some_iff] at h; obtain ⟨y, hy, lo', hlo, hi', hhi, mx', hmx, rfl⟩ := h
        exact sim_slSl (σ := σ) hu hn (by cases mx <;> cases hi <;> simp_all) hT hy hlo hhi hmx hv
    · cases h
  | fieldAddr t x f =>
    simp only [cop] at h
    split at h
    · rename_i fs hu
      simp only [bindSome] at h
      obtain ⟨fd, hfd, n, hn, h⟩ := h
      split at h
      · cases h
      · rename_i h0; simp [Option.bind_eq_some_iff] at h; obtain ⟨y, hy, rfl⟩ := h; exact sim_fieldAddr (σ := σ) hu hfd hn h0 hT hy hv
    · cases h
  | indexAddr t x i =>
    simp only [cop] at h
    split at h
    · rename_i e hu; simp [Option.bind_eq_some_iff] at h; obtain ⟨n, hn, y, hy, i', hi, rfl⟩ := h; exact sim_ixSl (σ := σ) hu hn hT hy hi hv
    · cases h
  | call c =>
    simp only [cop] at h
    split at h
    · simp [Option.bind_eq_some_iff] at h
    · rename_i hc
      split at h
      · rename_i t x h1 h2
        split at h
        · rename_i hu; simp [Option.bind_eq_some_iff] at h; obtain ⟨y, hy, rfl⟩ := h; exact sim_lenStr (σ := σ) hc h1 h2 hu hT hy hv
        · rename_i e hu; simp [Option.bind_eq_some_iff] at h; obtain ⟨y, hy, rfl⟩ := h; exact sim_lenSl (σ := σ) hc h1 h2 hu hT hy hv
        · cases h
      · cases h
    · rename_i hc
      split at h
      · rename_i x xs h2; simp [Option.bind_eq_some_iff] at h; obtain ⟨y, hy, ys, hys, rfl⟩ := h; exact sim_max (σ := σ) hc h2 hT hy hys hv
      · cases h
    all_goals (
      simp only [cop, bindSome, pure, Option.some.injEq, reduceCtorEq, and_false, exists_false] at h
      repeat' first
        | contradiction
        | (cases h; done)
        | (obtain ⟨_, _, h⟩ := h)
        | split at h
        | (simp only [bindSome, pure, Option.some.injEq, reduceCtorEq, and_false, exists_false] at h))
  | _ =>
    simp only [cop, bindSome, pure, Option.some.injEq, reduceCtorEq, and_false, exists_false] at h
    repeat' first
      | contradiction
      | (cases h; done)
      | (obtain ⟨_, _, h⟩ := h)
      | split at h
      | (simp only [bindSome, pure, Option.some.injEq, reduceCtorEq, and_false, exists_false] at h)
end
end Go.Am
