/- Connections: lists of segments held against one another. -/
import Derived.Test.YtdenjmdngmmodaaCnL
namespace Go.Proofs.Ytdenjmdngmmodaa
open Go.RowKit
set_option linter.unusedVariables false
set_option linter.unusedSimpArgs false
set_option maxRecDepth 200000
set_option maxHeartbeats 600000

theorem sgC_at (l : List Sg) (i : Nat) (h : i < l.length) (j : Nat) (hj : j < 7) : (sgC l)[i * 7 + j]? = l[i].cells[j]? := by
  induction l generalizing i with
  | nil => simp at h
  | cons a r ih =>
    have e : sgC (a :: r) = a.cells.toList ++ sgC r := by rw [sgC, List.flatMap_cons]; rfl
    have e7 : a.cells.toList.length = 7 := rfl
    rw [e]
    cases i with
    | zero => rw [List.getElem?_append_left (by rw [e7]; omega)]; simp
    | succ i =>
      rw [List.getElem?_append_right (by rw [e7]; omega), e7, show (i + 1) * 7 + j - 7 = i * 7 + j by omega, ih i (by simpa using h)]
      simp
theorem addr_addj (a : Addr) (j : Nat) (h : j ≠ 0) : a.add j = ⟨a.block, a.off + j, none⟩ := by unfold Addr.add; rw [if_neg h]
/-- The cells of the k-th segment of a list, as the walk asks for them. -/
structure SgAt (w : World) (a : Addr) (g : Sg) : Prop where
  c0 : w.cell? a = some (.int .i64 g.src)
  c1 : w.cell? ⟨a.block, a.off + 1, none⟩ = some (.int .i64 g.dst)
  c2 : w.cell? ⟨a.block, a.off + 2, none⟩ = some (.int .i64 g.seq)
  c3 : w.cell? ⟨a.block, a.off + 3, none⟩ = some (.int .i64 g.ack)
  c4 : w.cell? ⟨a.block, a.off + 4, none⟩ = some (.int .i64 g.flags)
  c5 : w.cell? ⟨a.block, a.off + 5, none⟩ = some (.int .i64 g.space)
  c6 : w.cell? ⟨a.block, a.off + 6, none⟩ = some (.string g.data)
theorem SgAt.of {w : World} {A : Option Addr} {l : List Sg} (h : Rd w A (sgC l)) (k : Nat) (hk : k < l.length) : ∃ ad, A = some ad ∧ SgAt w (ad.add (k * 7)) l[k] := by
  have q : ∀ j u, l[k].cells[j]? = some u → ∃ ad, A = some ad ∧ w.cell? ((ad.add (k * 7)).add j) = some u := fun j u hu => by
    have hj : j < 7 := by have := (Array.getElem?_eq_some_iff.1 hu).1; simpa using this
    obtain ⟨ad, e, hc⟩ := h (k * 7 + j) u ((sgC_at l k hk j hj).trans hu)
    exact ⟨ad, e, by rw [addr_add]; exact hc⟩
  obtain ⟨ad, rfl, h0⟩ := q 0 _ (Sg.g0 _)
  have q' : ∀ j u, j ≠ 0 → l[k].cells[j]? = some u → w.cell? ⟨(ad.add (k * 7)).block, (ad.add (k * 7)).off + j, none⟩ = some u := fun j u hj hu => by
    obtain ⟨ad', e, hc⟩ := q j u hu
    cases e
    rw [addr_addj _ _ hj] at hc
    exact hc
  exact ⟨ad, rfl, by rw [show (ad.add (k * 7)).add 0 = ad.add (k * 7) from by unfold Addr.add; simp] at h0; exact h0, q' 1 _ (by omega) (Sg.g1 _), q' 2 _ (by omega) (Sg.g2 _), q' 3 _ (by omega) (Sg.g3 _), q' 4 _ (by omega) (Sg.g4 _), q' 5 _ (by omega) (Sg.g5 _), q' 6 _ (by omega) (Sg.g6 _)⟩
theorem sameSegments_ok (l : List Sg) (v1 v2 : Value) (B1 B2 : Nat) (w : World) (h1 : SgL B1 l v1 w) (h2 : SgL B2 l v2 w) (hl : l.length ≤ 1000) :
    Calls Try.prog 30 #[v1, v2] w fun e w' => e = .returned (.bool true) ∧ ∃ n, w' = w.drewN n := by
  obtain ⟨A1, c1, rfl, hc1, hr1, -⟩ := h1
  obtain ⟨A2, c2, rfl, hc2, hr2, -⟩ := h2
  have hlI : (l.length : Int) ≤ 1000 := by omega
  have hc1I : (l.length : Int) ≤ c1 := by omega
  have hc2I : (l.length : Int) ≤ c2 := by omega
  go_enter Try.func30, Try.ntmps30
  go_wp2_with fail
  go_loopw [5] (fun i wr => ∃ k n : Nat, i = .int .i64 k ∧ k ≤ l.length ∧ wr = w.drewN n) (fun i _ => (l.length - (intOf i).toNat))
  case atStart => exact ⟨0, 0, rfl, Nat.zero_le _, rfl⟩
  case round =>
    obtain ⟨k, n, rfl, hk, rfl⟩ := hrel
    by_cases hlt : k < l.length
    · have hltI : (k : Int) < l.length := by omega
      obtain ⟨ad1, rfl, q1⟩ := SgAt.of hr1 k hlt
      obtain ⟨ad2, rfl, q2⟩ := SgAt.of hr2 k hlt
      obtain ⟨g, hg⟩ : ∃ g, l[k] = g := ⟨_, rfl⟩
      rw [hg] at q1 q2
      clear hg
      obtain ⟨c0, c1', c2', c3, c4, c5, c6⟩ := q1
      obtain ⟨d0, d1, d2, d3, d4, d5, d6⟩ := q2
      go_wp2_with fail
      go_quiet (fail)
      go_wp2_with fail
      go_roundw
      case rel => exact ⟨k + 1, n + nq, by go_num, by omega, rfl⟩
      case measure => simp [intOf]; omega
    · obtain rfl : k = l.length := by omega
      go_wp2_with fail
      go_ret
      exact ⟨rfl, n, rfl⟩
end Go.Proofs.Ytdenjmdngmmodaa
