/- Connections: which ones are right. | Connections: what is acknowledged. | Connections: a segment is taken. | Connections: a segment without an end is taken. -/
import Derived.Test.YtdenjmdngmmodaaKc04
namespace Go.Proofs.Ytdenjmdngmmodaa
open Go.RowKit
set_option linter.unusedVariables false
set_option linter.unusedSimpArgs false
set_option maxRecDepth 20000
set_option maxHeartbeats 600000

theorem qs {P : Program} {f : FuncId} {args : Array Value} {w : World} {n : Nat} {v : Value}
    (h : Calls P f args (w.drewN n) fun e w' => e = .returned v ∧ w.drewN n = w') : Calls P f args (w.drewN n) fun e w'' => e = .returned v ∧ ∃ m, w'' = w.drewN m :=
  h.mono fun _ _ ⟨he, hm⟩ => ⟨he, n, hm.symm⟩
theorem oneIf_ok (b : Bool) (w : World) : Calls Try.prog 107 #[.bool b] w fun e w' => e = .returned (.int .i64 (b.toNat : Nat)) ∧ w = w' := by
  cases b
  all_goals
    go_enter Try.func107, Try.ntmps107
    go_wp2
    go_ret
    exact ⟨rfl, rfl⟩
structure CnOK (c : Cn) : Prop where
  mac : c.mac.size = 6
  ip : c.ip < 4294967296
  port : c.port < 65536
  dst : c.dst < 4294967296
  una : c.una < 4294967296
  nxt : c.nxt < 4294967296
  want : c.want < 4294967296
  inn : c.inn.size ≤ 300
  out : c.out.size ≤ 300
  mode : (c.st = 1 ∧ c.fin = false ∧ c.out = ⟨#[]⟩ ∧ c.inn = ⟨#[]⟩ ∧ bhd c.nxt c.una = 1) ∨ (c.st = 2 ∧ c.fin = false ∧ c.out = ⟨#[]⟩ ∧ bhd c.nxt c.una = 0) ∨
    (c.st = 3 ∧ c.fin = true ∧ bhd c.nxt c.una = c.out.size + 1) ∨ (c.st = 4 ∧ c.fin = false ∧ c.out = ⟨#[]⟩ ∧ bhd c.nxt c.una = 0)
theorem bhd_lt (a b : Nat) : bhd a b < 4294967296 := by unfold bhd; omega
theorem ConnOK_true (c : Cn) (h : CnOK c) (w : World) :
    Calls Try.prog 47 #[.agg c.cells] w fun e w' => e = .returned (.bool true) ∧ Below w.heap.size w w' := by
  obtain ⟨mac, ip, port, dst, st, una, nxt, want, inn, out, fin⟩ := c
  obtain ⟨h1, h2, h3, h4, h5, h6, h7, h8, h9, h10⟩ := h
  dsimp only at h1 h2 h3 h4 h5 h6 h7 h8 h9 h10
  have hm := mac_true h1
  have g8 : (inn.size : Int) ≤ 300 := by omega
  have g9 : (out.size : Int) ≤ 300 := by omega
  have HK := Lib.hid (And.intro h2 (And.intro h3 (And.intro h4 (And.intro h5 (And.intro h6 h7)))))
  clear h1 h2 h3 h4 h5 h6 h7 h8 h9
  rcases h10 with ⟨rfl, rfl, rfl, rfl, hb⟩ | ⟨rfl, rfl, rfl, hb⟩ | ⟨rfl, rfl, hb⟩ | ⟨rfl, rfl, rfl, hb⟩
  all_goals
    have HB := Lib.hid hb
    clear hb
    go_enter Try.func47, Try.ntmps47
    go_wp2_with fail
    refine (macOK_ok mac _).mono ?_
    rintro e w1 ⟨rfl, rfl⟩
    rw [hm]
    go_wp2_with fail
    refine (isAddress_ok ip HK.out.1 _).mono ?_
    rintro e w1 ⟨rfl, rfl⟩
    go_wp2_with fail
    refine (isPort_ok port HK.out.2.1 _).mono ?_
    rintro e w1 ⟨rfl, rfl⟩
    go_wp2_with fail
    refine (isAddress_ok dst HK.out.2.2.1 _).mono ?_
    rintro e w1 ⟨rfl, rfl⟩
    go_wp2_with fail
    refine (within_ok _ 1 4 _).mono ?_
    rintro e w1 ⟨rfl, rfl⟩
    go_wp2_with fail
    refine (isAddress_ok una HK.out.2.2.2.1 _).mono ?_
    rintro e w1 ⟨rfl, rfl⟩
    go_wp2_with fail
    refine (isAddress_ok nxt HK.out.2.2.2.2.1 _).mono ?_
    rintro e w1 ⟨rfl, rfl⟩
    go_wp2_with fail
    refine (isAddress_ok want HK.out.2.2.2.2.2 _).mono ?_
    rintro e w1 ⟨rfl, rfl⟩
    go_wp2_with fail
    have hlt := bhd_lt nxt una
    go_quiet ((first | exact qs (behind_ok nxt una HK.out.2.2.2.2.1 HK.out.2.2.2.1 _) | exact qs (oneIf_ok _ _)))
    try rw [HB.out]
    go_wp2
    go_ret
    exact ⟨by simp, below_drewN ((Below.refl _ _).alloc (Nat.le_refl _) _) _⟩
end Go.Proofs.Ytdenjmdngmmodaa
namespace Go.Proofs.Ytdenjmdngmmodaa
open Go.RowKit
set_option linter.unusedVariables false
set_option linter.unusedSimpArgs false
set_option maxRecDepth 20000
set_option maxHeartbeats 600000

theorem grown_own {a w : World} {g : Nat} (h : a.grownBy w (some g)) (k : Nat) (u : Value) : a.grownBy (w.setCell ⟨g, k, none⟩ u) (some g) :=
  ⟨h.os, h.tape, h.output, by simpa [World.setCell] using h.size, fun i hi hne => (Below.heap_setCell w ⟨g, k, none⟩ u i (fun e => hne (by rw [e]))).trans (h.block i hi hne)⟩
theorem grown_drewN {a w : World} {row : Option Nat} (h : a.grownBy w row) (n : Nat) : a.grownBy (w.drewN n) row := ⟨h.os, h.tape, h.output, h.size, h.block⟩
theorem blk_drewN {w : World} {g : Nat} {b : Obj} (h : w.heap[g]? = some b) (n : Nat) : (w.drewN n).heap[g]? = some b := h

/-- Block g holds these cells, its own. -/
def acked (c : Cn) (ack : Nat) : Cn :=
  if 1 ≤ bhd ack c.una ∧ bhd ack c.una ≤ bhd c.nxt c.una then
    if c.st = 1 then { c with una := ack, st := 2 }
    else if c.out.size < bhd ack c.una then { c with una := ack, out := ⟨#[]⟩, st := 4, fin := false }
    else { c with una := ack, out := c.out.extract (bhd ack c.una) c.out.size }
  else c
theorem behind_is (a b n : Nat) (ha : a < 4294967296) (hb : b < 4294967296) (hn : bhd a b = n) (w : World) : Calls Try.prog 81 #[.int .i64 a, .int .i64 b] w fun e w' => e = .returned (.int .i64 n) ∧ w = w' := by
  subst hn
  exact behind_ok a b ha hb w
theorem acknowledge_ok (c : Cn) (g ack : Nat) (w : World) (hb : w.heap[g]? = some (.cells c.cells 48 (0, 0))) (ha : ack < 4294967296) (hu : c.una < 4294967296) (hn : c.nxt < 4294967296) (ho : c.out.size ≤ 300) :
    Calls Try.prog 121 #[.pointer (some ⟨g, 0, none⟩), .int .i64 ack] w fun e w' => (∃ v, e = .returned v) ∧ w'.heap[g]? = some (.cells (acked c ack).cells 48 (0, 0)) ∧ w.grownBy w' (some g) := by
  obtain ⟨mac, ip, port, dst, st, una, nxt, want, inn, out, fin⟩ := c
  dsimp only at *
  have hlt := bhd_lt ack una
  have hlt2 := bhd_lt nxt una
  obtain ⟨far, hfar⟩ : ∃ n, bhd ack una = n := ⟨_, rfl⟩
  obtain ⟨sent, hsent⟩ : ∃ n, bhd nxt una = n := ⟨_, rfl⟩
  rw [hfar] at hlt
  rw [hsent] at hlt2
  have HF := Lib.hid (And.intro hfar hsent)
  clear hfar hsent
  have c0 := blk_cell hb 0
  have c1 := blk_cell hb 1
  have c2 := blk_cell hb 2
  have c3 := blk_cell hb 3
  have c4 := blk_cell hb 4
  have c5 := blk_cell hb 5
  have c6 := blk_cell hb 6
  have c7 := blk_cell hb 7
  have c8 := blk_cell hb 8
  have c9 := blk_cell hb 9
  have c10 := blk_cell hb 10
  simp at c0 c1 c2 c3 c4 c5 c6 c7 c8 c9 c10
  have cf0 := blk_free hb 0
  have cf1 := blk_free hb 1
  have cf2 := blk_free hb 2
  have cf3 := blk_free hb 3
  have cf4 := blk_free hb 4
  have cf5 := blk_free hb 5
  have cf6 := blk_free hb 6
  have cf7 := blk_free hb 7
  have cf8 := blk_free hb 8
  have cf9 := blk_free hb 9
  have cf10 := blk_free hb 10
  have HK := Lib.hid (And.intro hb (And.intro ha (And.intro hu hn)))
  clear hb ha hu hn
  have hoI : (out.size : Int) ≤ 300 := by omega
  by_cases hA1 : 1 ≤ far
  · by_cases hA2 : far ≤ sent
    · have d1 : (1 : Int) ≤ far := by omega
      by_cases hs : st = 1
      · subst hs
        go_enter Try.func121, Try.ntmps121
        go_wp2_with fail
        refine (behind_is ack una far HK.out.2.1 HK.out.2.2.1 HF.out.1 _).mono ?_
        rintro e w1 ⟨rfl, rfl⟩
        go_wp2_with fail
        go_quiet ((first | exact qs (behind_is nxt una sent HK.out.2.2.2 HK.out.2.2.1 HF.out.2 _) | exact qs (within_ok _ _ _ _)))
        go_wp2
        refine bodyPost_ret (results_none rfl _ _ _) rfl ?_
        refine ⟨⟨_, rfl⟩, ?_, grown_own (grown_own (grown_drewN (World.grownBy.refl w _) _) _ _) _ _⟩
        rw [blk_set (blk_set (blk_drewN HK.out.1 _) _ _) _ _]
        simp [acked, HF.out.1, HF.out.2, hA1, hA2]
      · have hsI : ((st : Int) == 1) = false := by simp; omega
        by_cases ho2 : out.size < far
        · have d2 : (out.size : Int) < far := by omega
          go_enter Try.func121, Try.ntmps121
          go_wp2_with fail
          refine (behind_is ack una far HK.out.2.1 HK.out.2.2.1 HF.out.1 _).mono ?_
          rintro e w1 ⟨rfl, rfl⟩
          go_wp2_with fail
          go_quiet ((first | exact qs (behind_is nxt una sent HK.out.2.2.2 HK.out.2.2.1 HF.out.2 _) | exact qs (within_ok _ _ _ _)))
          go_wp2
          refine bodyPost_ret (results_none rfl _ _ _) rfl ?_
          refine ⟨⟨_, rfl⟩, ?_, grown_own (grown_own (grown_own (grown_own (grown_drewN (World.grownBy.refl w _) _) _ _) _ _) _ _) _ _⟩
          rw [blk_set (blk_set (blk_set (blk_set (blk_drewN HK.out.1 _) _ _) _ _) _ _) _ _]
          simp [acked, HF.out.1, HF.out.2, hA1, hA2, hs, ho2]
        · have d2 : ¬ (out.size : Int) < far := by omega
          go_enter Try.func121, Try.ntmps121
          go_wp2_with fail
          refine (behind_is ack una far HK.out.2.1 HK.out.2.2.1 HF.out.1 _).mono ?_
          rintro e w1 ⟨rfl, rfl⟩
          go_wp2_with fail
          go_quiet ((first | exact qs (behind_is nxt una sent HK.out.2.2.2 HK.out.2.2.1 HF.out.2 _) | exact qs (within_ok _ _ _ _)))
          go_wp2
          refine bodyPost_end (results_none rfl _ _ _) rfl ?_
          refine ⟨⟨_, rfl⟩, ?_, grown_own (grown_own (grown_drewN (World.grownBy.refl w _) _) _ _) _ _⟩
          rw [blk_set (blk_set (blk_drewN HK.out.1 _) _ _) _ _]
          simp [acked, HF.out.1, HF.out.2, hA1, hA2, hs, ho2]
    · have d1 : (1 : Int) ≤ far := by omega
      go_enter Try.func121, Try.ntmps121
      go_wp2_with fail
      refine (behind_is ack una far HK.out.2.1 HK.out.2.2.1 HF.out.1 _).mono ?_
      rintro e w1 ⟨rfl, rfl⟩
      go_wp2_with fail
      go_quiet ((first | exact qs (behind_is nxt una sent HK.out.2.2.2 HK.out.2.2.1 HF.out.2 _) | exact qs (within_ok _ _ _ _)))
      go_wp2
      refine bodyPost_ret (results_none rfl _ _ _) rfl ?_
      exact ⟨⟨_, rfl⟩, by rw [blk_drewN HK.out.1 _]; simp [acked, HF.out.1, HF.out.2, hA1, hA2], grown_drewN (World.grownBy.refl w _) _⟩
  · have d1 : decide ((1 : Int) ≤ far) = false := by simp; omega
    go_enter Try.func121, Try.ntmps121
    go_wp2_with fail
    refine (behind_is ack una far HK.out.2.1 HK.out.2.2.1 HF.out.1 _).mono ?_
    rintro e w1 ⟨rfl, rfl⟩
    go_wp2_with fail
    go_quiet ((first | exact qs (behind_is nxt una sent HK.out.2.2.2 HK.out.2.2.1 HF.out.2 _) | exact qs (within_ok _ _ _ _)))
    go_wp2
    refine bodyPost_ret (results_none rfl _ _ _) rfl ?_
    exact ⟨⟨_, rfl⟩, by rw [blk_drewN HK.out.1 _]; simp [acked, HF.out.1, HF.out.2, hA1], grown_drewN (World.grownBy.refl w _) _⟩
end Go.Proofs.Ytdenjmdngmmodaa
namespace Go.Proofs.Ytdenjmdngmmodaa
open Go.RowKit
set_option linter.unusedVariables false
set_option linter.unusedSimpArgs false
set_option maxRecDepth 200000
set_option maxHeartbeats 600000

def SgL (B : Nat) (l : List Sg) (v : Value) (w : World) : Prop := ∃ A c, v = .slice A l.length c ∧ l.length ≤ c ∧ Rd w A (l.flatMap (·.cells.toList)) ∧ ∀ ad, A = some ad → B ≤ ad.block ∧ ad.block < w.heap.size
theorem SgL.nil (B : Nat) (w : World) : SgL B [] (.slice none 0 0) w := ⟨none, 0, rfl, Nat.le_refl _, Rd.nil, fun ad e => by cases e⟩
theorem OneSg.toL {B : Nat} {g : Sg} {v : Value} {w : World} (h : OneSg B g v w) : SgL B [g] v w := by
  obtain ⟨b, h1, h2, h3⟩ := h
  exact ⟨some ⟨b, 0, none⟩, 1, h1, Nat.le_refl _, by simpa using Rd.block h3 0, fun ad e => by cases e; exact ⟨h2, (Array.getElem?_eq_some_iff.1 h3).1⟩⟩
theorem SgL.more {B B' : Nat} {l : List Sg} {v : Value} {w : World} (h : SgL B l v w) (hB : B' ≤ B) : SgL B' l v w := by
  obtain ⟨A, c, h1, h2, h3, h4⟩ := h
  exact ⟨A, c, h1, h2, h3, fun ad e => ⟨Nat.le_trans hB (h4 ad e).1, (h4 ad e).2⟩⟩
theorem SgL.below {B : Nat} {l : List Sg} {v : Value} {w w' : World} (h : SgL B l v w) (hb : LeB w w') : SgL B l v w' := by
  obtain ⟨A, c, h1, h2, h3, h4⟩ := h
  exact ⟨A, c, h1, h2, h3.below hb (Nat.le_refl _), fun ad e => ⟨(h4 ad e).1, Nat.lt_of_lt_of_le (h4 ad e).2 hb.size⟩⟩

theorem bits_and (f : Nat) (hf : f < 32) (k : Nat) (hk : k ∈ [1, 2, 4, 16]) : (bits .and .i64 (f : Int) (k : Int) = 0 ∧ Nat.land f k = 0) ∨ (bits .and .i64 (f : Int) (k : Int) = k ∧ Nat.land f k = k) := by
  have h : ∀ f : Nat, f < 32 → ∀ k ∈ [1, 2, 4, 16], (bits .and .i64 (f : Int) ((k : Nat) : Int) = 0 ∧ Nat.land f k = 0) ∨ (bits .and .i64 (f : Int) ((k : Nat) : Int) = ((k : Nat) : Int) ∧ Nat.land f k = k) := by decide +kernel
  exact h f hf k hk
theorem acked_OK {c : Cn} (h : CnOK c) {ack : Nat} (ha : ack < 4294967296) : CnOK (acked c ack) := by
  have h5 := h.una
  have h6 := h.nxt
  have h9 := h.out
  unfold acked
  split
  · rename_i hA
    rcases h.mode with ⟨m1, m2, m3, m4, m5⟩ | ⟨m1, m2, m3, m5⟩ | ⟨m1, m2, m5⟩ | ⟨m1, m2, m3, m5⟩
    · rw [if_pos m1]
      exact ⟨h.mac, h.ip, h.port, h.dst, ha, h.nxt, h.want, h.inn, h.out, .inr (.inl ⟨rfl, m2, m3, by unfold bhd at *; simp only; omega⟩)⟩
    · omega
    · rw [if_neg (by omega)]
      split
      · exact ⟨h.mac, h.ip, h.port, h.dst, ha, h.nxt, h.want, h.inn, by show 0 ≤ 300; omega, .inr (.inr (.inr ⟨rfl, rfl, rfl, by unfold bhd at *; simp only; omega⟩))⟩
      · exact ⟨h.mac, h.ip, h.port, h.dst, ha, h.nxt, h.want, h.inn, by simp; omega, .inr (.inr (.inl ⟨m1, m2, by simp only [ByteArray.size_extract]; unfold bhd at *; omega⟩))⟩
    · omega
  · exact h
def takeC (c : Cn) (g : Sg) : Cn × List Sg :=
  if c.st = 4 then (c, [])
  else if Nat.land g.flags 4 ≠ 0 then (if g.seq = c.want then { c with st := 4, inn := ⟨#[]⟩, out := ⟨#[]⟩, fin := false, una := c.nxt } else c, [])
  else if Nat.land g.flags 2 ≠ 0 then (c, [if c.st = 1 ∧ c.want = onw g.seq 1 then ⟨80, c.port, c.una, c.want, 18, 1000, ⟨#[]⟩⟩ else ⟨80, c.port, c.nxt, c.want, 16, 1000, ⟨#[]⟩⟩])
  else if Nat.land g.flags 16 = 0 then (c, [])
  else if (acked c g.ack).st = 1 ∨ (acked c g.ack).st = 4 ∨ (g.data = ⟨#[]⟩ ∧ Nat.land g.flags 1 = 0) then (acked c g.ack, [])
  else if g.seq = (acked c g.ack).want ∧ (acked c g.ack).inn.size + g.data.size ≤ 300 then
    ({ acked c g.ack with inn := (acked c g.ack).inn ++ g.data, want := onw (acked c g.ack).want (g.data.size + Nat.land g.flags 1) }, [⟨80, (acked c g.ack).port, (acked c g.ack).nxt, onw (acked c g.ack).want (g.data.size + Nat.land g.flags 1), 16, 1000, ⟨#[]⟩⟩])
  else (acked c g.ack, [⟨80, (acked c g.ack).port, (acked c g.ack).nxt, (acked c g.ack).want, 16, 1000, ⟨#[]⟩⟩])
/-- What a method of a connection leaves: its block, the list that it answers. -/
def TkRet (w : World) (b : Nat) (r : Cn × List Sg) (e : Ending) (w' : World) : Prop := ∃ v, e = .returned v ∧ SgL w.heap.size r.2 v w' ∧ w'.heap[b]? = some (.cells r.1.cells 48 (0, 0)) ∧ w.grownBy w' (some b)
theorem onward_is (a n t : Nat) (ha : a < 4294967296) (hn : n ≤ 1000000) (ht : onw a n = t) (w : World) : Calls Try.prog 119 #[.int .i64 a, .int .i64 n] w fun e w' => e = .returned (.int .i64 t) ∧ w = w' := by
  subst ht
  exact onward_ok a n ha hn w
theorem oneIf_t (w : World) : Calls Try.prog 107 #[.bool true] w fun e w' => e = .returned (.int .i64 1) ∧ w = w' := oneIf_ok true w
theorem oneIf_f (w : World) : Calls Try.prog 107 #[.bool false] w fun e w' => e = .returned (.int .i64 0) ∧ w = w' := oneIf_ok false w
theorem str_ne {s : ByteArray} (h : s ≠ ⟨#[]⟩) : s.toList.isEmpty = false := by
  rw [ByteArray.toList_eq]
  obtain ⟨d⟩ := s
  obtain ⟨l⟩ := d
  cases l with
  | nil => exact absurd rfl h
  | cons a r => rfl
/-- A region whose calls only answer, with these values. -/
def qphi (l : List (Nat × Value)) : Nat → Option Spec := fun i => (l.lookup i).map fun u => fun _ v _ => v = u
theorem qphi_st {l : List (Nat × Value)} {Le : World → World → Prop} : ∀ j sp x v w w', qphi l j = some sp → Le w w' → sp x v w → sp x v w' := by
  intro j sp x v w w' hj _ h
  unfold qphi at hj
  cases hl : l.lookup j with
  | none => rw [hl] at hj; cases hj
  | some u => rw [hl] at hj; cases hj; exact h
theorem cells_inn (c : Cn) (x : ByteArray) : c.cells.setIfInBounds 8 (.string x) = Cn.cells { c with inn := x } := rfl
theorem cells_want (c : Cn) (x : Nat) : c.cells.setIfInBounds 7 (.int .i64 x) = Cn.cells { c with want := x } := rfl
theorem Cn.g0 (c : Cn) : c.cells[0]? = some (.string c.mac) := rfl
theorem Cn.g1 (c : Cn) : c.cells[1]? = some (.int .i64 c.ip) := rfl
theorem Cn.g2 (c : Cn) : c.cells[2]? = some (.int .i64 c.port) := rfl
theorem Cn.g3 (c : Cn) : c.cells[3]? = some (.int .i64 c.dst) := rfl
theorem Cn.g4 (c : Cn) : c.cells[4]? = some (.int .i64 c.st) := rfl
theorem Cn.g5 (c : Cn) : c.cells[5]? = some (.int .i64 c.una) := rfl
theorem Cn.g6 (c : Cn) : c.cells[6]? = some (.int .i64 c.nxt) := rfl
theorem Cn.g7 (c : Cn) : c.cells[7]? = some (.int .i64 c.want) := rfl
theorem Cn.g8 (c : Cn) : c.cells[8]? = some (.string c.inn) := rfl
theorem Cn.g9 (c : Cn) : c.cells[9]? = some (.string c.out) := rfl
theorem Cn.g10 (c : Cn) : c.cells[10]? = some (.bool c.fin) := rfl
theorem Sg.g0 (g : Sg) : g.cells[0]? = some (.int .i64 g.src) := rfl
theorem Sg.g1 (g : Sg) : g.cells[1]? = some (.int .i64 g.dst) := rfl
theorem Sg.g2 (g : Sg) : g.cells[2]? = some (.int .i64 g.seq) := rfl
theorem Sg.g3 (g : Sg) : g.cells[3]? = some (.int .i64 g.ack) := rfl
theorem Sg.g4 (g : Sg) : g.cells[4]? = some (.int .i64 g.flags) := rfl
theorem Sg.g5 (g : Sg) : g.cells[5]? = some (.int .i64 g.space) := rfl
theorem Sg.g6 (g : Sg) : g.cells[6]? = some (.string g.data) := rfl
/-- A connection's block and a segment's, within a method that writes the one alone. -/
structure CnW (w0 w : World) (b : Nat) (c : Cn) (gs : Nat) (g : Sg) : Prop where
  cn : w.heap[b]? = some (.cells c.cells 48 (0, 0))
  sg : w.heap[gs]? = some (.cells g.cells 55 (0, 0))
  gr : w0.grownBy w (some b)
  ne : gs ≠ b
theorem CnW.below {w0 w W : World} {b gs : Nat} {c : Cn} {g : Sg} (h : CnW w0 w b c gs g) (hB : Below w.heap.size w W) : CnW w0 W b c gs g :=
  ⟨(hB.block b (Array.getElem?_eq_some_iff.1 h.cn).1).trans h.cn, (hB.block gs (Array.getElem?_eq_some_iff.1 h.sg).1).trans h.sg, grown_trans h.gr (grownBy_of_below hB _), h.ne⟩
theorem CnW.drewN {w0 w : World} {b gs : Nat} {c : Cn} {g : Sg} (h : CnW w0 w b c gs g) (n : Nat) : CnW w0 (w.drewN n) b c gs g := ⟨h.cn, h.sg, grown_drewN h.gr n, h.ne⟩
theorem CnW.store {w0 w : World} {b gs : Nat} {c : Cn} {g : Sg} (h : CnW w0 w b c gs g) (c' : Cn) (k : Nat) (u : Value) (hc : c.cells.setIfInBounds k u = c'.cells) : ∃ w', w.setCell ⟨b, k, none⟩ u = w' ∧ CnW w0 w' b c' gs g :=
  ⟨_, rfl, by rw [blk_set h.cn, hc], (Below.heap_setCell w ⟨b, k, none⟩ u gs h.ne).trans h.sg, grown_own h.gr k u, h.ne⟩
theorem CnW.ccell {w0 w : World} {b gs : Nat} {c : Cn} {g : Sg} (h : CnW w0 w b c gs g) (k : Nat) (u : Value) (hk : c.cells[k]? = some u) : w.cell? ⟨b, k, none⟩ = some u := (blk_cell h.cn k).trans hk
theorem CnW.gcell {w0 w : World} {b gs : Nat} {c : Cn} {g : Sg} (h : CnW w0 w b c gs g) (k : Nat) (u : Value) (hk : g.cells[k]? = some u) : w.cell? ⟨gs, k, none⟩ = some u := (blk_cell h.sg k).trans hk
theorem CnW.free {w0 w : World} {b gs : Nat} {c : Cn} {g : Sg} (h : CnW w0 w b c gs g) (k : Nat) : w.frozen? ⟨b, k, none⟩ = false := blk_free h.cn k
theorem CnW.ret {w w0 : World} {b gs : Nat} {c : Cn} {g : Sg} (h : CnW w0 w b c gs g) (s : Sg) (r : Cn × List Sg) (hr : r = (c, [s])) : TkRet w0 b r (.returned (.slice (some ⟨w.heap.size, 0, none⟩) 1 1)) (w.alloc (.cells s.cells 55)) := by
  subst hr
  have hL : Below w.heap.size w (w.alloc (.cells s.cells 55)) := (Below.refl _ _).alloc (Nat.le_refl _) _
  have h2 := h.below hL
  exact ⟨_, rfl, OneSg.toL ⟨w.heap.size, rfl, h.gr.size, heap_alloc_new _ _⟩, h2.cn, h2.gr⟩
theorem tk_same {w W : World} {b : Nat} {c : Cn} {x : Cn × List Sg} (hb : w.heap[b]? = some (.cells c.cells 48 (0, 0))) (hL : LeB w W) (hx : x = (c, [])) : TkRet w b x (.returned (.slice none 0 0)) W := by
  subst hx
  exact ⟨_, rfl, SgL.nil _ _, (hL.block _ (Array.getElem?_eq_some_iff.1 hb).1).trans hb, grownBy_of_below hL _⟩
end Go.Proofs.Ytdenjmdngmmodaa
namespace Go.Proofs.Ytdenjmdngmmodaa
open Go.RowKit
set_option linter.unusedVariables false
set_option linter.unusedSimpArgs false
set_option maxRecDepth 200000
set_option maxHeartbeats 600000

theorem take_m0 (c : Cn) (g : Sg) (b : Nat) (w : World) (hc : CnOK c) (hg : SegOK g.src g.dst g.seq g.ack g.flags g.space g.data) (hb : w.heap[b]? = some (.cells c.cells 48 (0, 0))) (h4 : ¬ c.st = 4) (b4 : bits .and .i64 (g.flags : Int) 4 = 0) (n4 : Nat.land g.flags 4 = 0) (b2 : bits .and .i64 (g.flags : Int) 2 = 0) (n2 : Nat.land g.flags 2 = 0) (b16 : bits .and .i64 (g.flags : Int) 16 = 16) (n16 : Nat.land g.flags 16 = 16) (b1 : bits .and .i64 (g.flags : Int) 1 = 0) (n1 : Nat.land g.flags 1 = 0) :
    Calls Try.prog 77 #[.pointer (some ⟨b, 0, none⟩), .agg g.cells] w (TkRet w b (takeC c g)) := by
  have hlt := (Array.getElem?_eq_some_iff.1 hb).1
  have c0 := blk_cell hb 0
  have c1 := blk_cell hb 1
  have c2 := blk_cell hb 2
  have c3 := blk_cell hb 3
  have c4 := blk_cell hb 4
  have c5 := blk_cell hb 5
  have c6 := blk_cell hb 6
  have c7 := blk_cell hb 7
  have c8 := blk_cell hb 8
  have c9 := blk_cell hb 9
  have c10 := blk_cell hb 10
  simp at c0 c1 c2 c3 c4 c5 c6 c7 c8 c9 c10
  have cf0 := blk_free hb 0
  have cf1 := blk_free hb 1
  have cf2 := blk_free hb 2
  have cf3 := blk_free hb 3
  have cf4 := blk_free hb 4
  have cf5 := blk_free hb 5
  have cf6 := blk_free hb 6
  have cf7 := blk_free hb 7
  have cf8 := blk_free hb 8
  have cf9 := blk_free hb 9
  have cf10 := blk_free hb 10
  have HK := Lib.hid (And.intro hb (And.intro hc hg))
  clear hb hc hg
  have L0 : LeB w (w.alloc (.cells g.cells 55)) := (Below.refl _ _).alloc (Nat.le_refl _) _
  have HL := Lib.hid L0
  clear L0
  have h4I : ((c.st : Int) == 4) = false := by simp; omega
  have H4 := Lib.hid h4
  have N4 := Lib.hid n4
  have N2 := Lib.hid n2
  have N16 := Lib.hid n16
  have N1 := Lib.hid n1
  clear h4 n4 n2 n16 n1
  have hT : takeC c g = (if (acked c g.ack).st = 1 ∨ (acked c g.ack).st = 4 ∨ (g.data = ⟨#[]⟩ ∧ Nat.land g.flags 1 = 0) then (acked c g.ack, [])
    else if g.seq = (acked c g.ack).want ∧ (acked c g.ack).inn.size + g.data.size ≤ 300 then
      ({ acked c g.ack with inn := (acked c g.ack).inn ++ g.data, want := onw (acked c g.ack).want (g.data.size + Nat.land g.flags 1) }, [⟨80, (acked c g.ack).port, (acked c g.ack).nxt, onw (acked c g.ack).want (g.data.size + Nat.land g.flags 1), 16, 1000, ⟨#[]⟩⟩])
    else (acked c g.ack, [⟨80, (acked c g.ack).port, (acked c g.ack).nxt, (acked c g.ack).want, 16, 1000, ⟨#[]⟩⟩])) := by
    rw [takeC, if_neg H4.out, if_neg (by rw [N4.out]; decide), if_neg (by rw [N2.out]; decide), if_neg (by rw [N16.out]; decide)]
  have HT := Lib.hid hT
  clear hT
  go_enter Try.func77, Try.ntmps77
  go_wp2_with fail
  refine (acknowledge_ok c b g.ack _ ((HL.out.block _ hlt).trans HK.out.1) HK.out.2.2.ack HK.out.2.1.una HK.out.2.1.nxt HK.out.2.1.out).mono ?_
  rintro e w1 ⟨⟨v, rfl⟩, hb1, hg1⟩
  have hsg : w1.heap[w.heap.size]? = some (.cells g.cells 55 (0, 0)) := (hg1.block _ (by simp) (fun e => by injection e with e; omega)).trans (heap_alloc_new _ _)
  have hG := grown_trans (grownBy_of_below HL.out (some b)) hg1
  have hca := acked_OK HK.out.2.1 HK.out.2.2.ack
  have hgd := HK.out.2.2.data
  have hlt1 := Nat.lt_of_lt_of_le hlt hG.size
  have hgl := Array.getElem?_eq_some_iff.1 hsg |>.1
  clear c0 c1 c2 c3 c4 c5 c6 c7 c8 c9 c10 cf0 cf1 cf2 cf3 cf4 cf5 cf6 cf7 cf8 cf9 cf10 h4I b4 b2 b16 H4 N4 N2 N16 hg1
  obtain ⟨ca, hcaE⟩ : ∃ x, acked c g.ack = x := ⟨_, rfl⟩
  rw [hcaE] at hb1 hca HT
  clear hcaE
  generalize hgs : w.heap.size = gs at *
  have c0 := blk_cell hb1 0
  have c1 := blk_cell hb1 1
  have c2 := blk_cell hb1 2
  have c3 := blk_cell hb1 3
  have c4 := blk_cell hb1 4
  have c5 := blk_cell hb1 5
  have c6 := blk_cell hb1 6
  have c7 := blk_cell hb1 7
  have c8 := blk_cell hb1 8
  have c9 := blk_cell hb1 9
  have c10 := blk_cell hb1 10
  simp at c0 c1 c2 c3 c4 c5 c6 c7 c8 c9 c10
  have cf0 := blk_free hb1 0
  have cf1 := blk_free hb1 1
  have cf2 := blk_free hb1 2
  have cf3 := blk_free hb1 3
  have cf4 := blk_free hb1 4
  have cf5 := blk_free hb1 5
  have cf6 := blk_free hb1 6
  have cf7 := blk_free hb1 7
  have cf8 := blk_free hb1 8
  have cf9 := blk_free hb1 9
  have cf10 := blk_free hb1 10
  have d0 := blk_cell hsg 0
  have d1 := blk_cell hsg 1
  have d2 := blk_cell hsg 2
  have d3 := blk_cell hsg 3
  have d4 := blk_cell hsg 4
  have d5 := blk_cell hsg 5
  have d6 := blk_cell hsg 6
  simp at d0 d1 d2 d3 d4 d5 d6
  have h8 : (ca.inn.size : Int) ≤ 300 := by have := hca.inn; omega
  have hd8 : (g.data.size : Int) ≤ 360 := by omega
  have h7 : (ca.want : Int) < 4294967296 := by have := hca.want; omega
  have HC := Lib.hid (And.intro (CnW.mk hb1 hsg hG (by omega)) hca)
  have HK2 := Lib.hid HK.out.2.2
  have HGS := Lib.hid hgs
  clear hb1 hsg hG hca HK HL hgd hgs
  go_wp2_with fail
  refine (oneIf_f _).mono ?_
  rintro e w2 ⟨rfl, rfl⟩
  by_cases q1 : ca.st = 1
  · have q1I : (ca.st : Int) = 1 := by omega
    go_wp2_with fail
    go_ret
    exact ⟨_, rfl, by rw [HT.out, if_pos (.inl q1)]; exact SgL.nil _ _, by rw [HT.out, if_pos (.inl q1)]; exact HC.out.1.cn, HC.out.1.gr⟩
  have q1I : ((ca.st : Int) == 1) = false := by simp; omega
  by_cases q4 : ca.st = 4
  · have q4I : (ca.st : Int) = 4 := by omega
    go_wp2_with fail
    go_ret
    exact ⟨_, rfl, by rw [HT.out, if_pos (.inr (.inl q4))]; exact SgL.nil _ _, by rw [HT.out, if_pos (.inr (.inl q4))]; exact HC.out.1.cn, HC.out.1.gr⟩
  have q4I : ((ca.st : Int) == 4) = false := by simp; omega
  by_cases hd0 : g.data = ⟨#[]⟩
  · obtain ⟨gsrc, gdst, gseq, gack, gflags, gspace, gdata⟩ := g
    dsimp only at *
    subst hd0
    clear hd8
    go_wp2_with fail
    go_ret
    exact ⟨_, rfl, by rw [HT.out, if_pos (.inr (.inr ⟨trivial, N1.out⟩))]; exact SgL.nil _ _, by rw [HT.out, if_pos (.inr (.inr ⟨trivial, N1.out⟩))]; exact HC.out.1.cn, HC.out.1.gr⟩
  have hd1 := str_ne hd0
  have HN := Lib.hid (show ¬ (ca.st = 1 ∨ ca.st = 4 ∨ (g.data = ⟨#[]⟩ ∧ Nat.land g.flags 1 = 0)) from fun h => by rcases h with h | h | h; exact q1 h; exact q4 h; exact hd0 h.1)
  clear hd0 q1 q4
  go_wp2_with fail
  by_cases hs : g.seq = ca.want ∧ ca.inn.size + g.data.size ≤ 300
  · obtain ⟨hs1, hs2⟩ := hs
    have hs1I : (g.seq : Int) = ca.want := by omega
    have hs2I : (ca.inn.size : Int) + g.data.size ≤ 300 := by omega
    have HS := Lib.hid (And.intro hs1 hs2)
    clear hs1 hs2
    go_quiet (fail)
    go_wp2_with fail
    clear c0 c1 c2 c3 c4 c5 c6 c7 c8 c9 c10 cf0 cf1 cf2 cf3 cf4 cf5 cf6 cf7 cf8 cf9 cf10 d0 d1 d2 d3 d4 d5 d6
    have X2 := HC.out.1.drewN nq
    have hcell : ∀ W, Below (w1.drewN nq).heap.size (w1.drewN nq) W → W.cell? ⟨b, 8, none⟩ = some (.string ca.inn) ∧ W.cell? ⟨gs, 6, none⟩ = some (.string g.data) := fun W hW => ⟨(X2.below hW).ccell 8 _ (Cn.g8 _), (X2.below hW).gcell 6 _ (Sg.g6 _)⟩
    have hin := HC.out.2.inn
    have hda := HK2.out.data
    refine wp_region_lex 7 (by kernel_rfl) (by kernel_rfl) (JB (w1.drewN nq)) LeB (qphi []) qphi_st JB.mono ?_ ?_
    · exact (Below.refl _ _).drew
    simp only [List.take_succ_cons, List.take_zero, List.drop_succ_cons, List.drop_zero, pairs, List.zipIdx_cons, List.zipIdx_nil, List.map_cons, List.map_nil, Nat.zero_add, Nat.reduceAdd]
    (repeat (first | (refine lex_pure rfl rfl (fun K hK => ?_); go_simp; refine hK _ ?_; clear hK K; try simp (disch := omega) only [IntWalk.i64_in, IntWalk.u8_in, Int.add_sub_cancel, Int.tmod_eq_emod_of_nonneg, Int.tdiv_eq_ediv_of_nonneg]) | (refine lex_load rfl rfl _ (fun m W hJ hF => (by have cc := hcell W hJ; go_simp; rfl)) ?_; try simp (disch := omega) only [IntWalk.i64_in, IntWalk.u8_in, Int.add_sub_cancel, Int.tmod_eq_emod_of_nonneg, Int.tdiv_eq_ediv_of_nonneg]) | (refine lex_sadd rfl rfl rfl rfl rfl (by first | omega | (simp only [ByteArray.size_append]; omega)) ?_; go_simp)))
    refine lex_nil (fun m W hJ hF => ?_)
    have X3 := X2.below hJ
    clear hF hJ hcell X2
    obtain ⟨nn, hnn⟩ : ∃ x, ca.inn ++ g.data = x := ⟨_, rfl⟩
    rw [hnn] at HT ⊢
    clear hnn
    have c8 := X3.ccell 8 _ (Cn.g8 _)
    have cf8 := X3.free 8
    have H3 := Lib.hid X3
    clear X3
    go_wp2_with fail
    obtain ⟨w4, hw4, X4⟩ := H3.out.store { ca with inn := nn } 8 (.string nn) (cells_inn ca nn)
    rw [hw4]
    clear hw4 c8 cf8 H3
    obtain ⟨t, ht⟩ : ∃ t, onw ca.want (g.data.size + 0) = t := ⟨_, rfl⟩
    have HTT := Lib.hid ht
    clear ht
    have hcell : ∀ W, Below w4.heap.size w4 W → W.cell? ⟨b, 7, none⟩ = some (.int .i64 ca.want) ∧ W.cell? ⟨gs, 6, none⟩ = some (.string g.data) := fun W hW => ⟨(X4.below hW).ccell 7 _ (Cn.g7 { ca with inn := nn }), (X4.below hW).gcell 6 _ (Sg.g6 _)⟩
    refine wp_region_lex 11 (by kernel_rfl) (by kernel_rfl) (JB w4) LeB (qphi [(10, .int .i64 t)]) qphi_st JB.mono ?_ ?_
    · exact (Below.refl _ _).drew
    simp only [List.take_succ_cons, List.take_zero, List.drop_succ_cons, List.drop_zero, pairs, List.zipIdx_cons, List.zipIdx_nil, List.map_cons, List.map_nil, Nat.zero_add, Nat.reduceAdd]
    (repeat (first | (refine lex_pure rfl rfl (fun K hK => ?_); go_simp; refine hK _ ?_; clear hK K; try simp (disch := omega) only [IntWalk.i64_in, IntWalk.u8_in, Int.add_sub_cancel, Int.tmod_eq_emod_of_nonneg, Int.tdiv_eq_ediv_of_nonneg]) | (refine lex_load rfl rfl _ (fun m W hJ hF => (by have cc := hcell W hJ; go_simp; rfl)) ?_; try simp (disch := omega) only [IntWalk.i64_in, IntWalk.u8_in, Int.add_sub_cancel, Int.tmod_eq_emod_of_nonneg, Int.tdiv_eq_ediv_of_nonneg]) | (refine lex_sadd rfl rfl rfl rfl rfl (by first | omega | (simp only [ByteArray.size_append]; omega)) ?_; go_simp)))
    refine lex_eff' (sp := fun _ v _ => v = .int .i64 t) rfl rfl (by intro _ _ _ _ h; exact h) (fun m W hJ hF => ?_) (fun v x hh => ?_) rfl
    · refine gives_call Try.call119 ((onward_is ca.want (g.data.size + 0) t HC.out.2.want (by omega) HTT.out W).mono ?_)
      rintro e w' ⟨rfl, rfl⟩
      exact ⟨_, rfl, hJ, LeB.of (Below.refl _ _), rfl⟩
    obtain ⟨_, _, -, rfl, -⟩ := hh
    refine lex_nil (fun m W5 hJ hF => ?_)
    have X5 := X4.below hJ
    clear hF hJ hcell X4
    have cf7 := X5.free 7
    have c7 : W5.cell? ⟨b, 7, none⟩ = some (.int .i64 ca.want) := X5.ccell 7 _ (Cn.g7 { ca with inn := nn })
    have c6 : W5.cell? ⟨b, 6, none⟩ = some (.int .i64 ca.nxt) := X5.ccell 6 _ (Cn.g6 { ca with inn := nn })
    have H5 := Lib.hid X5
    clear X5
    go_wp2_with fail
    obtain ⟨w6, hw6, X6⟩ := H5.out.store { ca with inn := nn, want := t } 7 (.int .i64 t) (cells_want { ca with inn := nn } t)
    rw [hw6]
    clear hw6 c7 cf7 H5 c6
    have H6 := Lib.hid X6
    clear X6
    refine (tell_ok { ca with inn := nn, want := t } b ca.nxt 16 ⟨#[]⟩ _ H6.out.cn).mono ?_
    rintro e w7 ⟨rfl, hB7⟩
    have H7 := Lib.hid (H6.out.below hB7)
    clear hB7 H6
    go_wp2_with fail
    go_ret
    exact H7.out.ret ⟨80, ca.port, ca.nxt, t, 16, 1000, ⟨#[]⟩⟩ _ (by rw [HT.out, if_neg HN.out, if_pos HS.out, N1.out, HTT.out])
  · have HS := Lib.hid hs
    have hcase : ((g.seq : Int) == ca.want) = false ∨ ((g.seq : Int) = ca.want ∧ decide ((ca.inn.size : Int) + g.data.size ≤ 300) = false) := by
      by_cases h1 : g.seq = ca.want
      · exact .inr ⟨by omega, by simp; have := fun h => hs ⟨h1, h⟩; omega⟩
      · exact .inl (by simp; omega)
    clear hs
    rcases hcase with h1 | ⟨h1, h2⟩
    all_goals
      go_quiet (fail)
      go_wp2_with fail
      refine (tell_ok ca b ca.nxt 16 ⟨#[]⟩ _ (HC.out.1.drewN nq).cn).mono ?_
      rintro e w7 ⟨rfl, hB7⟩
      have H7 := Lib.hid ((HC.out.1.drewN nq).below hB7)
      clear hB7 c0 c1 c2 c3 c4 c5 c6 c7 c8 c9 c10
      go_wp2_with fail
      go_ret
      exact H7.out.ret ⟨80, ca.port, ca.nxt, ca.want, 16, 1000, ⟨#[]⟩⟩ _ (by rw [HT.out, if_neg HN.out, if_neg HS.out])
end Go.Proofs.Ytdenjmdngmmodaa
