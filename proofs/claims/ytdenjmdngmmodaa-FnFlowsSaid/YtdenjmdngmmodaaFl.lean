/- Flows: what a list of flows is, and is held to. -/
import Derived.Test.YtdenjmdngmmodaaRl
import Derived.Test.YtdenjmdngmmodaaFnPk
import Derived.Test.YtdenjmdngmmodaaFlA
namespace Go.Proofs.Ytdenjmdngmmodaa
open Go.RowKit
set_option linter.unusedVariables false
set_option linter.unusedSimpArgs false
set_option maxRecDepth 200000
set_option maxHeartbeats 1000000

structure Fl where
  proto : Nat
  mac : ByteArray
  sip : Nat
  sport : Nat
  dip : Nat
  dport : Nat
  st : Nat
  til : Nat
  own : Nat
@[reducible] def Fl.cells (f : Fl) : Array Value := #[.int .i64 f.proto, .string f.mac, .int .i64 f.sip, .int .i64 f.sport, .int .i64 f.dip, .int .i64 f.dport, .int .i64 f.st, .int .i64 f.til, .int .i64 f.own]
def flc (f : Fl) : List Value := f.cells.toList
theorem flc_len (f : Fl) : (flc f).length = 9 := rfl
theorem flc_one (f : Fl) : ∀ u ∈ flc f, u.oneCell' = true := by
  intro u hu
  simp [flc] at hu
  rcases hu with rfl | rfl | rfl | rfl | rfl | rfl | rfl | rfl | rfl <;> rfl
theorem infoFl : (Try.prog.info? 73).map (·.size) = some 9 := by kernel_rfl
def flZero : Array Value := #[.int .i64 0, .string ⟨#[]⟩, .int .i64 0, .int .i64 0, .int .i64 0, .int .i64 0, .int .i64 0, .int .i64 0, .int .i64 0]
theorem info_fl : (Try.prog.info? 73).map (fun i => (i.zero, i.size, i.bytes)) = some (some (.agg flZero), 9, 80) := by kernel_rfl
/-- The cells of a flow at an address, as the walk asks for them. -/
structure FlAt (w : World) (a : Addr) (f : Fl) : Prop where
  c0 : w.cell? a = some (.int .i64 f.proto)
  c1 : w.cell? ⟨a.block, a.off + 1, none⟩ = some (.string f.mac)
  c2 : w.cell? ⟨a.block, a.off + 2, none⟩ = some (.int .i64 f.sip)
  c3 : w.cell? ⟨a.block, a.off + 3, none⟩ = some (.int .i64 f.sport)
  c4 : w.cell? ⟨a.block, a.off + 4, none⟩ = some (.int .i64 f.dip)
  c5 : w.cell? ⟨a.block, a.off + 5, none⟩ = some (.int .i64 f.dport)
  c6 : w.cell? ⟨a.block, a.off + 6, none⟩ = some (.int .i64 f.st)
  c7 : w.cell? ⟨a.block, a.off + 7, none⟩ = some (.int .i64 f.til)
  c8 : w.cell? ⟨a.block, a.off + 8, none⟩ = some (.int .i64 f.own)
theorem addr_addk (a : Addr) (j : Nat) (h : j ≠ 0) : a.add j = ⟨a.block, a.off + j, none⟩ := by unfold Addr.add; rw [if_neg h]
theorem addr_add0 (a : Addr) : a.add 0 = a := by unfold Addr.add; simp
theorem FlAt.mk' {w : World} {a : Addr} {f : Fl} (h : ∀ j u, (flc f)[j]? = some u → w.cell? (a.add j) = some u) : FlAt w a f := by
  have q : ∀ j u, j ≠ 0 → (flc f)[j]? = some u → w.cell? ⟨a.block, a.off + j, none⟩ = some u := fun j u hj hu => by rw [← addr_addk a j hj]; exact h j u hu
  exact ⟨by have := h 0 _ rfl; rwa [addr_add0] at this, q 1 _ (by omega) rfl, q 2 _ (by omega) rfl, q 3 _ (by omega) rfl, q 4 _ (by omega) rfl, q 5 _ (by omega) rfl, q 6 _ (by omega) rfl, q 7 _ (by omega) rfl, q 8 _ (by omega) rfl⟩
theorem FlAt.of {w : World} {A : Option Addr} {l : List Fl} (h : Rd w A (rowC flc l)) (k : Nat) (hk : k < l.length) : ∃ ad, A = some ad ∧ FlAt w (ad.add (k * 9)) l[k] := by
  obtain ⟨ad, e, q⟩ := row_at flc_len (by omega) h k hk
  exact ⟨ad, e, .mk' q⟩
theorem FlAt.blk {w : World} {b : Nat} {f : Fl} (h : w.heap[b]? = some (.cells f.cells 73 (0, 0))) : FlAt w ⟨b, 0, none⟩ f :=
  ⟨blk_cell h 0, blk_cell h 1, blk_cell h 2, blk_cell h 3, blk_cell h 4, blk_cell h 5, blk_cell h 6, blk_cell h 7, blk_cell h 8⟩
theorem FlAt.below {w w' : World} {a : Addr} {f : Fl} (h : FlAt w a f) (hb : LeB w w') : FlAt w' a f := by
  have q : ∀ {p : Addr} {u : Value}, w.cell? p = some u → w'.cell? p = some u := fun {p u} hc => (hb.cell (World.block_lt_of_cell? w _ hc)).trans hc
  exact ⟨q h.c0, q h.c1, q h.c2, q h.c3, q h.c4, q h.c5, q h.c6, q h.c7, q h.c8⟩
/-- A list of flows, read. -/
abbrev FlL (B : Nat) (l : List Fl) (v : Value) (w : World) : Prop := RL flc B l v w

structure FlOK (f : Fl) : Prop where
  proto : f.proto < 256
  mac : f.mac.size = 6
  sip : f.sip < 4294967296
  sport : f.sport < 65536
  dip : f.dip < 4294967296
  dport : f.dport < 65536
  st1 : 1 ≤ f.st
  st3 : f.st ≤ 3
  til : f.til ≤ 100100
  own : f.own ≤ 10000
def Fl.at (f : Fl) (p a ap b bp : Nat) : Bool := f.proto == p && f.sip == a && f.sport == ap && f.dip == b && f.dport == bp
/-- A flow of these ends, this way or the other. -/
def Fl.hit (p a ap b bp : Nat) (f : Fl) : Bool := f.at p a ap b bp || f.at p b bp a ap
def apartF (f g : Fl) : Prop := f.hit g.proto g.sip g.sport g.dip g.dport = false
structure FlsOK (l : List Fl) : Prop where
  len : l.length ≤ 8
  ok : ∀ f ∈ l, FlOK f
  ap : l.Pairwise apartF
def waitC (proto st : Nat) : Nat := if proto ≠ 6 then 5 else if st = 2 then 30 else 3
theorem waitC_le (p s : Nat) : waitC p s ≤ 30 := by unfold waitC; split; omega; split <;> omega
theorem waitC_pos (p s : Nat) : 3 ≤ waitC p s := by unfold waitC; split; omega; split <;> omega

theorem isProto_ok (n : Nat) (h : n < 256) (w : World) : Calls Try.prog 92 #[.int .i64 n] w fun e w' => e = .returned (.bool true) ∧ w = w' := by
  have e1 : decide ((0 : Int) ≤ n ∧ (n : Int) ≤ 255) = true := by simp; omega
  go_enter Try.func92, Try.ntmps92
  go_wp2_with fail
  refine (within_ok _ _ _ _).mono ?_
  rintro e w1 ⟨rfl, rfl⟩
  rw [e1]
  go_wp2_with fail
  go_ret
  exact ⟨rfl, rfl⟩
theorem isTime_ok (n : Nat) (h : n ≤ 100000) (w : World) : Calls Try.prog 84 #[.int .i64 n] w fun e w' => e = .returned (.bool true) ∧ w = w' := by
  have e1 : decide ((0 : Int) ≤ n ∧ (n : Int) ≤ 100000) = true := by simp; omega
  go_enter Try.func84, Try.ntmps84
  go_wp2_with fail
  refine (within_ok _ _ _ _).mono ?_
  rintro e w1 ⟨rfl, rfl⟩
  rw [e1]
  go_wp2_with fail
  go_ret
  exact ⟨rfl, rfl⟩
theorem is_ok (f : Fl) (ad : Addr) (w : World) (h : FlAt w ad f) (p a ap b bp : Nat) : Calls Try.prog 130 #[.pointer (some ad), .int .i64 p, .int .i64 a, .int .i64 ap, .int .i64 b, .int .i64 bp] w fun e w' => e = .returned (.bool (f.at p a ap b bp)) ∧ w = w' := by
  obtain ⟨c0, c1, c2, c3, c4, c5, c6, c7, c8⟩ := h
  by_cases h0 : f.proto = p
  · subst h0
    by_cases h1 : f.sip = a
    · subst h1
      by_cases h2 : f.sport = ap
      · subst h2
        by_cases h3 : f.dip = b
        · subst h3
          by_cases h4 : f.dport = bp
          · subst h4
            have r : f.at f.proto f.sip f.sport f.dip f.dport = true := by simp [Fl.at]
            rw [r]
            clear r
            go_enter Try.func130, Try.ntmps130
            go_wp2
            go_ret
            exact ⟨rfl, rfl⟩
          · have q4 : ((f.dport : Int) == (bp : Int)) = false := by simp; omega
            have r : f.at f.proto f.sip f.sport f.dip bp = false := by simp [Fl.at, h4]
            rw [r]
            clear r h4
            go_enter Try.func130, Try.ntmps130
            go_wp2
            go_ret
            exact ⟨rfl, rfl⟩
        · have q3 : ((f.dip : Int) == (b : Int)) = false := by simp; omega
          have r : f.at f.proto f.sip f.sport b bp = false := by simp [Fl.at, h3]
          rw [r]
          clear r h3
          go_enter Try.func130, Try.ntmps130
          go_wp2
          go_ret
          exact ⟨rfl, rfl⟩
      · have q2 : ((f.sport : Int) == (ap : Int)) = false := by simp; omega
        have r : f.at f.proto f.sip ap b bp = false := by simp [Fl.at, h2]
        rw [r]
        clear r h2
        go_enter Try.func130, Try.ntmps130
        go_wp2
        go_ret
        exact ⟨rfl, rfl⟩
    · have q1 : ((f.sip : Int) == (a : Int)) = false := by simp; omega
      have r : f.at f.proto a ap b bp = false := by simp [Fl.at, h1]
      rw [r]
      clear r h1
      go_enter Try.func130, Try.ntmps130
      go_wp2
      go_ret
      exact ⟨rfl, rfl⟩
  · have q0 : ((f.proto : Int) == (p : Int)) = false := by simp; omega
    have r : f.at p a ap b bp = false := by simp [Fl.at, h0]
    rw [r]
    clear r h0
    go_enter Try.func130, Try.ntmps130
    go_wp2
    go_ret
    exact ⟨rfl, rfl⟩
theorem l09Same_ok (f : Fl) (w : World) (p a ap b bp : Nat) : Calls Try.prog 126 #[.agg f.cells, .int .i64 p, .int .i64 a, .int .i64 ap, .int .i64 b, .int .i64 bp] w fun e w' => e = .returned (.bool (f.at p a ap b bp)) ∧ LeB w w' := by
  by_cases h0 : f.proto = p
  · subst h0
    by_cases h1 : f.sip = a
    · subst h1
      by_cases h2 : f.sport = ap
      · subst h2
        by_cases h3 : f.dip = b
        · subst h3
          by_cases h4 : f.dport = bp
          · subst h4
            have r : f.at f.proto f.sip f.sport f.dip f.dport = true := by simp [Fl.at]
            rw [r]
            clear r
            go_enter Try.func126, Try.ntmps126
            go_wp2
            go_ret
            exact ⟨rfl, (Below.refl _ _).alloc (Nat.le_refl _) _⟩
          · have q4 : ((f.dport : Int) == (bp : Int)) = false := by simp; omega
            have r : f.at f.proto f.sip f.sport f.dip bp = false := by simp [Fl.at, h4]
            rw [r]
            clear r h4
            go_enter Try.func126, Try.ntmps126
            go_wp2
            go_ret
            exact ⟨rfl, (Below.refl _ _).alloc (Nat.le_refl _) _⟩
        · have q3 : ((f.dip : Int) == (b : Int)) = false := by simp; omega
          have r : f.at f.proto f.sip f.sport b bp = false := by simp [Fl.at, h3]
          rw [r]
          clear r h3
          go_enter Try.func126, Try.ntmps126
          go_wp2
          go_ret
          exact ⟨rfl, (Below.refl _ _).alloc (Nat.le_refl _) _⟩
      · have q2 : ((f.sport : Int) == (ap : Int)) = false := by simp; omega
        have r : f.at f.proto f.sip ap b bp = false := by simp [Fl.at, h2]
        rw [r]
        clear r h2
        go_enter Try.func126, Try.ntmps126
        go_wp2
        go_ret
        exact ⟨rfl, (Below.refl _ _).alloc (Nat.le_refl _) _⟩
    · have q1 : ((f.sip : Int) == (a : Int)) = false := by simp; omega
      have r : f.at f.proto a ap b bp = false := by simp [Fl.at, h1]
      rw [r]
      clear r h1
      go_enter Try.func126, Try.ntmps126
      go_wp2
      go_ret
      exact ⟨rfl, (Below.refl _ _).alloc (Nat.le_refl _) _⟩
  · have q0 : ((f.proto : Int) == (p : Int)) = false := by simp; omega
    have r : f.at p a ap b bp = false := by simp [Fl.at, h0]
    rw [r]
    clear r h0
    go_enter Try.func126, Try.ntmps126
    go_wp2
    go_ret
    exact ⟨rfl, (Below.refl _ _).alloc (Nat.le_refl _) _⟩
theorem flowWait_ok (p s : Nat) (w : World) : Calls Try.prog 93 #[.int .i64 p, .int .i64 s] w fun e w' => e = .returned (.int .i64 (waitC p s)) ∧ w = w' := by
  unfold waitC
  by_cases h1 : p = 6
  · subst h1
    by_cases h2 : s = 2
    · subst h2
      go_enter Try.func93, Try.ntmps93
      go_wp2
      go_ret
      exact ⟨rfl, rfl⟩
    · have q : ((s : Int) == 2) = false := by simp; omega
      rw [if_neg (by omega), if_neg h2]
      go_enter Try.func93, Try.ntmps93
      go_wp2
      go_ret
      exact ⟨rfl, rfl⟩
  · have q : ((p : Int) == 6) = false := by simp; omega
    rw [if_pos h1]
    go_enter Try.func93, Try.ntmps93
    go_wp2
    go_ret
    exact ⟨rfl, rfl⟩
theorem l09Wait_ok (p s : Nat) (w : World) : Calls Try.prog 127 #[.int .i64 p, .int .i64 s] w fun e w' => e = .returned (.int .i64 (waitC p s)) ∧ w = w' := by
  unfold waitC
  by_cases h1 : p = 6
  · subst h1
    by_cases h2 : s = 2
    · subst h2
      go_enter Try.func127, Try.ntmps127
      go_wp2
      go_ret
      exact ⟨rfl, rfl⟩
    · have q : ((s : Int) == 2) = false := by simp; omega
      rw [if_neg (by omega), if_neg h2]
      go_enter Try.func127, Try.ntmps127
      go_wp2
      go_ret
      exact ⟨rfl, rfl⟩
  · have q : ((p : Int) == 6) = false := by simp; omega
    rw [if_pos h1]
    go_enter Try.func127, Try.ntmps127
    go_wp2
    go_ret
    exact ⟨rfl, rfl⟩
theorem FlowWait_ok (p s : Nat) (hp : p < 256) (h1 : 1 ≤ s) (h3 : s ≤ 3) (w : World) : Calls Try.prog 37 #[.int .i64 p, .int .i64 s] w fun e w' => e = .returned (.tuple #[.int .i64 (waitC p s), .int .i64 0]) ∧ w = w' := by
  obtain ⟨x, hx⟩ : ∃ x, waitC p s = x := ⟨_, rfl⟩
  have HX := Lib.hid hx
  rw [hx]
  clear hx
  have e1 : decide ((1 : Int) ≤ s ∧ (s : Int) ≤ 3) = true := by simp; omega
  go_enter Try.func37, Try.ntmps37
  go_wp2_with fail
  refine (isProto_ok p hp w).mono ?_
  rintro e w1 ⟨rfl, rfl⟩
  go_wp2_with fail
  refine (within_ok _ _ _ _).mono ?_
  rintro e w1 ⟨rfl, rfl⟩
  rw [e1]
  go_wp2_with fail
  refine (flowWait_ok p s _).mono ?_
  rintro e w1 ⟨rfl, rfl⟩
  rw [HX.out]
  go_wp2_with fail
  refine bodyPost_ret (v := .tuple #[.int .i64 x, .int .i64 0]) (by simp [results, go_sem]) rfl ⟨rfl, rfl⟩
end Go.Proofs.Ytdenjmdngmmodaa
