/- Connections: which ones are right. -/
import Derived.Test.YtdenjmdngmmodaaCnD
namespace Go.Proofs.Ytdenjmdngmmodaa
open Go.RowKit
set_option linter.unusedVariables false
set_option linter.unusedSimpArgs false
set_option maxRecDepth 20000
set_option maxHeartbeats 600000

theorem qs {P : Program} {f : FuncId} {args : Array Value} {w : World} {n : Nat} {v : Value}
    (h : Calls P f args (w.drewN n) fun e w' => e = .returned v ∧ w.drewN n = w') : Calls P f args (w.drewN n) fun e w'' => e = .returned v ∧ ∃ m, w'' = w.drewN m :=
  h.mono fun _ _ ⟨he, hm⟩ => ⟨he, n, hm.symm⟩
theorem oneIf_ok (b : Bool) (w : World) : Calls Try.prog 107 #[.bool b] w fun e w' => e = .returned (.int .i64 (b.toNat : Nat)) ∧ w = w' := by
  cases b
  all_goals
    go_enter Try.func107, Try.ntmps107
    go_wp2
    go_ret
    exact ⟨rfl, rfl⟩
structure CnOK (c : Cn) : Prop where
  mac : c.mac.size = 6
  ip : c.ip < 4294967296
  port : c.port < 65536
  dst : c.dst < 4294967296
  una : c.una < 4294967296
  nxt : c.nxt < 4294967296
  want : c.want < 4294967296
  inn : c.inn.size ≤ 300
  out : c.out.size ≤ 300
  mode : (c.st = 1 ∧ c.fin = false ∧ c.out = ⟨#[]⟩ ∧ c.inn = ⟨#[]⟩ ∧ bhd c.nxt c.una = 1) ∨ (c.st = 2 ∧ c.fin = false ∧ c.out = ⟨#[]⟩ ∧ bhd c.nxt c.una = 0) ∨
    (c.st = 3 ∧ c.fin = true ∧ bhd c.nxt c.una = c.out.size + 1) ∨ (c.st = 4 ∧ c.fin = false ∧ c.out = ⟨#[]⟩ ∧ bhd c.nxt c.una = 0)
theorem bhd_lt (a b : Nat) : bhd a b < 4294967296 := by unfold bhd; omega
theorem ConnOK_true (c : Cn) (h : CnOK c) (w : World) :
    Calls Try.prog 47 #[.agg c.cells] w fun e w' => e = .returned (.bool true) ∧ Below w.heap.size w w' := by
  obtain ⟨mac, ip, port, dst, st, una, nxt, want, inn, out, fin⟩ := c
  obtain ⟨h1, h2, h3, h4, h5, h6, h7, h8, h9, h10⟩ := h
  dsimp only at h1 h2 h3 h4 h5 h6 h7 h8 h9 h10
  have hm := mac_true h1
  have g8 : (inn.size : Int) ≤ 300 := by omega
  have g9 : (out.size : Int) ≤ 300 := by omega
  have HK := Lib.hid (And.intro h2 (And.intro h3 (And.intro h4 (And.intro h5 (And.intro h6 h7)))))
  clear h1 h2 h3 h4 h5 h6 h7 h8 h9
  rcases h10 with ⟨rfl, rfl, rfl, rfl, hb⟩ | ⟨rfl, rfl, rfl, hb⟩ | ⟨rfl, rfl, hb⟩ | ⟨rfl, rfl, rfl, hb⟩
  all_goals
    have HB := Lib.hid hb
    clear hb
    go_enter Try.func47, Try.ntmps47
    go_wp2_with fail
    refine (macOK_ok mac _).mono ?_
    rintro e w1 ⟨rfl, rfl⟩
    rw [hm]
    go_wp2_with fail
    refine (isAddress_ok ip HK.out.1 _).mono ?_
    rintro e w1 ⟨rfl, rfl⟩
    go_wp2_with fail
    refine (isPort_ok port HK.out.2.1 _).mono ?_
    rintro e w1 ⟨rfl, rfl⟩
    go_wp2_with fail
    refine (isAddress_ok dst HK.out.2.2.1 _).mono ?_
    rintro e w1 ⟨rfl, rfl⟩
    go_wp2_with fail
    refine (within_ok _ 1 4 _).mono ?_
    rintro e w1 ⟨rfl, rfl⟩
    go_wp2_with fail
    refine (isAddress_ok una HK.out.2.2.2.1 _).mono ?_
    rintro e w1 ⟨rfl, rfl⟩
    go_wp2_with fail
    refine (isAddress_ok nxt HK.out.2.2.2.2.1 _).mono ?_
    rintro e w1 ⟨rfl, rfl⟩
    go_wp2_with fail
    refine (isAddress_ok want HK.out.2.2.2.2.2 _).mono ?_
    rintro e w1 ⟨rfl, rfl⟩
    go_wp2_with fail
    have hlt := bhd_lt nxt una
    go_quiet ((first | exact qs (behind_ok nxt una HK.out.2.2.2.2.1 HK.out.2.2.2.1 _) | exact qs (oneIf_ok _ _)))
    try rw [HB.out]
    go_wp2
    go_ret
    exact ⟨by simp, below_drewN ((Below.refl _ _).alloc (Nat.le_refl _) _) _⟩
end Go.Proofs.Ytdenjmdngmmodaa
