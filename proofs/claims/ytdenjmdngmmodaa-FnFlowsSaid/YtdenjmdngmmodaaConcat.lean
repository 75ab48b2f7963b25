/- slices.Concat of slices of bytes. -/
import Derived.Test.YtdenjmdngmmodaaBytes
namespace Go.Proofs.Ytdenjmdngmmodaa
open Go.RowKit
set_option linter.unusedVariables false
set_option linter.unusedSimpArgs false
set_option maxRecDepth 20000
set_option maxHeartbeats 1000000

theorem zeroCells_u8 (n : Nat) : Builtin.zeroCells (Value.int .u8 0).cells n = Array.replicate n (Value.int .u8 0) := by
  apply Array.ext
  · simp [Builtin.zeroCells, Value.cells]
  · intro i h1 h2
    simp [Builtin.zeroCells, Value.cells, Nat.mod_one]
/-- append(nil, make([]byte, n)...). -/
theorem append_zeros (n : Nat) (hn : 0 < n) (hn2 : n ≤ 1099511627776) (w : World) : ∃ cap : Nat, n ≤ cap ∧ cap ≤ maxLen ∧
    (Builtin.append_ #[22, 3] 22 #[.slice none 0 0, .int .i64 (n : Int)]).run Try.prog w = .ok (.slice (some ⟨w.heap.size, 0, none⟩) n cap) (w.drew.alloc (.cells (List.replicate cap (Value.int .u8 0)).toArray 5)) := by
  obtain ⟨i, hi, hz, hs, hb⟩ := info_parts info_u8
  refine ⟨grownCap w n 0 5, grownCap_ge w n 0 _, grownCap_le_maxLen w n 0 _ (by simp [maxLen]; omega), ?_⟩
  have hw : IntKind.i64.wrap (n : Int) = n := IntWalk.i64_in _ (by omega)
  have h1 : ¬ ((n : Int) < 0) := by omega
  have h2 : ¬ (281474976710656 < (n : Int)) := by omega
  have h3 : ¬ (281474976710656 < Builtin.nextslicecap n 0) := by rw [nextslicecap_zero hn]; omega
  have h4 : n ≠ 0 := by omega
  have h5 : ¬ (9223372036854775807 < (n : Int)) := by omega
  have h6 := grownCap_ge w n 0 5
  simp [Builtin.append_, run_underlying Try.underlying22, run_underlying Try.underlying3, sizeOf, typeInfo, zeroValue, hi, hs, hb, hz, hw, asInt, asIntOf, h1, h2, h3, h4, h5, Question.forced, run_firstCells_none, newRow, grownCap]
  simp only [grownCap] at h6
  rw [zeroCells_u8, zeroCells_u8, Array.replicate_append_replicate]
  congr 3
  omega

/-- Grow(nil, n). -/
theorem grow_ok (n : Nat) (hn : n ≤ 1099511627776) (w : World) :
    Calls Try.prog 146 #[.slice none 0 0, .int .i64 (n : Int)] w fun e w' => ∃ v, e = .returned v ∧ w'.ownsRow w.heap.size 5 1 v 0 [] ∧ Below w.heap.size w w' := by
  by_cases h0 : n = 0
  · subst h0
    go_enter Try.func146, Try.ntmps146
    go_wp2
    go_ret
    exact ⟨_, rfl, World.ownsRow_nil _ _ _ _, Below.refl _ _⟩
  · obtain ⟨cap, h1, h2, hrun⟩ := append_zeros n (by omega) hn w
    have hp : (0 : Int) < n := by omega
    go_enter Try.func146, Try.ntmps146
    go_wp2_with (at_builtin; refine wpList_append_run rfl _ _ _ _ rfl rfl rfl hrun ?_)
    go_ret
    exact ⟨_, rfl, World.ownsRow_made w _ cap (Nat.le_refl _) h2 (by simp), ((Below.refl _ _).alloc (Nat.le_refl _) _).drew⟩

/-- append of bytes. -/
theorem append_bytes (w : World) (base : Nat) (v : Value) (bs : List UInt8) (hown : w.ownsRow base 5 1 v bs.length (bs.map bV)) (A : Option Addr) (c : Nat) (ns : List UInt8) (hr : Rd w A (ns.map bV))
    (h : bs.length + ns.length ≤ 1099511627776) (hb : base ≤ w.heap.size) :
    ∃ v' w', (Builtin.append_ #[22, 22] 22 #[v, .slice A ns.length c]).run Try.prog w = .ok v' w' ∧ w'.ownsRow base 5 1 v' (bs ++ ns).length ((bs ++ ns).map bV) ∧ w.grownBy w' v.ownBlock := by
  obtain ⟨i, hi, hz, hs, hby⟩ := info_parts info_u8
  obtain ⟨v', w', h1, h2, h3, _⟩ := run_append_rd (P := Try.prog) w base 22 22 5 i _ 1 1 Try.underlying22 hi hz hs hby rfl (by omega) v bs.length (bs.map bV) hown A ns.length c (ns.map bV) (by simp) hr
    (by intro u hu; obtain ⟨b, _, rfl⟩ := List.mem_map.1 hu; rfl) (by simp only [maxLen]; omega) (by omega) hb
  exact ⟨v', w', h1, by rw [List.length_append, List.map_append]; exact h2, h3⟩

/-- One of the slices that are put together. -/
structure Pc where
  A : Option Addr
  c : Nat
  bs : List UInt8
def Pc.v (p : Pc) : Value := .slice p.A p.bs.length p.c
def pcs (L : List Pc) : List UInt8 := (L.map Pc.bs).flatten
theorem pcs_snoc (L : List Pc) (k : Nat) (h : k < L.length) : pcs (L.take (k + 1)) = pcs (L.take k) ++ L[k].bs := by
  rw [List.take_succ_eq_append_getElem h]
  unfold pcs
  rw [List.map_append, List.flatten_append]
  simp
theorem pcs_le (L : List Pc) (k : Nat) : (pcs (L.take k)).length ≤ (pcs L).length := by
  have : pcs L = pcs (L.take k) ++ pcs (L.drop k) := by unfold pcs; rw [← List.flatten_append, ← List.map_append, List.take_append_drop]
  rw [this, List.length_append]; omega

theorem concat_ok (A : Option Addr) (c : Nat) (L : List Pc) (w : World) (hr : Rd w A (L.map Pc.v)) (hp : ∀ p ∈ L, Rd w p.A (p.bs.map bV)) (hl : L.length ≤ 1000) (hs : (pcs L).length ≤ 1099511627776) :
    Calls Try.prog 111 #[.slice A L.length c] w fun e w' => ∃ v, e = .returned v ∧ w'.ownsRow w.heap.size 5 1 v (pcs L).length ((pcs L).map bV) ∧ Below w.heap.size w w' := by
  have HP := Lib.hid hp
  have HR := Lib.hid hr
  clear hp hr
  go_enter Try.func111, Try.ntmps111
  go_wp2
  go_loop [3, 11] (fun n i => ∃ k : Nat, k ≤ L.length ∧ i = .int .i64 k ∧ n = .int .i64 (pcs (L.take k)).length) (fun _ i => L.length - (intOf i).toNat)
  case atStart => exact ⟨0, Nat.zero_le _, rfl, rfl⟩
  case round =>
    obtain ⟨k, hk, rfl, rfl⟩ := hrel
    have hle := pcs_le L k
    by_cases hlt : k < L.length
    · obtain ⟨ad, rfl, hc⟩ := HR.out.at_ (k := k) (by simpa using hlt)
      have hc' : w.cell? (ad.add k) = some (.slice L[k].A L[k].bs.length L[k].c) := by rw [hc]; simp [Pc.v]
      have HS := Lib.hid (pcs_snoc L k hlt)
      have hle2 := pcs_le L (k + 1)
      rw [HS.out, List.length_append] at hle2
      have h3 : (k : Int) < L.length := by omega
      have h4 : (0 : Int) ≤ ((pcs (L.take k)).length : Int) + (L[k].bs.length : Int) := by omega
      clear hc
      go_wp2
      go_round
      case rel => exact ⟨k + 1, by omega, by go_num, by rw [HS.out, List.length_append]; go_num⟩
      case measure => simp [intOf]; omega
    · obtain rfl : k = L.length := by omega
      rw [List.take_length] at *
      go_wp2_with fail
      refine (grow_ok (pcs L).length hs _).mono ?_
      rintro e w1 ⟨v, rfl, hown, hB⟩
      clear hk hle
      go_wp2
      go_loopw [6, 27] (fun v i wr => ∃ k : Nat, k ≤ L.length ∧ i = .int .i64 k ∧ wr.ownsRow w.heap.size 5 1 v (pcs (L.take k)).length ((pcs (L.take k)).map bV) ∧ Below w.heap.size w wr) (fun _ i _ => L.length - (intOf i).toNat)
      case atStart => exact ⟨0, Nat.zero_le _, rfl, hown, hB⟩
      case round =>
        obtain ⟨k, hk, rfl, hown, hB⟩ := hrel
        by_cases hlt : k < L.length
        · obtain ⟨ad, rfl, hc⟩ := (HR.out.below hB (Nat.le_refl _)).at_ (k := k) (by simpa using hlt)
          have hc' : wr.cell? (ad.add k) = some (.slice L[k].A L[k].bs.length L[k].c) := by rw [hc]; simp [Pc.v]
          have HS := Lib.hid (pcs_snoc L k hlt)
          have hle2 := pcs_le L (k + 1)
          rw [HS.out, List.length_append] at hle2
          obtain ⟨v', w2, hrun, hown2, hg2⟩ := append_bytes wr w.heap.size _ (pcs (L.take k)) hown L[k].A L[k].c L[k].bs ((HP.out _ (List.getElem_mem hlt)).below hB (Nat.le_refl _)) (by omega) hB.size
          have h3 : (k : Int) < L.length := by omega
          have HO := Lib.hid hown2
          have HO1 := Lib.hid hown
          clear hc hown hown2
          go_wp2_with (at_builtin; refine wpList_append_run rfl _ _ _ _ rfl rfl rfl hrun ?_)
          go_roundw
          case rel => exact ⟨k + 1, by omega, by go_num, by rw [HS.out]; exact HO.out, hB.grown hg2 hB.size (fun g hg => (HO1.out.lt g hg).1)⟩
          case measure => simp [intOf]; omega
        · obtain rfl : k = L.length := by omega
          rw [List.take_length] at *
          go_wp2
          go_ret
          exact ⟨_, rfl, hown, hB⟩
end Go.Proofs.Ytdenjmdngmmodaa
