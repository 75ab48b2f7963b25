/- Exact laws: the helpers of User: copied, measured, held against one another. -/
import Derived.Test.YtokoijnpbdafgaaDoorRlB
import Derived.Test.YtokoijnpbdafgaaDoorRow
import Derived.Deep.Cut
namespace Go.Proofs.YtokoijnpbdafgaaDoor
open Go.RowKit
set_option linter.unusedVariables false
set_option linter.unusedSimpArgs false
set_option maxRecDepth 200000
set_option maxHeartbeats 4000000

structure ExUser where
  name : ByteArray
  salt : ByteArray
  hash : ByteArray
  role : ByteArray
  balance : Int
  logins : Int
@[reducible] def ExUser.cells (x : ExUser) : Array Value := #[.string x.name, .string x.salt, .string x.hash, .string x.role, .int .i64 x.balance, .int .i64 x.logins]
def ExUser.row (x : ExUser) : List Value := x.cells.toList
theorem ExUser.row_len (x : ExUser) : x.row.length = 6 := rfl
theorem ExUser.row_one (x : ExUser) : ∀ u ∈ x.row, u.oneCell' = true := by
  intro u hu
  simp [ExUser.row] at hu
  rcases hu with rfl | rfl | rfl | rfl | rfl | rfl <;> rfl
theorem ExUser.info : (Tryd.prog.info? 87).map (·.size) = some 6 := by kernel_rfl
/-- What its strings take. -/
def ExUser.size (x : ExUser) : Nat := x.name.size + x.salt.size + x.hash.size + x.role.size
/-- Its strings are no longer than any may be. -/
def ExUser.Fit (x : ExUser) : Prop := x.name.size ≤ 9223372036854775807 ∧ x.salt.size ≤ 9223372036854775807 ∧ x.hash.size ≤ 9223372036854775807 ∧ x.role.size ≤ 9223372036854775807
structure ExUser.At (w : World) (a : Addr) (x : ExUser) : Prop where
  c0 : w.cell? a = some (.string x.name)
  c1 : w.cell? ⟨a.block, a.off + 1, none⟩ = some (.string x.salt)
  c2 : w.cell? ⟨a.block, a.off + 2, none⟩ = some (.string x.hash)
  c3 : w.cell? ⟨a.block, a.off + 3, none⟩ = some (.string x.role)
  c4 : w.cell? ⟨a.block, a.off + 4, none⟩ = some (.int .i64 x.balance)
  c5 : w.cell? ⟨a.block, a.off + 5, none⟩ = some (.int .i64 x.logins)
theorem ExUser.At.of {w : World} {A : Option Addr} {l : List ExUser} (h : Rd w A (rowC ExUser.row l)) (k : Nat) (hk : k < l.length) : ∃ ad, A = some ad ∧ ExUser.At w (ad.add (k * 6)) l[k] := by
  obtain ⟨ad, e, q⟩ := row_at ExUser.row_len (by omega) h k hk
  refine ⟨ad, e, ?_⟩
  have q' : ∀ j u, j ≠ 0 → (ExUser.row l[k])[j]? = some u → w.cell? ⟨(ad.add (k * 6)).block, (ad.add (k * 6)).off + j, none⟩ = some u := fun j u hj hu => by
    have h := q j u hu
    unfold Addr.add at h ⊢
    simpa [hj] using h
  exact ⟨by have := q 0 _ rfl; unfold Addr.add at this ⊢; simpa using this, q' 1 _ (by omega) rfl, q' 2 _ (by omega) rfl, q' 3 _ (by omega) rfl, q' 4 _ (by omega) rfl, q' 5 _ (by omega) rfl⟩
theorem toUser_ok (x : ExUser) (w : World) : Calls Tryd.prog 47 #[.agg x.cells] w fun e w' => e = .returned (.agg x.cells) ∧ LeB w w' := by
  go_enter Tryd.func47, Tryd.ntmps47
  go_wp2_with fail
  have hb : (((w.alloc (.cells x.cells 92)).alloc (.cells x.cells 87)).alloc (.cells x.cells 87)).heap[w.heap.size + 1]? = some (.cells x.cells 87 (0, 0)) := by
    have h1 := heap_alloc_new (w.alloc (.cells x.cells 92)) (.cells x.cells 87)
    rw [show (w.alloc (.cells x.cells 92)).heap.size = w.heap.size + 1 from by simp] at h1
    exact (heap_alloc_old _ _ (by simp)).trans h1
  refine bodyPost_ret (ret_cell (cs := x.cells) (b := w.heap.size + 1) rfl rfl hb Tryd.underlying87 rfl ExUser.info) rfl ?_
  exact ⟨rfl, (((Below.refl _ _).alloc (Nat.le_refl _) _).alloc (by simp) _).alloc (by simp; omega) _⟩
/-- Two of the same are held equal. -/
theorem eqUser_ok (x : ExUser) (w : World) : Calls Tryd.prog 51 #[.agg x.cells, .agg x.cells] w fun e w' => e = .returned (.bool true) ∧ LeB w w' := by
  go_enter Tryd.func51, Tryd.ntmps51
  go_wp2_with fail
  go_ret
  exact ⟨rfl, ((Below.refl _ _).alloc (Nat.le_refl _) _).alloc (by simp) _⟩
/-- Its measure: what is left, or -1. -/
theorem szUser_ok (x : ExUser) (left : Int) (h0 : 0 ≤ left) (h1 : left ≤ 1048576) (hs : x.Fit) (w : World) :
    Calls Tryd.prog 44 #[.agg x.cells, .int .i64 left] w fun e w' => e = .returned (.int .i64 (if (x.size : Int) ≤ left then left - x.size else -1)) ∧ LeB w w' := by
  unfold ExUser.Fit at hs
  unfold ExUser.size
  have b0 : (x.name.size : Int) ≤ 9223372036854775807 := by omega
  have b1 : (x.salt.size : Int) ≤ 9223372036854775807 := by omega
  have b2 : (x.hash.size : Int) ≤ 9223372036854775807 := by omega
  have b3 : (x.role.size : Int) ≤ 9223372036854775807 := by omega
  obtain ⟨r, hr⟩ : ∃ r, (if ((x.name.size + x.salt.size + x.hash.size + x.role.size : Nat) : Int) ≤ left then left - (x.name.size + x.salt.size + x.hash.size + x.role.size : Nat) else -1) = r := ⟨_, rfl⟩
  rw [hr]
  by_cases c0 : left - (x.name.size : Int) < 0
  · rw [if_neg (by omega)] at hr
    have HR := Lib.hid hr
    clear hr
    go_enter Tryd.func44, Tryd.ntmps44
    go_wp2_with fail
    go_ret
    exact ⟨by rw [← HR.out]; rfl, (Below.refl _ _).alloc (Nat.le_refl _) _⟩
  have d0 : decide (left - (x.name.size : Int) < 0) = false := decide_eq_false c0
  by_cases c1 : left - (x.name.size : Int) - (x.salt.size : Int) < 0
  · rw [if_neg (by omega)] at hr
    have HR := Lib.hid hr
    clear hr
    go_enter Tryd.func44, Tryd.ntmps44
    go_wp2_with fail
    go_ret
    exact ⟨by rw [← HR.out]; rfl, (Below.refl _ _).alloc (Nat.le_refl _) _⟩
  have d1 : decide (left - (x.name.size : Int) - (x.salt.size : Int) < 0) = false := decide_eq_false c1
  by_cases c2 : left - (x.name.size : Int) - (x.salt.size : Int) - (x.hash.size : Int) < 0
  · rw [if_neg (by omega)] at hr
    have HR := Lib.hid hr
    clear hr
    go_enter Tryd.func44, Tryd.ntmps44
    go_wp2_with fail
    go_ret
    exact ⟨by rw [← HR.out]; rfl, (Below.refl _ _).alloc (Nat.le_refl _) _⟩
  have d2 : decide (left - (x.name.size : Int) - (x.salt.size : Int) - (x.hash.size : Int) < 0) = false := decide_eq_false c2
  by_cases c3 : left - (x.name.size : Int) - (x.salt.size : Int) - (x.hash.size : Int) - (x.role.size : Int) < 0
  · rw [if_neg (by omega)] at hr
    have HR := Lib.hid hr
    clear hr
    go_enter Tryd.func44, Tryd.ntmps44
    go_wp2_with fail
    go_ret
    exact ⟨by rw [← HR.out]; rfl, (Below.refl _ _).alloc (Nat.le_refl _) _⟩
  have d3 : decide (left - (x.name.size : Int) - (x.salt.size : Int) - (x.hash.size : Int) - (x.role.size : Int) < 0) = false := decide_eq_false c3
  rw [if_pos (by omega)] at hr
  have he : left - (x.name.size : Int) - (x.salt.size : Int) - (x.hash.size : Int) - (x.role.size : Int) = r := by omega
  have HR := Lib.hid he
  clear hr he
  go_enter Tryd.func44, Tryd.ntmps44
  go_wp2_with fail
  go_ret
  exact ⟨by rw [← HR.out]; rfl, (Below.refl _ _).alloc (Nat.le_refl _) _⟩
theorem ExUser.At.below {w w' : World} {a : Addr} {x : ExUser} (h : ExUser.At w a x) (hb : LeB w w') : ExUser.At w' a x := by
  have q : ∀ {p : Addr} {u : Value}, w.cell? p = some u → w'.cell? p = some u := fun {p u} hc => (hb.cell (World.block_lt_of_cell? w _ hc)).trans hc
  exact ⟨q h.c0, q h.c1, q h.c2, q h.c3, q h.c4, q h.c5⟩
def exφUser : Nat → Option Spec := fun j => if j = 8 then some (fun _ v _ => v = .bool true) else none
theorem exφUser_st : ∀ j sp x v w w', exφUser j = some sp → LeB w w' → sp x v w → sp x v w' := by
  intro j sp x v w w' hj _ h
  unfold exφUser at hj
  split at hj
  · cases hj; exact h
  · cases hj
theorem eqUserS_ok (l : List ExUser) (A1 A2 : Option Addr) (k1 k2 : Nat) (hc1 : l.length ≤ k1) (hc2 : l.length ≤ k2) (w : World) (hr1 : Rd w A1 (rowC ExUser.row l)) (hr2 : Rd w A2 (rowC ExUser.row l)) (hl : l.length ≤ 1099511627776) :
    Calls Tryd.prog 28 #[.slice A1 l.length k1, .slice A2 l.length k2] w fun e w' => e = .returned (.bool true) ∧ LeB w w' := by
  have hlI : (l.length : Int) ≤ 1099511627776 := by omega
  have hc1I : (l.length : Int) ≤ k1 := by omega
  have hc2I : (l.length : Int) ≤ k2 := by omega
  have HK := Lib.hid (And.intro hr1 hr2)
  clear hr1 hr2
  go_enter Tryd.func28, Tryd.ntmps28
  go_wp2_with fail
  go_loopw [5] (fun i wr => ∃ k : Nat, i = .int .i64 k ∧ k ≤ l.length ∧ LeB w wr) (fun i _ => (l.length - (intOf i).toNat))
  case atStart => exact ⟨0, rfl, Nat.zero_le _, Below.refl _ _⟩
  case round =>
    obtain ⟨k, rfl, hk, hB⟩ := hrel
    have HR := Lib.hid hB
    clear hB
    by_cases hlt : k < l.length
    · have hltI : (k : Int) < l.length := by omega
      obtain ⟨ad1, hA1, q1⟩ := ExUser.At.of (HK.out.1.below HR.out (Nat.le_refl _)) k hlt
      obtain ⟨ad2, hA2, q2⟩ := ExUser.At.of (HK.out.2.below HR.out (Nat.le_refl _)) k hlt
      subst hA1 hA2
      obtain ⟨x, hx⟩ : ∃ x, l[k] = x := ⟨_, rfl⟩
      rw [hx] at q1 q2
      clear hx
      have HQ := Lib.hid (And.intro q1 q2)
      clear q1 q2
      go_wp2_with fail
      refine wp_region_lex 10 (by kernel_rfl) (by kernel_rfl) (JB wr) LeB exφUser exφUser_st JB.mono ?_ ?_
      · exact (Below.refl _ _).drew
      simp only [List.take_succ_cons, List.take_zero, List.drop_succ_cons, List.drop_zero, pairs, List.zipIdx_cons, List.zipIdx_nil, List.map_cons, List.map_nil, Nat.zero_add, Nat.reduceAdd]
      (repeat (refine lex_pure rfl rfl (fun K hK => ?_); go_simp; refine hK _ ?_; clear hK K; try simp (disch := omega) only [IntWalk.i64_in, IntWalk.u8_in, Int.add_sub_cancel, Int.tmod_eq_emod_of_nonneg, Int.tdiv_eq_ediv_of_nonneg]))
      refine lex_load rfl rfl (.agg x.cells) (fun m W hJ hF => by obtain ⟨c0, c1, c2, c3, c4, c5⟩ := HQ.out.1.below hJ; go_simp) ?_
      (repeat (refine lex_pure rfl rfl (fun K hK => ?_); go_simp; refine hK _ ?_; clear hK K; try simp (disch := omega) only [IntWalk.i64_in, IntWalk.u8_in, Int.add_sub_cancel, Int.tmod_eq_emod_of_nonneg, Int.tdiv_eq_ediv_of_nonneg]))
      refine lex_load rfl rfl (.agg x.cells) (fun m W hJ hF => by obtain ⟨c0, c1, c2, c3, c4, c5⟩ := HQ.out.2.below hJ; go_simp) ?_
      refine lex_eff' (sp := fun _ v _ => v = .bool true) rfl rfl (by intro _ _ _ _ h; exact h) (fun m W hJ hF => ?_) (fun v x hh => ?_) rfl
      · refine gives_call Tryd.call51 ((eqUser_ok x W).mono ?_)
        rintro e w' ⟨rfl, h4⟩
        exact ⟨_, rfl, hJ.step h4, h4, rfl⟩
      obtain ⟨_, _, -, rfl, -⟩ := hh
      (repeat (refine lex_pure rfl rfl (fun K hK => ?_); go_simp; refine hK _ ?_; clear hK K; try simp (disch := omega) only [IntWalk.i64_in, IntWalk.u8_in, Int.add_sub_cancel, Int.tmod_eq_emod_of_nonneg, Int.tdiv_eq_ediv_of_nonneg]))
      refine lex_nil (fun m W hJ hF => ?_)
      have H2 := Lib.hid (LeB.tr HR.out hJ)
      clear hF hJ
      go_wp2_with fail
      go_roundw
      case rel => exact ⟨k + 1, by go_num, by omega, H2.out⟩
      case measure => simp [intOf]; omega
    · obtain rfl : k = l.length := by omega
      go_wp2_with fail
      go_ret
      exact ⟨rfl, HR.out⟩
def ExUser.sum (l : List ExUser) : Nat := (l.map ExUser.size).sum
theorem ExUser.sum_take (l : List ExUser) (k : Nat) (h : k < l.length) : ExUser.sum (l.take (k + 1)) = ExUser.sum (l.take k) + l[k].size := by
  unfold ExUser.sum
  rw [List.take_succ_eq_append_getElem h, List.map_append, List.sum_append]
  simp
theorem ExUser.sum_le (l : List ExUser) (k : Nat) : ExUser.sum (l.take k) ≤ ExUser.sum l := by
  have e : ExUser.sum l = ExUser.sum (l.take k) + ExUser.sum (l.drop k) := by
    unfold ExUser.sum
    rw [← List.sum_append, ← List.map_append, List.take_append_drop]
  omega
theorem szUserS_ok (A : Option Addr) (k0 : Nat) (l : List ExUser) (hc : l.length ≤ k0) (hl : l.length ≤ 9223372036854775807) (hs : ∀ x ∈ l, x.Fit) (left : Int) (h0 : 0 ≤ left) (h1 : left ≤ 1048576) (r : Int) (hR : (if ((l.length + ExUser.sum l : Nat) : Int) ≤ left then left - (l.length + ExUser.sum l : Nat) else -1) = r) (w : World) (hr : Rd w A (rowC ExUser.row l)) :
    Calls Tryd.prog 20 #[.slice A l.length k0, .int .i64 left] w fun e w' => e = .returned (.int .i64 r) ∧ LeB w w' := by
  have hlI : (l.length : Int) ≤ 9223372036854775807 := by omega
  have hcI : (l.length : Int) ≤ k0 := by omega
  have HK := Lib.hid (And.intro hr (And.intro hR hs))
  clear hr hR hs
  by_cases c0 : left - (l.length : Int) < 0
  · have hR := HK.out.2.1
    rw [if_neg (by omega)] at hR
    have HR := Lib.hid hR
    clear hR
    go_enter Tryd.func20, Tryd.ntmps20
    go_wp2_with fail
    go_ret
    exact ⟨by rw [← HR.out]; rfl, Below.refl _ _⟩
  · have d0 : decide (left - (l.length : Int) < 0) = false := decide_eq_false c0
    go_enter Tryd.func20, Tryd.ntmps20
    go_wp2_with fail
    go_loopw [1, 5] (fun lv iv wr => ∃ (k : Nat) (q : Int), iv = .int .i64 k ∧ lv = .int .i64 q ∧ k ≤ l.length ∧ q = left - l.length - (ExUser.sum (l.take k) : Nat) ∧ 0 ≤ q ∧ LeB w wr) (fun _ iv _ => (l.length - (intOf iv).toNat))
    case atStart => exact ⟨0, _, rfl, rfl, Nat.zero_le _, by simp [ExUser.sum], by omega, Below.refl _ _⟩
    case round =>
      obtain ⟨k, q, rfl, rfl, hk, hq, hq0, hB⟩ := hrel
      have HR := Lib.hid (And.intro hq hB)
      have hq1 : q ≤ 1048576 := by omega
      clear hq hB
      by_cases hlt : k < l.length
      · have hltI : (k : Int) < l.length := by omega
        obtain ⟨ad1, hA1, q1⟩ := ExUser.At.of (HK.out.1.below HR.out.2 (Nat.le_refl _)) k hlt
        subst hA1
        have hst := ExUser.sum_take l k hlt
        have hsl := ExUser.sum_le l (k + 1)
        have hsx := HK.out.2.2 l[k] (List.getElem_mem hlt)
        obtain ⟨x, hx⟩ : ∃ x, l[k] = x := ⟨_, rfl⟩
        rw [hx] at q1 hst hsx
        clear hx
        have HS := Lib.hid (And.intro hst hsl)
        clear hst hsl
        obtain ⟨p0, p1, p2, p3, p4, p5⟩ := q1
        go_wp2_with fail
        refine (szUser_ok x q hq0 hq1 hsx wr).mono ?_
        rintro e w2 ⟨rfl, hB2⟩
        have H2 := Lib.hid (LeB.tr HR.out.2 hB2)
        clear hB2 p0 p1 p2 p3 p4 p5
        by_cases c1 : (x.size : Int) ≤ q
        · rw [if_pos c1]
          have d1 : decide (q - (x.size : Int) < 0) = false := decide_eq_false (by omega)
          go_wp2_with fail
          go_roundw
          case rel => exact ⟨k + 1, q - x.size, by go_num, rfl, by omega, by rw [HS.out.1]; have := HR.out.1; omega, by omega, H2.out⟩
          case measure => simp [intOf]; omega
        · rw [if_neg c1]
          have hR := HK.out.2.1
          rw [if_neg (by have := HS.out.1; have := HS.out.2; have := HR.out.1; omega)] at hR
          have HR3 := Lib.hid hR
          clear hR
          go_wp2_with fail
          go_ret
          exact ⟨by rw [← HR3.out]; rfl, H2.out⟩
      · obtain rfl : k = l.length := by omega
        have hR := HK.out.2.1
        have hq := HR.out.1
        rw [List.take_length] at hq
        rw [if_pos (by omega)] at hR
        have he : q = r := by omega
        have HE := Lib.hid he
        clear hR hq he
        go_wp2_with fail
        go_ret
        exact ⟨by rw [← HE.out]; rfl, HR.out.2⟩
theorem ExUser.infoz : ∃ (i : TypeInfo) (z : Value), Tryd.prog.info? 87 = some i ∧ i.zero = some z ∧ i.size = 6 ∧ i.bytes ≤ 4096 ∧ z.cells.size = 6 := by
  have h : (match Tryd.prog.info? 87 with | some i => (match i.zero with | some z => i.size == 6 && decide (i.bytes ≤ 4096) && z.cells.size == 6 | none => false) | none => false) = true := by kernel_rfl
  split at h
  · rename_i i hi
    split at h
    · rename_i z hz
      simp only [Bool.and_eq_true, beq_iff_eq, decide_eq_true_eq] at h
      exact ⟨i, z, hi, hz, h.1.1, h.1.2, h.2⟩
    · cases h
  · cases h
theorem toUserS_ok (A : Option Addr) (k0 : Nat) (l : List ExUser) (hc : l.length ≤ k0) (hl : l.length ≤ 1048576) (w : World) (hr : Rd w A (rowC ExUser.row l)) :
    Calls Tryd.prog 24 #[.slice A l.length k0] w fun e w' => ∃ g, e = .returned (.slice (some ⟨g, 0, none⟩) l.length l.length) ∧ w'.ownsRow w.heap.size 87 6 (.slice (some ⟨g, 0, none⟩) l.length l.length) l.length (rowC ExUser.row l) ∧ LeB w w' := by
  obtain ⟨i, z, hi, hz, hsz, hby, hzs⟩ := ExUser.infoz
  have hmk := run_make (P := Tryd.prog) w 23 87 i z Tryd.underlying23 hi hz .i64 .i64 l.length l.length (by omega) (Int.le_refl _) (by have := Nat.mul_le_mul hby hl; omega) (by omega)
  rw [hsz] at hmk
  simp only [Int.toNat_natCast] at hmk
  have hcs : (madeCells z.cells (l.length * 6)).size = l.length * 6 := size_madeCells _ _
  obtain ⟨wa, hwa, hba, hBa⟩ : ∃ x, w.alloc (.cells (madeCells z.cells (l.length * 6)) 87) = x ∧ x.heap[w.heap.size]? = some (.cells (madeCells z.cells (l.length * 6)) 87 (0, 0)) ∧ LeB w x := ⟨_, rfl, heap_alloc_new _ _, (Below.refl _ _).alloc (Nat.le_refl _) _⟩
  rw [hwa] at hmk
  have HK := Lib.hid (And.intro hr (And.intro hl (And.intro hba (And.intro hBa hcs))))
  have hlI : (l.length : Int) ≤ 1048576 := by omega
  have hcI : (l.length : Int) ≤ k0 := by omega
  clear hr hi hz hsz hby hzs hcs hwa hba hBa
  go_enter Tryd.func24, Tryd.ntmps24
  go_wp2_with fail
  clear hmk
  go_loopw [4] (fun iv wr => ∃ (k : Nat) (cur : Array Value), iv = .int .i64 k ∧ k ≤ l.length ∧ wr.heap[w.heap.size]? = some (.cells cur 87 (0, 0)) ∧ cur.size = l.length * 6 ∧ Heads ExUser.row (l.take k) cur ∧ LeB w wr) (fun iv _ => (l.length - (intOf iv).toNat))
  case atStart => exact ⟨0, _, rfl, Nat.zero_le _, HK.out.2.2.1, HK.out.2.2.2.2, ⟨_, by simp [rowC]; rfl⟩, HK.out.2.2.2.1⟩
  case round =>
    obtain ⟨k, cur, rfl, hk, hb, hs, hh, hB⟩ := hrel
    have HR := Lib.hid (And.intro hb (And.intro hs (And.intro hh hB)))
    clear hb hs hh hB
    by_cases hlt : k < l.length
    · have hltI : (k : Int) < l.length := by omega
      obtain ⟨ad1, hA1, q1⟩ := ExUser.At.of (HK.out.1.below HR.out.2.2.2 (Nat.le_refl _)) k hlt
      subst hA1
      have htk := List.take_succ_eq_append_getElem hlt
      obtain ⟨x, hx⟩ : ∃ x, l[k] = x := ⟨_, rfl⟩
      rw [hx] at q1 htk
      have HT := Lib.hid htk
      clear hx htk
      obtain ⟨p0, p1, p2, p3, p4, p5⟩ := q1
      go_wp2_with fail
      refine (toUser_ok x wr).mono ?_
      rintro e w2 ⟨rfl, hB2⟩
      have hz : k * 6 + x.cells.size ≤ cur.size := by show k * 6 + 6 ≤ _; rw [HR.out.2.1]; omega
      have H2 := Lib.hid (And.intro ((hB2.block _ (Array.getElem?_eq_some_iff.1 HR.out.1).1).trans HR.out.1) (And.intro (LeB.tr HR.out.2.2.2 hB2) hz))
      clear hB2 hz p0 p1 p2 p3 p4 p5
      go_wp2_with (refine wpList_store_lay rfl _ _ 87 rfl w.heap.size (k * 6) 87 cur x.cells rfl rfl H2.out.1 H2.out.2.2 ExUser.info rfl ?_)
      go_roundw
      case rel =>
        have hp := HR.out.2.2.1.push ExUser.row_len x
        rw [← HT.out, show (l.take k).length = k from by rw [List.length_take]; omega] at hp
        exact ⟨k + 1, _, by go_num, by omega, setRow_heap _ _ _ _ _ _ H2.out.1, by rw [layC_size _ _ _ H2.out.2.2]; exact HR.out.2.1, hp, below_setRow H2.out.2.1 (Nat.le_refl _) _⟩
      case measure => simp [intOf]; omega
    · obtain rfl : k = l.length := by omega
      have hh := HR.out.2.2.1
      rw [List.take_length] at hh
      have HH := Lib.hid hh
      clear hh
      go_wp2_with fail
      go_ret
      exact ⟨w.heap.size, rfl, heads_own ExUser.row_len (Nat.le_refl _) HR.out.1 (Nat.le_refl _) (by have := HK.out.2.1; simp only [maxLen]; omega) HR.out.2.1 HH.out, HR.out.2.2.2⟩
end Go.Proofs.YtokoijnpbdafgaaDoor
