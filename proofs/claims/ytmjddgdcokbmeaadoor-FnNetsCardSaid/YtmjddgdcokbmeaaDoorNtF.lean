/- Nets: a net and a list of nets that are drawn. -/
import Derived.Test.YtmjddgdcokbmeaaDoorNt
namespace Go.Proofs.YtmjddgdcokbmeaaDoor
open Go.RowKit
set_option linter.unusedVariables false
set_option linter.unusedSimpArgs false
set_option maxRecDepth 200000
set_option maxHeartbeats 4000000

theorem srcMore {w : World} {g : Nat} {N M : Int} (h : Src w g N) (hNM : N ≤ M) : Src w g M := by
  obtain ⟨A, c, bs, a, s, h1, h2, h3, h4, h5, h6, h7⟩ := h
  exact ⟨A, c, bs, a, s, h1, h2, h3, h4, by omega, h6, h7⟩
theorem grown_setRowN {a w : World} {row : Option Nat} (h : a.grownBy w row) {b : Nat} (hb : a.heap.size ≤ b) (cs : Array Value) : a.grownBy (w.setRow b cs) row :=
  ⟨h.os, h.tape, h.output, by simpa [World.setRow] using h.size, fun i hi hne => (setRow_other w b i cs (by omega)).trans (h.block i hi hne)⟩
theorem net_ok (g : Nat) (N : Int) (w : World) (hs : Src w g N) (hN : N ≤ 100000000) :
    Calls Tryd.prog 97 #[.pointer (some ⟨g, 0, none⟩)] w (SrcRet w g (N + 3) fun v => ∃ x : Nt, x ∈ N6 ∧ v = .agg x.cells) := by
  have hlt := hs.lt
  go_enter Tryd.func97, Tryd.ntmps97
  go_upto_region 1 with (fail)
  generalize hw0 : World.alloc w (.cells #[.int .i64 0, .int .i64 0] 54) = wa
  have hblk : wa.heap[World.heap w |>.size]? = some (.cells #[.int .i64 0, .int .i64 0] 54 (0, 0)) := by rw [← hw0]; exact heap_alloc_new _ _
  have hlt : (World.heap w).size < wa.heap.size := (Array.getElem?_eq_some_iff.1 hblk).1
  have hB0 : Below (World.heap w).size w wa := by rw [← hw0]; exact (Below.refl _ _).alloc (Nat.le_refl _) _
  have hsz : (World.heap wa).size = (World.heap w).size + 1 := by rw [← hw0]; simp
  clear hw0
  have hsa := hs.below hB0 hs.lt
  have HA := Lib.hid (And.intro hblk (And.intro hB0 (And.intro hsz hsa)))
  have hla : g < wa.heap.size := hsa.lt
  clear hblk hB0 hsz hsa hs
  go_wp2_with fail
  refine (next_ok g N 6 _ (src_alloc HA.out.2.2.2 _) hN (by omega)).mono ?_
  rintro e w1 ⟨v, rfl, ⟨x, rfl, hx0, hx1⟩, hs1, hg1⟩
  obtain ⟨k, rfl⟩ := Int.eq_ofNat_of_zero_le hx0
  have hk : k < 6 := by omega
  have hb1 : w1.heap[w.heap.size]? = some (.cells #[.int .i64 0, .int .i64 0] 54 (0, 0)) :=
    (hg1.block _ (by simp; have := HA.out.2.2.1; omega) (by simp; omega)).trans ((heap_alloc_old _ _ (by have := HA.out.2.2.1; omega)).trans HA.out.1)
  have hgg : w.grownBy w1 (some g) := World.grownBy.trans (grownBy_of_below HA.out.2.1 _) (World.grownBy.trans (World.grownBy_alloc _ _ _) hg1)
  have HB := Lib.hid (And.intro hb1 (And.intro hs1 hgg))
  have hx : ∃ y : Nt, y ∈ N6 ∧ w1.cell? ⟨wa.heap.size, k * 2, none⟩ = some (.int .i64 (y.ip : Int)) ∧ w1.cell? ⟨wa.heap.size, k * 2 + 1, none⟩ = some (.int .i64 (y.bits : Int)) := by
    have hc := fun j h => row_cell hg1 hla j h
    have h6 : k = 0 ∨ k = 1 ∨ k = 2 ∨ k = 3 ∨ k = 4 ∨ k = 5 := by omega
    rcases h6 with rfl | rfl | rfl | rfl | rfl | rfl
    · exact ⟨⟨167772160, 8⟩, by decide, hc 0 (by simp), hc 1 (by simp)⟩
    · exact ⟨⟨167772162, 32⟩, by decide, hc 2 (by simp), hc 3 (by simp)⟩
    · exact ⟨⟨0, 0⟩, by decide, hc 4 (by simp), hc 5 (by simp)⟩
    · exact ⟨⟨84213760, 16⟩, by decide, hc 6 (by simp), hc 7 (by simp)⟩
    · exact ⟨⟨84215044, 30⟩, by decide, hc 8 (by simp), hc 9 (by simp)⟩
    · exact ⟨⟨2147483648, 1⟩, by decide, hc 10 (by simp), hc 11 (by simp)⟩
  obtain ⟨y, hy, y0, y1⟩ := hx
  have HY := Lib.hid hy
  have hkI : (k : Int) < 6 := by omega
  clear hx0 hx1 hb1 hs1 hg1 hgg hy
  go_wp2_with (refine wpList_store_row rfl _ _ 54 rfl w.heap.size 54 #[.int .i64 0, .int .i64 0] y.cells rfl rfl HB.out.1 rfl Nt.info rfl ?_)
  refine bodyPost_ret (ret_cell rfl rfl (setRow_heap _ _ _ _ _ _ HB.out.1) Tryd.underlying54 rfl Nt.info) rfl ?_
  exact ⟨_, rfl, ⟨y, HY.out, rfl⟩, HB.out.2.1.keep fun j hj => setRow_other _ _ _ _ (by omega), grown_setRowN HB.out.2.2 (Nat.le_refl _) _⟩

/-- A row of nets of its own. -/
def OwnN (B : Nat) (v : Value) (l : List Nt) (w : World) : Prop := w.ownsRow B 54 2 v l.length (rowC Nt.row l)
theorem keepN {w w' : World} {B g : Nat} {v : Value} {l : List Nt} (h : OwnN B v l w) (hg : w.grownBy w' (some g)) (hlt : g < B) : OwnN B v l w' :=
  World.ownsRow.kept h hg (by
    cases hv : v.ownBlock with
    | none => exact .inl rfl
    | some b =>
      refine .inr fun e => ?_
      have h1 := (World.ownsRow.lt h b hv).1
      have h2 : b = g := by injection e
      omega)
theorem ownLess {w : World} {B B' : Nat} {v : Value} {l : List Nt} (h : OwnN B v l w) (hB : B' ≤ B) : OwnN B' v l w := own_base h hB
theorem LeB.trB {w w1 w2 : World} (h1 : LeB w w1) (h2 : Below w.heap.size w1 w2) : LeB w w2 := h1.trans h2
theorem push_n {w0 wr : World} {g : Nat} {N : Int} {v : Value} {l : List Nt} (ho : OwnN w0.heap.size v l wr) (hB : Below g w0 wr) (hsz : w0.heap.size ≤ wr.heap.size) (hs : Src wr g N) (hlt : g < w0.heap.size) (hl : l.length ≤ 1000) (y : Nt) :
    ∃ v' w', (Builtin.append_ #[48, 48] 48 #[v, .slice (some ⟨wr.heap.size, 0, none⟩) 1 1]).run Tryd.prog (wr.alloc (.cells y.cells 54)) = .ok v' w' ∧ OwnN w0.heap.size v' (l ++ [y]) w' ∧ Below g w0 w' ∧ w0.heap.size ≤ w'.heap.size ∧ Src w' g N := by
  obtain ⟨i, hi, hz, hsi, hby⟩ := info_parts Nt.infob
  have hr : Rd (wr.alloc (.cells y.cells 54)) (some ⟨wr.heap.size, 0, none⟩) y.row := by simpa [Nt.row] using Rd.block (heap_alloc_new wr (.cells y.cells 54)) 0
  have ho' : (wr.alloc (.cells y.cells 54)).ownsRow w0.heap.size 54 2 v l.length (rowC Nt.row l) := World.ownsRow.alloc ho _
  obtain ⟨v', w', h1, h2, h3, _⟩ := run_append_rd (P := Tryd.prog) _ w0.heap.size 48 48 54 i _ 2 16 Tryd.underlying48 hi hz hsi hby rfl (by omega) v l.length (rowC Nt.row l) ho' (some ⟨wr.heap.size, 0, none⟩) 1 1 y.row rfl hr
    (Nt.row_one y) (by simp only [maxLen]; omega) (by omega) (by simp; omega)
  have hsa := src_alloc hs (.cells y.cells 54)
  have hne : ∀ k, k ≤ g → some k ≠ v.ownBlock := fun k hk e => by
    have := (World.ownsRow.lt ho k e.symm).1
    omega
  refine ⟨v', w', h1, ?_, ?_, ?_, ?_⟩
  · unfold OwnN
    rw [List.length_append, rowC_app]
    have e1 : rowC Nt.row [y] = y.row := by simp [rowC]
    rw [e1]
    exact h2
  · exact (hB.alloc (by omega) _).grown h3 (by simp; omega) (fun k hk => by have := (World.ownsRow.lt ho k hk).1; omega)
  · have := h3.size
    simp at this
    omega
  · exact hsa.keep fun k hk => h3.block k (by simp; omega) (fun e => hne k (by omega) e)
theorem nets_ok (g : Nat) (w : World) (hs : Src w g 0) :
    Calls Tryd.prog 65 #[.pointer (some ⟨g, 0, none⟩)] w fun e w' => ∃ (v : Value) (l : List Nt), e = .returned v ∧ l.length ≤ 5 ∧ (∀ x ∈ l, x ∈ N6) ∧ OwnN w.heap.size v l w' ∧ Below g w w' := by
  have hlt := hs.lt
  go_enter Tryd.func65, Tryd.ntmps65
  go_upto_region 2 with (fail)
  generalize hW : w.alloc _ = W
  have hown : OwnN w.heap.size (.slice (some ⟨w.heap.size, 0, none⟩) 0 0) [] W := by rw [← hW]; exact World.ownsRow_lit w #[] 0 (Nat.le_refl _) (by simp [maxLen]) (by simp)
  have hB : LeB w W := by rw [← hW]; exact (Below.refl _ _).alloc (Nat.le_refl _) _
  clear hW
  have hsW := hs.below hB hlt
  go_wp2_with fail
  refine (next_ok g 0 6 _ hsW (by omega) (by omega)).mono ?_
  rintro e w1 ⟨v, rfl, ⟨x, rfl, hx0, hx1⟩, hs1, hg1⟩
  have ho1 : OwnN w.heap.size (.slice (some ⟨w.heap.size, 0, none⟩) 0 0) [] w1 := keepN hown hg1 hlt
  have hB1 : Below g w w1 := Below.grown (hB.mono (by omega)) hg1 (by have := hB.size; omega) (fun k e => by cases e; exact Nat.le_refl _)
  have hw1 : w.heap.size ≤ w1.heap.size := hB1.size
  have HS := Lib.hid (And.intro ho1 (And.intro hB1 (And.intro hw1 hs1)))
  obtain ⟨n, rfl⟩ := Int.eq_ofNat_of_zero_le hx0
  have hn5 : n ≤ 5 := by omega
  clear hown hB hsW hs1 hg1 ho1 hB1 hw1 hx0 hx1
  go_wp2_with fail
  go_loopw [3, 4] (fun v i wr => ∃ (j : Nat) (l : List Nt), i = .int .i64 j ∧ l.length + j ≤ 5 ∧ (∀ x ∈ l, x ∈ N6) ∧ OwnN w.heap.size v l wr ∧ Below g w wr ∧ w.heap.size ≤ wr.heap.size ∧ Src wr g (100 - 10 * (j : Int))) (fun _ i _ => (intOf i).toNat)
  case atStart => exact ⟨n, [], rfl, by simpa using hn5, (fun x hx => by cases hx), HS.out.1, HS.out.2.1, HS.out.2.2.1, srcMore HS.out.2.2.2 (by omega)⟩
  case round =>
    obtain ⟨j, l, rfl, hj, hin, ho, hB, hsz, hsr⟩ := hrel
    have HR := Lib.hid (And.intro hin (And.intro ho (And.intro hB (And.intro hsz hsr))))
    have hl5 : l.length ≤ 5 := by omega
    clear hin ho hB hsz hsr
    by_cases h0 : j = 0
    · subst h0
      go_wp2_with fail
      go_ret
      exact ⟨_, l, rfl, hl5, HR.out.1, HR.out.2.1, HR.out.2.2.1⟩
    · obtain ⟨j, rfl⟩ : ∃ m, j = m + 1 := ⟨j - 1, by omega⟩
      have hjI : (0 : Int) < ((j + 1 : Nat) : Int) := by omega
      have hjN : 0 < j + 1 := by omega
      go_wp2_with fail
      refine (net_ok g _ wr HR.out.2.2.2.2 (by omega)).mono ?_
      rintro e w2 ⟨v2, rfl, ⟨y, hy, rfl⟩, hs2, hg2⟩
      have ho2 : OwnN w.heap.size u3 l w2 := keepN HR.out.2.1 hg2 hlt
      have hB2 : Below g w w2 := Below.grown HR.out.2.2.1 hg2 (by have := HR.out.2.2.2.1; omega) (fun k e => by cases e; exact Nat.le_refl _)
      have hz2 : w.heap.size ≤ w2.heap.size := by have := hg2.size; have := HR.out.2.2.2.1; omega
      have H2 := Lib.hid (And.intro ho2 (And.intro hB2 (And.intro hz2 (And.intro hs2 hy))))
      clear ho2 hB2 hz2 hs2 hg2 hy
      go_wp2_with (at_builtin; (obtain ⟨v', w3, hr, ho, hb, hzz, hss⟩ := push_n H2.out.1 H2.out.2.1 H2.out.2.2.1 H2.out.2.2.2.1 hlt (by omega) y; refine wpList_append_run rfl _ _ _ _ rfl rfl rfl hr ?_); clear hr)
      go_roundw
      case rel =>
        refine ⟨j, l ++ [y], by go_num, by simp; omega, fun x hx => ?_, ho, hb, hzz, srcMore hss (by push_cast; omega)⟩
        rcases List.mem_append.1 hx with hx | hx
        · exact HR.out.1 x hx
        · rw [List.mem_singleton.1 hx]; exact H2.out.2.2.2.2
      case measure => simp [intOf]
theorem NetsOf_ok (A : Option Addr) (c : Nat) (bs : List UInt8) (hl : bs.length ≤ 1099511627776) (w : World) (hr : Rd w A (bs.map bV)) :
    Calls Tryd.prog 26 #[.slice A bs.length c] w fun e w' => ∃ (v : Value) (l : List Nt), e = .returned v ∧ l.length ≤ 5 ∧ (∀ x ∈ l, x ∈ N6) ∧ OwnN w.heap.size v l w' ∧ LeB w w' := by
  go_enter Tryd.func26, Tryd.ntmps26
  go_wp2_with fail
  refine (l00Source_ok A c bs hl w hr).mono ?_
  rintro e w1 ⟨rfl, hs, hB1⟩
  have HS := Lib.hid hs
  clear hs
  go_wp2_with fail
  refine (nets_ok w.heap.size w1 HS.out).mono ?_
  rintro e w2 ⟨v, l, rfl, h5, hin, ho, hB2⟩
  have H2 := Lib.hid (And.intro h5 (And.intro hin (And.intro ho (LeB.trB hB1 hB2))))
  clear h5 hin ho hB1 hB2
  go_wp2_with fail
  go_ret
  exact ⟨v, l, rfl, H2.out.1, H2.out.2.1, ownLess H2.out.2.2.1 (by have := HS.out.lt; omega), H2.out.2.2.2⟩
end Go.Proofs.YtmjddgdcokbmeaaDoor
