/- Names: the digits of a byte, the text of a mac (impl's). -/
import Derived.Test.YtmjddgdcokbmeaaDoorNb
import Derived.Test.YtmjddgdcokbmeaaDoorBytes
namespace Go.Proofs.YtmjddgdcokbmeaaDoor
open Go.RowKit
set_option linter.unusedVariables false
set_option linter.unusedSimpArgs false
set_option maxRecDepth 200000
set_option maxHeartbeats 4000000

/-- A row of bytes of its own. -/
def OwnY (B : Nat) (v : Value) (bs : List UInt8) (w : World) : Prop := w.ownsRow B 5 1 v bs.length (bs.map bV)
theorem OwnY.start (w : World) : OwnY w.heap.size (.slice (some ⟨w.heap.size, 0, none⟩) 0 0) [] (w.alloc (.cells #[] 5)) := World.ownsRow_lit w #[] 0 (Nat.le_refl _) (by simp [maxLen]) (by simp)
theorem own_belowY {w w' : World} {B : Nat} {v : Value} {ss : List UInt8} (h : OwnY B v ss w) (hb : LeB w w') : OwnY B v ss w' :=
  World.ownsRow.kept h (grownBy_of_below hb none) (by
    cases hv : v.ownBlock with
    | none => exact Or.inl rfl
    | some b => exact Or.inr (by intro e; cases e))
/-- Bytes behind a row of bytes of its own. -/
theorem push_y {w0 wr : World} {v : Value} {ss : List UInt8} (hB : LeB w0 wr) (ho : OwnY w0.heap.size v ss wr) (hl : ss.length ≤ 1000000) (A : Option Addr) (c : Nat) (ns : List UInt8) (hr : Rd wr A (ns.map bV)) (hn : ns.length ≤ 1000000) :
    ∃ v' w', (Builtin.append_ #[22, 22] 22 #[v, .slice A ns.length c]).run Tryd.prog wr = .ok v' w' ∧ OwnY w0.heap.size v' (ss ++ ns) w' ∧ LeB w0 w' := by
  obtain ⟨v', w', h1, h2, h3⟩ := append_bytes wr w0.heap.size v ss ho A c ns hr (by omega) hB.size
  exact ⟨v', w', h1, h2, hB.grown h3 hB.size (fun g hg => (World.ownsRow.lt ho g hg).1)⟩
def hexL : List UInt8 := [48, 49, 50, 51, 52, 53, 54, 55, 56, 57, 97, 98, 99, 100, 101, 102]
def hex1 (b : UInt8) : List UInt8 := [hexL[b.toNat / 16]!, hexL[b.toNat % 16]!]
def hexB : ByteArray := ⟨#[48, 49, 50, 51, 52, 53, 54, 55, 56, 57, 97, 98, 99, 100, 101, 102]⟩
theorem hexB_at : ∀ x : Fin 16, hexB[x.val]'(x.isLt) = hexL[x.val]! := by decide
/-- A new row of two bytes. -/
def TwoR (l : List UInt8) : Spec := fun _ v w => ∃ g : Nat, v = .slice (some ⟨g, 0, none⟩) 2 2 ∧ Rd w (some ⟨g, 0, none⟩) (l.map bV)
def twoφ (k : Nat) (l : List UInt8) : Nat → Option Spec := fun j => if j = k then some (TwoR l) else none
theorem twoφ_st {k : Nat} {l : List UInt8} : ∀ j sp x v w w', twoφ k l j = some sp → LeB w w' → sp x v w → sp x v w' := by
  intro j sp x v w w' hj hL h
  unfold twoφ at hj
  split at hj
  · cases hj
    obtain ⟨g, h1, h2⟩ := h
    exact ⟨g, h1, h2.below hL (Nat.le_refl _)⟩
  · cases hj
theorem hexText_ok (b : UInt8) (w : World) : Calls Tryd.prog 94 #[.string ⟨#[b]⟩] w fun e w' => e = .returned (.string (bstr (hex1 b))) ∧ LeB w w' := by
  have hb := b.toNat_lt
  have hbI : (b.toNat : Int) ≤ 255 := by omega
  go_enter Tryd.func94, Tryd.ntmps94
  go_wp2
  generalize hW : w.alloc _ = W
  have hown : OwnY w.heap.size (.slice (some ⟨w.heap.size, 0, none⟩) 0 0) [] W := by rw [← hW]; exact OwnY.start w
  have hB : LeB w W := by rw [← hW]; exact (Below.refl _ _).alloc (Nat.le_refl _) _
  clear hW
  go_loopw [3, 8] (fun v i wr => ∃ (s : Int) (l : List UInt8), i = .int .i64 s ∧ ((s = 0 ∧ l = []) ∨ (s = 1 ∧ l = hex1 b)) ∧ OwnY w.heap.size v l wr ∧ LeB w wr) (fun _ i _ => 1 - (intOf i).toNat)
  case atStart => exact ⟨0, [], rfl, .inl ⟨rfl, rfl⟩, hown, hB⟩
  case round =>
    obtain ⟨s, l, rfl, h5, hown, hB⟩ := hrel
    have HO := Lib.hid (And.intro hown hB)
    clear hown hB
    rcases h5 with ⟨rfl, rfl⟩ | ⟨rfl, rfl⟩
    · have hix : ((⟨#[b]⟩ : ByteArray)[0]'(by show 0 < 1; omega)).toNat = b.toNat := rfl
      have h1 : ((b.toNat : Int) / 16) = ((b.toNat / 16 : Nat) : Int) := by push_cast; rfl
      have h2 : ((b.toNat : Int) % 16) = ((b.toNat % 16 : Nat) : Int) := by push_cast; rfl
      have l1 : b.toNat / 16 < 16 := by omega
      have l2 : b.toNat % 16 < 16 := by omega
      have x1 := hexB_at ⟨b.toNat / 16, l1⟩
      have x2 := hexB_at ⟨b.toNat % 16, l2⟩
      have hx : hex1 b = [hexL[b.toNat / 16]!, hexL[b.toNat % 16]!] := rfl
      simp only at x1 x2
      generalize b.toNat / 16 = y1 at h1 l1 x1 hx
      generalize b.toNat % 16 = y2 at h2 l2 x2 hx
      rw [← x1, ← x2] at hx
      have HX := Lib.hid hx
      have l1I : (y1 : Int) < 16 := by omega
      have l2I : (y2 : Int) < 16 := by omega
      unfold hexB at HX x1 x2
      clear hx x1 x2
      go_wp2_with fail
      refine wp_region_lex 12 (by kernel_rfl) (by kernel_rfl) (JB wr) LeB (twoφ 11 (hex1 b)) twoφ_st JB.mono ?_ ?_
      · exact (Below.refl _ _).drew
      simp only [List.take_succ_cons, List.take_zero, List.drop_succ_cons, List.drop_zero, pairs, List.zipIdx_cons, List.zipIdx_nil, List.map_cons, List.map_nil, Nat.zero_add, Nat.reduceAdd]
      (repeat (refine lex_pure rfl rfl (fun K hK => ?_); go_simp; refine hK _ ?_; clear hK K; try simp (disch := omega) only [IntWalk.i64_in, IntWalk.u8_in, Int.add_sub_cancel, Int.tmod_eq_emod_of_nonneg, Int.tdiv_eq_ediv_of_nonneg]))
      generalize (⟨#[48, 49, 50, 51, 52, 53, 54, 55, 56, 57, 97, 98, 99, 100, 101, 102]⟩ : ByteArray)[y1]'(l1) = d1 at HX ⊢
      generalize (⟨#[48, 49, 50, 51, 52, 53, 54, 55, 56, 57, 97, 98, 99, 100, 101, 102]⟩ : ByteArray)[y2]'(l2) = d2 at HX ⊢
      refine lex_eff' (sp := TwoR (hex1 b)) rfl rfl (by intro _ _ _ _ h; exact h) (fun m W hJ hF => ?_) (fun v x hh => ?_) rfl
      · have hb : LeB W (W.alloc (.cells #[.int .u8 (d1.toNat : Int), .int .u8 (d2.toNat : Int)] 5)) := (Below.refl _ _).alloc (Nat.le_refl _) _
        exact gives_value (by go_simp; rfl) ⟨hJ.step hb, hb, _, rfl, by rw [HX.out]; simpa [bV] using Rd.block (heap_alloc_new W (.cells #[.int .u8 (d1.toNat : Int), .int .u8 (d2.toNat : Int)] 5)) 0⟩
      obtain ⟨_, _, -, ⟨gb, rfl, -⟩, -⟩ := hh
      refine lex_nil (fun m W hJ hF => ?_)
      obtain ⟨gb', e1, hrd⟩ := hF 11 rfl _ _ _ rfl rfl
      cases e1
      have HL := Lib.hid (And.intro (LeB.tr HO.out.2 hJ) (And.intro (own_belowY HO.out.1 hJ) hrd))
      clear hF hJ hrd
      go_wp2_with (at_builtin; (obtain ⟨v', w2, hr, ho, hb⟩ := push_y HL.out.1 HL.out.2.1 (by simp) _ 2 (hex1 b) HL.out.2.2 (by simp [hex1]); refine wpList_append_run rfl _ _ _ _ rfl rfl rfl hr ?_); clear hr)
      go_roundw
      case rel => exact ⟨1, hex1 b, by go_num, .inr ⟨rfl, rfl⟩, ho, hb⟩
      case measure => simp [intOf]
    · obtain ⟨A, c, rfl, hc, hr, -⟩ := own_slice HO.out.1
      have hcv := bytes_str A _ c (hex1 b) rfl wr hr
      have HR := Lib.hid HO.out.2
      clear hc hr
      go_wp2_with fail
      go_ret
      exact ⟨rfl, HR.out⟩
end Go.Proofs.YtmjddgdcokbmeaaDoor
