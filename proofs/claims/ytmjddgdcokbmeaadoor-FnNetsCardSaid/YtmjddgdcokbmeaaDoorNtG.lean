/- Nets: what NetHas and NetText answer; a net's text read again (impl's). -/
import Derived.Test.YtmjddgdcokbmeaaDoorNtE
import Derived.Test.YtmjddgdcokbmeaaDoorNtF
import Derived.Shelf.Strings.Cut
namespace Go.Proofs.YtmjddgdcokbmeaaDoor
open Go.RowKit Go.Shelf
set_option linter.unusedVariables false
set_option linter.unusedSimpArgs false
set_option maxRecDepth 200000
set_option maxHeartbeats 4000000

def layCut_ren : Go.Shelf.Ren := ⟨fun | 145 => 101 | 220 => 116 | 219 => 119 | 217 => 114 | 225 => 127 | 224 => 128 | 267 => 129 | 266 => 125 | 314 => 139 | n => n, fun | 9 => 9 | 4 => 4 | 59 => 114 | 3 => 3 | 5 => 5 | 46 => 107 | 146 => 148 | 51 => 147 | n => n, fun | 1 => 0 | n => n⟩
theorem layCut : Go.Proofs.Lays.n145 Tryd.prog layCut_ren where
  mixed := by kernel_rfl
  f145 := Tryd.func101.trans (congrArg some (by kernel_rfl))
  f217 := Tryd.func114.trans (congrArg some (by kernel_rfl))
  f219 := Tryd.func119.trans (congrArg some (by kernel_rfl))
  f220 := Tryd.func116.trans (congrArg some (by kernel_rfl))
  f224 := Tryd.func128.trans (congrArg some (by kernel_rfl))
  f225 := Tryd.func127.trans (congrArg some (by kernel_rfl))
  f266 := Tryd.func125.trans (congrArg some (by kernel_rfl))
  f267 := Tryd.func129.trans (congrArg some (by kernel_rfl))
  f314 := Tryd.func139.trans (congrArg some (by kernel_rfl))
  t3 := Tryd.underlying3
  a3 := Tryd.isAgg3
  z3 := Tryd.sizeOf3
  v3 := Tryd.zeroValue3
  t4 := Tryd.underlying4
  a4 := Tryd.isAgg4
  z4 := Tryd.sizeOf4
  v4 := Tryd.zeroValue4
  t5 := Tryd.underlying5
  a5 := Tryd.isAgg5
  z5 := Tryd.sizeOf5
  v5 := Tryd.zeroValue5
  t9 := Tryd.underlying9
  a9 := Tryd.isAgg9
  z9 := Tryd.sizeOf9
  v9 := Tryd.zeroValue9
  t46 := Tryd.underlying107
  a46 := Tryd.isAgg107
  z46 := Tryd.sizeOf107
  v46 := Tryd.zeroValue107
  t51 := Tryd.underlying147
  a51 := Tryd.isAgg147
  z51 := Tryd.sizeOf147
  v51 := Tryd.zeroValue147
  t59 := Tryd.underlying114
  a59 := Tryd.isAgg114
  z59 := Tryd.sizeOf114
  v59 := Tryd.zeroValue114
  t146 := Tryd.underlying148
  a146 := Tryd.isAgg148
  z146 := Tryd.sizeOf148
  v146 := Tryd.zeroValue148
  g1 := by kernel_rfl

theorem cut_join (c : UInt8) (p r : List UInt8) (h : c ∉ p) : Lib.cut (p ++ c :: r) [c] = (p, r, true) := by
  have hi : Lib.index (p ++ c :: r) [c] = p.length := by rw [Lib.index_one]; exact indexByte_at c p _ h
  unfold Lib.cut
  simp only [hi]
  have hd : (p ++ c :: r).drop (p.length + 1) = r := by rw [show p ++ c :: r = (p ++ [c]) ++ r by simp, List.drop_left' (by simp)]
  have ht : (p ++ c :: r).take p.length = p := List.take_left' rfl
  simp [hd, ht]
theorem cut_ok (p q : ByteArray) (h : (47 : UInt8) ∉ p.data.toList) (t : ByteArray) (ht : p ++ ⟨#[47]⟩ ++ q = t) (hs : t.size < 4294967281) (w : World) (hw : StdW w) :
    Calls Tryd.prog 101 #[.string t, .string ⟨#[47]⟩] w fun e w' => e = .returned (.tuple #[.string p, .string q, .bool true]) ∧ LeB w w' := by
  obtain ⟨m, hm⟩ := hw.mx
  refine (Any.strings_Cut layCut t ⟨#[47]⟩ m w hs hm).mono ?_
  rintro e w' ⟨rfl, n, rfl⟩
  have e1 : Lib.cut t.data.toList (⟨#[47]⟩ : ByteArray).data.toList = (p.data.toList, q.data.toList, true) := by
    rw [← ht]
    simp only [ByteArray.data_append, Array.toList_append]
    exact (by simpa using cut_join 47 p.data.toList q.data.toList h)
  rw [e1]
  exact ⟨rfl, below_drewN (Below.refl _ _) n⟩
def ntText (x : Nt) : ByteArray := adText x.ip ++ ⟨#[47]⟩ ++ digS x.bits
theorem ntText_size (x : Nt) (h : x.bits ≤ 99) : (ntText x).size ≤ 18 := by
  have h1 := adText_size x.ip
  have h2 := dec_len 1 x.bits (by omega)
  unfold ntText
  rw [ByteArray.size_append, ByteArray.size_append, digS, bstr_size]
  unfold adText
  show _ + 1 + _ ≤ _
  omega
theorem adText_no (n : Nat) : (47 : UInt8) ∉ (adText n).data.toList := by
  unfold adText joinS
  rw [bstr_data]
  have h : ∀ k : Nat, (47 : UInt8) ∉ Lib.decDigits k := fun k => dec_nodot k 47 (by decide)
  simp only [adParts, List.map_cons, List.map_nil, joinC, digS, bstr_data, List.mem_append, List.mem_cons]
  simp [h]
theorem NetHas_ok (x : Nt) (hx : x ∈ N6) (ip : Nat) (hip : ip < 4294967296) (b : Bool) (hb : hasB x ip = b) (w : World) : Calls Tryd.prog 29 #[.agg x.cells, .int .i64 ip] w fun e w' => e = .returned (.tuple #[.bool b, .int .i64 0]) ∧ LeB w w' := by
  have HK := Lib.hid (And.intro hx (And.intro hip hb))
  clear hx hip hb
  go_enter Tryd.func29, Tryd.ntmps29
  go_upto_region 1 with (fail)
  generalize hw0 : World.alloc w (.cells x.cells 54) = wa
  have hblk : wa.heap[World.heap w |>.size]? = some (.cells x.cells 54 (0, 0)) := by rw [← hw0]; exact heap_alloc_new _ _
  have hlt : (World.heap w).size < wa.heap.size := (Array.getElem?_eq_some_iff.1 hblk).1
  have hB0 : Below (World.heap w).size w wa := by rw [← hw0]; exact (Below.refl _ _).alloc (Nat.le_refl _) _
  clear hw0
  have HX := Lib.hid (And.intro hblk (And.intro hlt hB0))
  have c0 := blk_cell hblk 0
  have c1 := blk_cell hblk 1
  simp at c0 c1
  clear hblk hlt hB0
  go_wp2_with fail
  refine (NetOK_ok x HK.out.1 wa).mono ?_
  rintro e w1 ⟨rfl, hB1⟩
  clear c0 c1
  have hb1 := (hB1.block _ HX.out.2.1).trans HX.out.1
  have H1 := Lib.hid (LeB.tr HX.out.2.2 hB1)
  have c0 := blk_cell hb1 0
  have c1 := blk_cell hb1 1
  simp at c0 c1
  clear hB1 hb1
  go_wp2_with fail
  refine (isAddress_t ip HK.out.2.1 _).mono ?_
  rintro e w1' ⟨rfl, rfl⟩
  go_wp2_with fail
  refine (has_ok x HK.out.1 ip HK.out.2.1 b HK.out.2.2 _).mono ?_
  rintro e w2 ⟨rfl, hB2⟩
  have H2 := Lib.hid (LeB.tr H1.out hB2)
  clear hB2 c0 c1
  go_wp2_with fail
  go_ret2
  exact ⟨rfl, H2.out⟩
def txφ (a b : ByteArray) : Nat → Option Spec
  | 2 => some fun _ v _ => v = .string a
  | 6 => some fun _ v _ => v = .string b
  | _ => none
theorem txφ_st {a b : ByteArray} : ∀ j sp x v w w', txφ a b j = some sp → LeB w w' → sp x v w → sp x v w' := by
  intro j sp x v w w' hj _ h
  unfold txφ at hj
  split at hj <;> first | (cases hj; exact h) | cases hj
theorem netText_ok (x : Nt) (hip : x.ip < 4294967296) (hbt : x.bits ≤ 32) (w : World) (hw : StdW w) : Calls Tryd.prog 71 #[.agg x.cells] w fun e w' => e = .returned (.string (ntText x)) ∧ LeB w w' := by
  have c1 := fun W (h : LeB w W) => addressText_ok x.ip hip W (hw.below h)
  have c2 := fun W (h : LeB w W) => hw.dig x.bits (by omega) W h
  have z1 : (adText x.ip).size ≤ 15 := adText_size x.ip
  have z2 := dig_size x.bits (by omega)
  obtain ⟨t, ht⟩ : ∃ t, ntText x = t := ⟨_, rfl⟩
  rw [ht]
  unfold ntText at ht
  obtain ⟨a, ha⟩ : ∃ a, adText x.ip = a := ⟨_, rfl⟩
  obtain ⟨b, hb⟩ : ∃ b, digS x.bits = b := ⟨_, rfl⟩
  rw [ha, hb] at ht
  rw [ha] at c1 z1
  rw [hb] at c2 z2
  have HK := Lib.hid (And.intro c1 (And.intro c2 ht))
  have z3 : (⟨#[47]⟩ : ByteArray).size = 1 := rfl
  clear c1 c2 ht ha hb hip hbt hw
  go_enter Tryd.func71, Tryd.ntmps71
  go_upto_region 1 with (fail)
  generalize hw0 : World.alloc w (.cells x.cells 54) = wa
  have hblk : wa.heap[World.heap w |>.size]? = some (.cells x.cells 54 (0, 0)) := by rw [← hw0]; exact heap_alloc_new _ _
  have hlt : (World.heap w).size < wa.heap.size := (Array.getElem?_eq_some_iff.1 hblk).1
  have hB0 : Below (World.heap w).size w wa := by rw [← hw0]; exact (Below.refl _ _).alloc (Nat.le_refl _) _
  clear hw0
  have hcell : ∀ W, Below wa.heap.size wa W → W.cell? ⟨w.heap.size, 0, none⟩ = some (.int .i64 (x.ip : Int)) ∧ W.cell? ⟨w.heap.size, 1, none⟩ = some (.int .i64 (x.bits : Int)) := fun W hW => by
    have e1 := (hW.block _ hlt).trans hblk
    exact ⟨blk_cell e1 0, blk_cell e1 1⟩
  have HX := Lib.hid hB0
  clear hblk hlt hB0
  refine wp_region_lex 8 (by kernel_rfl) (by kernel_rfl) (JB wa) LeB (txφ a b) txφ_st JB.mono ?_ ?_
  · exact (Below.refl _ _).drew
  simp only [List.take_succ_cons, List.take_zero, List.drop_succ_cons, List.drop_zero, pairs, List.zipIdx_cons, List.zipIdx_nil, List.map_cons, List.map_nil, Nat.zero_add, Nat.reduceAdd]
  (repeat (first | (refine lex_pure rfl rfl (fun K hK => ?_); go_simp; refine hK _ ?_; clear hK K; try simp (disch := omega) only [IntWalk.i64_in, IntWalk.u8_in, Int.add_sub_cancel, Int.tmod_eq_emod_of_nonneg, Int.tdiv_eq_ediv_of_nonneg]) | (refine lex_load rfl rfl _ (fun m W hJ hF => (by have cc := hcell W hJ; go_simp; rfl)) ?_; try simp (disch := omega) only [IntWalk.i64_in, IntWalk.u8_in, Int.add_sub_cancel, Int.tmod_eq_emod_of_nonneg, Int.tdiv_eq_ediv_of_nonneg]) | (refine lex_sadd rfl rfl rfl rfl rfl (by first | omega | (simp only [ByteArray.size_append]; omega)) ?_; go_simp)))
  refine lex_eff' (sp := fun _ v _ => v = .string a) rfl rfl (by intro _ _ _ _ h; exact h) (fun m W hJ hF => ?_) (fun v x hh => ?_) rfl
  · refine gives_call Tryd.call54 ((HK.out.1 W (LeB.tr HX.out hJ)).mono ?_)
    rintro e w' ⟨rfl, h4⟩
    exact ⟨_, rfl, hJ.step h4, h4, rfl⟩
  obtain ⟨_, _, -, rfl, -⟩ := hh
  (repeat (first | (refine lex_pure rfl rfl (fun K hK => ?_); go_simp; refine hK _ ?_; clear hK K; try simp (disch := omega) only [IntWalk.i64_in, IntWalk.u8_in, Int.add_sub_cancel, Int.tmod_eq_emod_of_nonneg, Int.tdiv_eq_ediv_of_nonneg]) | (refine lex_load rfl rfl _ (fun m W hJ hF => (by have cc := hcell W hJ; go_simp; rfl)) ?_; try simp (disch := omega) only [IntWalk.i64_in, IntWalk.u8_in, Int.add_sub_cancel, Int.tmod_eq_emod_of_nonneg, Int.tdiv_eq_ediv_of_nonneg]) | (refine lex_sadd rfl rfl rfl rfl rfl (by first | omega | (simp only [ByteArray.size_append]; omega)) ?_; go_simp)))
  refine lex_eff' (sp := fun _ v _ => v = .string b) rfl rfl (by intro _ _ _ _ h; exact h) (fun m W hJ hF => ?_) (fun v x hh => ?_) rfl
  · refine gives_call Tryd.call90 ((HK.out.2.1 W (LeB.tr HX.out hJ)).mono ?_)
    rintro e w' ⟨rfl, h4⟩
    exact ⟨_, rfl, hJ.step h4, h4, rfl⟩
  obtain ⟨_, _, -, rfl, -⟩ := hh
  (repeat (first | (refine lex_pure rfl rfl (fun K hK => ?_); go_simp; refine hK _ ?_; clear hK K; try simp (disch := omega) only [IntWalk.i64_in, IntWalk.u8_in, Int.add_sub_cancel, Int.tmod_eq_emod_of_nonneg, Int.tdiv_eq_ediv_of_nonneg]) | (refine lex_load rfl rfl _ (fun m W hJ hF => (by have cc := hcell W hJ; go_simp; rfl)) ?_; try simp (disch := omega) only [IntWalk.i64_in, IntWalk.u8_in, Int.add_sub_cancel, Int.tmod_eq_emod_of_nonneg, Int.tdiv_eq_ediv_of_nonneg]) | (refine lex_sadd rfl rfl rfl rfl rfl (by first | omega | (simp only [ByteArray.size_append]; omega)) ?_; go_simp)))
  refine lex_nil (fun m W hJ hF => ?_)
  have H2 := Lib.hid (LeB.tr HX.out hJ)
  clear hF hJ hcell
  go_wp2_with fail
  go_ret
  exact ⟨by rw [← HK.out.2.2]; rfl, H2.out⟩
theorem NetText_ok (x : Nt) (hx : x ∈ N6) (w : World) (hw : StdW w) : Calls Tryd.prog 30 #[.agg x.cells] w fun e w' => e = .returned (.tuple #[.string (ntText x), .int .i64 0]) ∧ LeB w w' := by
  have c1 := fun W (h : LeB w W) => netText_ok x (n6_bd hx).1 (n6_bd hx).2 W (hw.below h)
  obtain ⟨t, ht⟩ : ∃ t, ntText x = t := ⟨_, rfl⟩
  rw [ht] at c1 ⊢
  have HK := Lib.hid (And.intro hx c1)
  clear hx c1 hw ht
  go_enter Tryd.func30, Tryd.ntmps30
  go_upto_region 1 with (fail)
  generalize hw0 : World.alloc w (.cells x.cells 54) = wa
  have hblk : wa.heap[World.heap w |>.size]? = some (.cells x.cells 54 (0, 0)) := by rw [← hw0]; exact heap_alloc_new _ _
  have hlt : (World.heap w).size < wa.heap.size := (Array.getElem?_eq_some_iff.1 hblk).1
  have hB0 : Below (World.heap w).size w wa := by rw [← hw0]; exact (Below.refl _ _).alloc (Nat.le_refl _) _
  clear hw0
  have HX := Lib.hid (And.intro hblk (And.intro hlt hB0))
  have c0 := blk_cell hblk 0
  have c1 := blk_cell hblk 1
  simp at c0 c1
  clear hblk hlt hB0
  go_wp2_with fail
  refine (NetOK_ok x HK.out.1 wa).mono ?_
  rintro e w1 ⟨rfl, hB1⟩
  clear c0 c1
  have hb1 := (hB1.block _ HX.out.2.1).trans HX.out.1
  have H1 := Lib.hid (LeB.tr HX.out.2.2 hB1)
  have c0 := blk_cell hb1 0
  have c1 := blk_cell hb1 1
  simp at c0 c1
  clear hB1 hb1
  go_wp2_with fail
  refine (HK.out.2 _ H1.out).mono ?_
  rintro e w2 ⟨rfl, hB2⟩
  have H2 := Lib.hid (LeB.tr H1.out hB2)
  clear hB2 c0 c1
  go_wp2_with fail
  go_ret2
  exact ⟨rfl, H2.out⟩
end Go.Proofs.YtmjddgdcokbmeaaDoor
