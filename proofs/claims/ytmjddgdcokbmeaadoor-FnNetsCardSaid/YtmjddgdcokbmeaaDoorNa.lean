/- Names: rows of texts that grow, and the text of an address (impl's). -/
import Derived.Test.YtmjddgdcokbmeaaDoorStd
namespace Go.Proofs.YtmjddgdcokbmeaaDoor
open Go.RowKit
set_option linter.unusedVariables false
set_option linter.unusedSimpArgs false
set_option maxRecDepth 200000
set_option maxHeartbeats 4000000

theorem info_str : (Tryd.prog.info? 9).map (fun i => (i.zero, i.size, i.bytes)) = some (some (.string ⟨#[]⟩), 1, 16) := by kernel_rfl
/-- A row of texts of its own. -/
def OwnS (B : Nat) (v : Value) (ss : List ByteArray) (w : World) : Prop := w.ownsRow B 9 1 v ss.length (ss.map Value.string)
theorem OwnS.start (w : World) : OwnS w.heap.size (.slice (some ⟨w.heap.size, 0, none⟩) 0 0) [] (w.alloc (.cells #[] 9)) := World.ownsRow_lit w #[] 0 (Nat.le_refl _) (by simp [maxLen]) (by simp)
theorem push_str {w0 wr : World} {v : Value} {ss : List ByteArray} (hB : LeB w0 wr) (ho : OwnS w0.heap.size v ss wr) (hl : ss.length ≤ 1000000) (s : ByteArray) :
    ∃ v' w', (Builtin.append_ #[72, 72] 72 #[v, .slice (some ⟨wr.heap.size, 0, none⟩) 1 1]).run Tryd.prog (wr.alloc (.cells #[.string s] 9)) = .ok v' w' ∧ OwnS w0.heap.size v' (ss ++ [s]) w' ∧ LeB w0 w' := by
  obtain ⟨i, hi, hz, hs, hby⟩ := info_parts info_str
  have hr : Rd (wr.alloc (.cells #[.string s] 9)) (some ⟨wr.heap.size, 0, none⟩) [.string s] := by simpa using Rd.block (heap_alloc_new wr (.cells #[.string s] 9)) 0
  have ho' : (wr.alloc (.cells #[.string s] 9)).ownsRow w0.heap.size 9 1 v ss.length (ss.map Value.string) := World.ownsRow.alloc ho _
  obtain ⟨v', w', h1, h2, h3, _⟩ := run_append_rd (P := Tryd.prog) _ w0.heap.size 72 72 9 i _ 1 16 Tryd.underlying72 hi hz hs hby rfl (by omega) v ss.length (ss.map Value.string) ho' (some ⟨wr.heap.size, 0, none⟩) 1 1 [.string s] rfl hr
    (by intro u hu; rw [List.mem_singleton] at hu; subst hu; rfl) (by simp only [maxLen]; omega) (by omega) (by simp; have := hB.size; omega)
  refine ⟨v', w', h1, ?_, ?_⟩
  · unfold OwnS
    rw [List.length_append, List.map_append]
    exact h2
  · exact (hB.alloc hB.size _).grown h3 (by simp; have := hB.size; omega) (fun g hg => (World.ownsRow.lt ho g hg).1)
theorem OwnS.rd {B : Nat} {v : Value} {ss : List ByteArray} {w : World} (h : OwnS B v ss w) : ∃ A c, v = .slice A ss.length c ∧ ss.length ≤ c ∧ Rd w A (ss.map Value.string) ∧ ∀ ad, A = some ad → ad.spot = none := by
  rcases h.2 with ⟨rfl, e⟩ | ⟨g, cap, cur, rfl, _, hg, hn, _⟩
  · exact ⟨_, _, by rw [e], by omega, by rw [List.length_eq_zero_iff.1 e]; exact Rd.nil, fun ad e => by cases e⟩
  · exact ⟨_, _, rfl, hn, Rd.of_own h, fun ad e => by cases e; rfl⟩
/-- The numbers of an address, and its text. -/
def adParts (n : Nat) : List ByteArray := [digS (n / 16777216 % 256), digS (n / 65536 % 256), digS (n / 256 % 256), digS (n % 256)]
def adText (n : Nat) : ByteArray := joinS 46 (adParts n)
theorem own_belowS {w w' : World} {B : Nat} {v : Value} {ss : List ByteArray} (h : OwnS B v ss w) (hb : LeB w w') : OwnS B v ss w' :=
  World.ownsRow.kept h (grownBy_of_below hb none) (by
    cases hv : v.ownBlock with
    | none => exact Or.inl rfl
    | some b => exact Or.inr (by intro e; cases e))
theorem dig_len3 (n : Nat) : (Lib.decDigits (n % 256)).length ≤ 3 := dec_len 2 _ (by omega)
theorem adText_size (n : Nat) : (joinS 46 (adParts n)).size ≤ 15 := by
  have h1 := dec_len 2 (n / 16777216 % 256) (by omega)
  have h2 := dec_len 2 (n / 65536 % 256) (by omega)
  have h3 := dec_len 2 (n / 256 % 256) (by omega)
  have h4 := dec_len 2 (n % 256) (by omega)
  unfold joinS adParts
  rw [bstr_size]
  simp only [List.map_cons, List.map_nil, joinC, List.length_append, List.length_cons, digS, bstr_data]
  omega
theorem and_255 (x : Int) : bits .and .i64 x 255 = x % 256 := by
  show IntKind.i64.wrap ((BitVec.ofInt 64 x &&& BitVec.ofInt 64 ((255 : Nat) : Int)).toNat : Int) = _
  rw [BitVec.toNat_and, IntKind.wrap_i64, BitVec.toNat_ofInt, BitVec.toNat_ofInt, show ((((255 : Nat) : Int) % ((2 ^ 64 : Nat) : Int)).toNat) = 2 ^ 8 - 1 from rfl, Nat.and_two_pow_sub_one_eq_mod]
  omega
theorem oct (n k : Nat) : bits .and .i64 ((n : Int) / k) 255 = ((n / k % 256 : Nat) : Int) := by rw [and_255]; push_cast; rfl
theorem addressText_ok (n : Nat) (hn : n < 4294967296) (w : World) (hw : StdW w) : Calls Tryd.prog 54 #[.int .i64 n] w fun e w' => e = .returned (.string (adText n)) ∧ LeB w w' := by
  have hnI : (n : Int) < 4294967296 := by omega
  have HK := Lib.hid hw
  clear hw
  go_enter Tryd.func54, Tryd.ntmps54
  go_wp2
  generalize hW : w.alloc _ = W
  have hown : OwnS w.heap.size (.slice (some ⟨w.heap.size, 0, none⟩) 0 0) [] W := by rw [← hW]; exact OwnS.start w
  have hB : LeB w W := by rw [← hW]; exact (Below.refl _ _).alloc (Nat.le_refl _) _
  clear hW
  go_loopw [3, 4] (fun v i wr => ∃ (j : Nat) (s : Int), i = .int .i64 s ∧ ((j = 0 ∧ s = 24) ∨ (j = 1 ∧ s = 16) ∨ (j = 2 ∧ s = 8) ∨ (j = 3 ∧ s = 0) ∨ (j = 4 ∧ s = -8)) ∧ OwnS w.heap.size v ((adParts n).take j) wr ∧ LeB w wr) (fun _ i _ => ((intOf i) + 8).toNat)
  case atStart => exact ⟨0, 24, rfl, .inl ⟨rfl, rfl⟩, hown, hB⟩
  case round =>
    obtain ⟨j, s, rfl, h5, hown, hB⟩ := hrel
    have HO := Lib.hid (And.intro hown hB)
    clear hown hB
    rcases h5 with ⟨rfl, rfl⟩ | ⟨rfl, rfl⟩ | ⟨rfl, rfl⟩ | ⟨rfl, rfl⟩ | ⟨rfl, rfl⟩
    · have he : bits .and .i64 ((n : Int) / 16777216) 255 = ((n / 16777216 % 256 : Nat) : Int) := oct n 16777216
      have hlt : n / 16777216 % 256 ≤ 1000000 := by omega
      have hp : (adParts n).take 1 = (adParts n).take 0 ++ [digS (n / 16777216 % 256)] := rfl
      generalize n / 16777216 % 256 = y at he hlt hp
      have hcall := HK.out.dig y hlt
      have HP := Lib.hid hp
      clear hp hlt
      go_wp2_with fail
      refine (hcall _ HO.out.2).mono ?_
      rintro e w1 ⟨rfl, hB1⟩
      have ho1 : OwnS w.heap.size u3 ((adParts n).take 0) w1 := own_belowS HO.out.1 hB1
      have H1 := Lib.hid (And.intro ho1 (LeB.tr HO.out.2 hB1))
      clear ho1 hB1 hcall he
      go_wp2_with (at_builtin; (obtain ⟨v', w2, hr, ho, hb⟩ := push_str H1.out.2 H1.out.1 (by simp [adParts]) (digS y); refine wpList_append_run rfl _ _ _ _ rfl rfl rfl hr ?_); clear hr; rw [← HP.out] at ho)
      go_roundw
      case rel => exact ⟨1, 16, by go_num, .inr (.inl ⟨rfl, rfl⟩), ho, hb⟩
      case measure => simp [intOf]
    · have he : bits .and .i64 ((n : Int) / 65536) 255 = ((n / 65536 % 256 : Nat) : Int) := oct n 65536
      have hlt : n / 65536 % 256 ≤ 1000000 := by omega
      have hp : (adParts n).take 2 = (adParts n).take 1 ++ [digS (n / 65536 % 256)] := rfl
      generalize n / 65536 % 256 = y at he hlt hp
      have hcall := HK.out.dig y hlt
      have HP := Lib.hid hp
      clear hp hlt
      go_wp2_with fail
      refine (hcall _ HO.out.2).mono ?_
      rintro e w1 ⟨rfl, hB1⟩
      have ho1 : OwnS w.heap.size u3 ((adParts n).take 1) w1 := own_belowS HO.out.1 hB1
      have H1 := Lib.hid (And.intro ho1 (LeB.tr HO.out.2 hB1))
      clear ho1 hB1 hcall he
      go_wp2_with (at_builtin; (obtain ⟨v', w2, hr, ho, hb⟩ := push_str H1.out.2 H1.out.1 (by simp [adParts]) (digS y); refine wpList_append_run rfl _ _ _ _ rfl rfl rfl hr ?_); clear hr; rw [← HP.out] at ho)
      go_roundw
      case rel => exact ⟨2, 8, by go_num, .inr (.inr (.inl ⟨rfl, rfl⟩)), ho, hb⟩
      case measure => simp [intOf]
    · have he : bits .and .i64 ((n : Int) / 256) 255 = ((n / 256 % 256 : Nat) : Int) := oct n 256
      have hlt : n / 256 % 256 ≤ 1000000 := by omega
      have hp : (adParts n).take 3 = (adParts n).take 2 ++ [digS (n / 256 % 256)] := rfl
      generalize n / 256 % 256 = y at he hlt hp
      have hcall := HK.out.dig y hlt
      have HP := Lib.hid hp
      clear hp hlt
      go_wp2_with fail
      refine (hcall _ HO.out.2).mono ?_
      rintro e w1 ⟨rfl, hB1⟩
      have ho1 : OwnS w.heap.size u3 ((adParts n).take 2) w1 := own_belowS HO.out.1 hB1
      have H1 := Lib.hid (And.intro ho1 (LeB.tr HO.out.2 hB1))
      clear ho1 hB1 hcall he
      go_wp2_with (at_builtin; (obtain ⟨v', w2, hr, ho, hb⟩ := push_str H1.out.2 H1.out.1 (by simp [adParts]) (digS y); refine wpList_append_run rfl _ _ _ _ rfl rfl rfl hr ?_); clear hr; rw [← HP.out] at ho)
      go_roundw
      case rel => exact ⟨3, 0, by go_num, .inr (.inr (.inr (.inl ⟨rfl, rfl⟩))), ho, hb⟩
      case measure => simp [intOf]
    · have he : bits .and .i64 (n : Int) 255 = ((n % 256 : Nat) : Int) := by rw [and_255]; push_cast; rfl
      have hlt : n % 256 ≤ 1000000 := by omega
      have hp : (adParts n).take 4 = (adParts n).take 3 ++ [digS (n % 256)] := rfl
      generalize n % 256 = y at he hlt hp
      have hcall := HK.out.dig y hlt
      have HP := Lib.hid hp
      clear hp hlt
      go_wp2_with fail
      refine (hcall _ HO.out.2).mono ?_
      rintro e w1 ⟨rfl, hB1⟩
      have ho1 : OwnS w.heap.size u3 ((adParts n).take 3) w1 := own_belowS HO.out.1 hB1
      have H1 := Lib.hid (And.intro ho1 (LeB.tr HO.out.2 hB1))
      clear ho1 hB1 hcall he
      go_wp2_with (at_builtin; (obtain ⟨v', w2, hr, ho, hb⟩ := push_str H1.out.2 H1.out.1 (by simp [adParts]) (digS y); refine wpList_append_run rfl _ _ _ _ rfl rfl rfl hr ?_); clear hr; rw [← HP.out] at ho)
      go_roundw
      case rel => exact ⟨4, -8, by go_num, .inr (.inr (.inr (.inr ⟨rfl, rfl⟩))), ho, hb⟩
      case measure => simp [intOf]
    · obtain ⟨A, c, rfl, hc, hr, hsp⟩ := HO.out.1.rd
      rw [show (adParts n).take 4 = adParts n from rfl] at hc hr ⊢
      have hcall := join_ok 46 (adParts n) A c (by simp [adParts]) hc (Nat.le_trans (adText_size n) (by omega)) (by simp [adParts]) wr hr hsp
      have HR := Lib.hid HO.out.2
      clear hc hr hsp
      go_wp2_with fail
      refine hcall.mono ?_
      rintro e w1 ⟨rfl, hB1⟩
      have H1 := Lib.hid (LeB.tr HR.out hB1)
      clear hB1 hcall
      go_wp2_with fail
      go_ret
      exact ⟨rfl, H1.out⟩
end Go.Proofs.YtmjddgdcokbmeaaDoor
