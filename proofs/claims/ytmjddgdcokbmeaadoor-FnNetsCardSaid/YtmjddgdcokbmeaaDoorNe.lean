/- Names: digits of bytes read (impl's readHex). -/
import Derived.Test.YtmjddgdcokbmeaaDoorNd
import Derived.Deep.Cut
namespace Go.Proofs.YtmjddgdcokbmeaaDoor
open Go.RowKit
set_option linter.unusedVariables false
set_option linter.unusedSimpArgs false
set_option maxRecDepth 200000
set_option maxHeartbeats 4000000

theorem hexL_idx : ∀ x : Fin 16, Lib.indexByte [48, 49, 50, 51, 52, 53, 54, 55, 56, 57, 97, 98, 99, 100, 101, 102] hexL[x.val]! = (x.val : Int) := by decide
/-- Two digits a byte. -/
def hexs (l : List UInt8) : List UInt8 := l.flatMap hex1
theorem hexs_len (l : List UInt8) : (hexs l).length = 2 * l.length := by
  induction l with
  | nil => rfl
  | cons a r ih => unfold hexs at ih ⊢; rw [List.flatMap_cons, List.length_append, ih]; simp [hex1]; omega
theorem hexs_at (l : List UInt8) (ex : List UInt8) (k : Nat) (hk : k < l.length) : (hexs l ++ ex)[2 * k]? = some hexL[l[k].toNat / 16]! ∧ (hexs l ++ ex)[2 * k + 1]? = some hexL[l[k].toNat % 16]! := by
  induction l generalizing k with
  | nil => simp at hk
  | cons a r ih =>
    have e : hexs (a :: r) ++ ex = hexL[a.toNat / 16]! :: hexL[a.toNat % 16]! :: (hexs r ++ ex) := by simp [hexs, hex1]
    rw [e]
    cases k with
    | zero => exact ⟨rfl, rfl⟩
    | succ k =>
      have := ih k (by simpa using hk)
      simpa [Nat.mul_add] using this
theorem qsn {P : Program} {f : FuncId} {args : Array Value} {w : World} {n : Nat} {v : Value}
    (h : ∀ W, Calls P f args W fun e w' => e = .returned v ∧ W = w') : Calls P f args (w.drewN n) fun e w'' => e = .returned v ∧ ∃ m, w'' = w.drewN m :=
  (h _).mono fun _ _ ⟨he, hm⟩ => ⟨he, n, hm.symm⟩
theorem idx_hex (c : UInt8) (y : Int) (h : Lib.indexByte [48, 49, 50, 51, 52, 53, 54, 55, 56, 57, 97, 98, 99, 100, 101, 102] c = y) (w : World) : Calls Tryd.prog 95 #[.string ⟨#[48, 49, 50, 51, 52, 53, 54, 55, 56, 57, 97, 98, 99, 100, 101, 102]⟩, .int .u8 (c.toNat : Int)] w fun e w' => e = .returned (.int .i64 y) ∧ w = w' := by
  subst h
  exact idxb_ok _ c w
theorem push_hex {w wr : World} {v : Value} {ss : List UInt8} (hB : LeB w wr) (ho : OwnY w.heap.size v ss wr) (hl : ss.length ≤ 1000000) (nq : Nat) (b : UInt8) (y1 y2 : Nat) (hb : b = UInt8.ofNat (16 * y1 + y2)) (h1 : y1 < 16) (h2 : y2 < 16) :
    ∃ v' w', (Builtin.append_ #[22, 22] 22 #[v, .slice (some ⟨wr.heap.size, 0, none⟩) 1 1]).run Tryd.prog ((wr.drewN nq).alloc (.cells #[.int .u8 (16 * (y1 : Int) + y2)] 5)) = .ok v' w' ∧ OwnY w.heap.size v' (ss ++ [b]) w' ∧ LeB w w' := by
  have e : Value.int .u8 (16 * (y1 : Int) + y2) = bV b := by
    unfold bV
    have : b.toNat = 16 * y1 + y2 := by rw [hb, UInt8.toNat_ofNat']; omega
    rw [this]
    push_cast
    rfl
  rw [e]
  have hB1 : LeB w (wr.drewN nq) := below_drewN hB nq
  have hB2 : LeB w ((wr.drewN nq).alloc (.cells #[bV b] 5)) := hB1.alloc hB1.size _
  have hlb : LeB wr ((wr.drewN nq).alloc (.cells #[bV b] 5)) := (below_drewN (Below.refl _ _) nq).alloc (Nat.le_refl _) _
  exact push_y hB2 (own_belowY ho hlb) hl (some ⟨wr.heap.size, 0, none⟩) 1 [b] (by simpa using Rd.block (heap_alloc_new (wr.drewN nq) (.cells #[bV b] 5)) 0) (by simp)
theorem readHex_ok (l ex : List UInt8) (hl : l.length ≤ 1000) (hx : ex.length ≤ 1) (t : ByteArray) (ht : bstr (hexs l ++ ex) = t) (r : Bool) (hr : decide (ex = []) = r) (w : World) :
    Calls Tryd.prog 62 #[.string t] w fun e w' => e = .returned (.tuple #[.string (bstr l), .bool r]) ∧ LeB w w' := by
  have htl : t.data.toList = hexs l ++ ex := by rw [← ht]; exact bstr_data _
  have hts : t.size = 2 * l.length + ex.length := by rw [← ht, bstr_size, List.length_append, hexs_len]
  have hget : ∀ (j : Nat) (h : j < t.size) (c : UInt8), (hexs l ++ ex)[j]? = some c → t[j]'h = c := fun j h c hc => by
    rw [← htl] at hc
    have h2 : t.data.toList[j]? = some (t[j]'h) := by
      rw [List.getElem?_eq_getElem (by simpa using h)]
      rfl
    rw [h2] at hc
    exact Option.some.inj hc
  have hsI : (t.size : Int) ≤ 2001 := by omega
  have HK := Lib.hid (And.intro hts (And.intro hget (And.intro hx hr)))
  clear htl ht hts hget hx hr
  go_enter Tryd.func62, Tryd.ntmps62
  go_wp2
  generalize hW : w.alloc _ = W
  have hown : OwnY w.heap.size (.slice (some ⟨w.heap.size, 0, none⟩) 0 0) [] W := by rw [← hW]; exact OwnY.start w
  have hB : LeB w W := by rw [← hW]; exact (Below.refl _ _).alloc (Nat.le_refl _) _
  clear hW
  go_loopw [4, 5] (fun v i wr => ∃ k j : Nat, k ≤ l.length ∧ j = 2 * k ∧ i = .int .i64 j ∧ OwnY w.heap.size v (l.take k) wr ∧ LeB w wr) (fun _ i _ => 2 * l.length - (intOf i).toNat)
  case atStart => exact ⟨0, 0, by omega, rfl, rfl, hown, hB⟩
  case round =>
    obtain ⟨k, j, hk, hj, rfl, hown, hB⟩ := hrel
    have HO := Lib.hid (And.intro hown hB)
    clear hown hB
    by_cases hlt : k < l.length
    · have hjt : j + 1 < t.size := by have := HK.out.1; omega
      have hjt0 : j < t.size := by omega
      have hjI : (j : Int) + 1 < t.size := by omega
      have hat := hexs_at l ex k hlt
      rw [← hj] at hat
      have x1 := HK.out.2.1 j hjt0 _ hat.1
      have x2 := HK.out.2.1 (j + 1) hjt _ hat.2
      have hlb := (l[k]).toNat_lt
      have htk := List.take_succ_eq_append_getElem hlt
      obtain ⟨b, hb⟩ : ∃ b, l[k] = b := ⟨_, rfl⟩
      rw [hb] at x1 x2 hlb htk
      have i1 := hexL_idx ⟨b.toNat / 16, by omega⟩
      have i2 := hexL_idx ⟨b.toNat % 16, by omega⟩
      simp only at i1 i2
      have hbyte : b = UInt8.ofNat (16 * (b.toNat / 16) + b.toNat % 16) := by
        rw [show 16 * (b.toNat / 16) + b.toNat % 16 = b.toNat from by omega]
        simp
      have m1 : b.toNat / 16 < 16 := by omega
      have m2 : b.toNat % 16 < 16 := by omega
      generalize hexL[b.toNat / 16]! = c1 at x1 i1
      generalize hexL[b.toNat % 16]! = c2 at x2 i2
      generalize b.toNat / 16 = y1 at i1 hbyte m1
      generalize b.toNat % 16 = y2 at i2 hbyte m2
      have HT := Lib.hid (And.intro htk (And.intro i1 (And.intro i2 (And.intro hj hbyte))))
      have m1I : (y1 : Int) < 16 := by omega
      have m2I : (y2 : Int) < 16 := by omega
      clear htk i1 i2 hat hb hj hbyte
      go_upto_region 5 with (fail)
      go_quiet ((first | (with_reducible exact qsn (idx_hex c1 _ HT.out.2.1)) | (with_reducible exact qsn (idx_hex c2 _ HT.out.2.2.1))))
      go_wp2_with (at_builtin; (obtain ⟨v', w2, hr, ho, hb⟩ := push_hex HO.out.2 HO.out.1 (by simp; omega) nq b y1 y2 HT.out.2.2.2.2 m1 m2; refine wpList_append_run rfl _ _ _ _ rfl rfl rfl hr ?_); clear hr; rw [← HT.out.1] at ho)
      go_roundw
      case rel => exact ⟨k + 1, j + 2, by omega, by have := HT.out.2.2.2.1; omega, by go_num, ho, hb⟩
      case measure => have := HT.out.2.2.2.1; simp [intOf]; omega
    · obtain rfl : k = l.length := by omega
      have hown := HO.out.1
      rw [List.take_length] at hown
      obtain ⟨A, c, rfl, hc, hrd, -⟩ := own_slice hown
      have hcv := bytes_str A _ c l rfl wr hrd
      have hend : ¬ ((j : Int) + 1 < t.size) := by have := HK.out.1; have := HK.out.2.2.1; omega
      have hd : decide ((j : Int) + 1 < t.size) = false := decide_eq_false hend
      have hmod : ((t.size : Int).tmod 2 == 0) = r := by
        rw [Int.tmod_eq_emod_of_nonneg (by omega), ← HK.out.2.2.2]
        have h1 := HK.out.1
        have h2 := HK.out.2.2.1
        match ex, h1, h2 with
        | [], h1, _ => simp at h1 ⊢; omega
        | [x], h1, _ => simp at h1 ⊢; omega
      have hmod2 : ((t.size : Int) % 2 == 0) = r := by rw [← hmod, Int.tmod_eq_emod_of_nonneg (by omega)]
      have HR := Lib.hid HO.out.2
      have hjb : (j : Int) ≤ 2000 := by omega
      clear hown hc hrd hend HO hj hk
      go_wp2_with fail
      go_ret2
      exact ⟨rfl, HR.out⟩
end Go.Proofs.YtmjddgdcokbmeaaDoor
