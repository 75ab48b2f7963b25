/- The law FnNames: what it answers of any two rows of bytes. -/
import Derived.Test.YtmjddgdcokbmeaaDoorNh
import Derived.Test.YtmjddgdcokbmeaaDoorOfM
import Derived.Test.YtmjddgdcokbmeaaDoorOfW
namespace Go.Proofs.YtmjddgdcokbmeaaDoor
open Go.RowKit
set_option linter.unusedVariables false
set_option linter.unusedSimpArgs false
set_option maxRecDepth 200000
set_option maxHeartbeats 4000000

theorem adText_more (n : Nat) : joinS 46 (adParts n ++ [⟨#[49]⟩]) = adText n ++ ⟨#[46, 49]⟩ := by
  apply ByteArray.ext
  apply Array.toList_inj.1
  rw [ByteArray.data_append, Array.toList_append]
  unfold adText joinS
  rw [bstr_data, bstr_data, List.map_append]
  exact (joinC_more 46 ((adParts n).map (·.data.toList)) [49] (by simp [adParts])).symm
theorem ReadAddress_more (n : Nat) (w : World) (hw : StdW w) : Calls Tryd.prog 19 #[.string (adText n ++ ⟨#[46, 49]⟩)] w fun e w' => e = .returned (.tuple #[.int .i64 0, .int .i64 3]) ∧ LeB w w' := by
  refine ReadAddress_not (adParts n ++ [⟨#[49]⟩]) (by simp) (fun s hs => ?_) (by simp [adParts]) (by simp [adParts]) _ (adText_more n) ?_ w hw
  · rcases List.mem_append.1 hs with h | h
    · exact nodot (octs n) 46 (by decide) s h
    · rw [List.mem_singleton] at h; subst h; decide
  · rw [ByteArray.size_append]
    have := adText_size n
    unfold adText
    show _ + 2 ≤ _
    omega
theorem FnNames_ok (A : Option Addr) (c : Nat) (bs : List UInt8) (A2 : Option Addr) (c2 : Nat) (bs2 : List UInt8) (hc : bs.length ≤ c) (hc2 : bs2.length ≤ c2) (w : World) (hr : Rd w A (bs.map bV)) (hr2 : Rd w A2 (bs2.map bV)) (hw : StdW w) :
    Calls Tryd.prog 4 #[.slice A bs.length c, .slice A2 bs2.length c2] w fun e w' => e = .returned (.bool true) ∧ Below w.heap.size w w' := by
  by_cases h1 : 1048576 < bs.length
  · have g1 : (1048576 : Int) < bs.length := by omega
    go_enter Tryd.func4, Tryd.ntmps4
    go_wp2
    go_ret
    exact ⟨rfl, Below.refl _ _⟩
  have g1 : decide ((1048576 : Int) < bs.length) = false := by simp; omega
  by_cases h2 : 1048576 < bs2.length
  · have g2 : (1048576 : Int) < bs2.length := by omega
    go_enter Tryd.func4, Tryd.ntmps4
    go_wp2
    go_ret
    exact ⟨rfl, Below.refl _ _⟩
  have g2 : decide ((1048576 : Int) < bs2.length) = false := by simp; omega
  have HK := Lib.hid (And.intro hr (And.intro hr2 (And.intro hw (And.intro hc2 (And.intro h1 h2)))))
  clear hr hr2 hw hc hc2 h1 h2
  go_enter Tryd.func4, Tryd.ntmps4
  go_wp2_with fail
  refine (WanOf_ok A c bs (by have := HK.out.2.2.2.2.1; omega) w HK.out.1).mono ?_
  rintro e w1 ⟨n, rfl, hn, hB⟩
  clear g1 g2
  have B1 := Lib.hid hB
  have HN := Lib.hid hn
  clear hB hn
  have t1 := fun W (h : LeB w W) => AddressText_ok n HN.out W (HK.out.2.2.1.below h)
  have t2 := fun W => sAddressText_ok n HN.out W
  have t3 := fun W (h : LeB w W) => ReadAddress_ok n HN.out W (HK.out.2.2.1.below h)
  have t4 := fun W (h : LeB w W) => ReadAddress_more n W (HK.out.2.2.1.below h)
  have tz := adText_size n
  obtain ⟨t, ht⟩ : ∃ t, adText n = t := ⟨_, rfl⟩
  have hts : (t.size : Int) ≤ 8388608 := by rw [← ht]; unfold adText; omega
  rw [ht] at t1 t2 t3 t4
  have HT := Lib.hid (And.intro t1 (And.intro t2 (And.intro t3 t4)))
  clear t1 t2 t3 t4 tz ht
  go_wp2_with fail
  refine (HT.out.1 _ B1.out).mono ?_
  rintro e w2 ⟨rfl, hB⟩
  have B2 := Lib.hid (LeB.tr B1.out hB)
  clear hB
  go_wp2_with fail
  refine (HT.out.2.1 _).mono ?_
  rintro e w3 ⟨rfl, hB⟩
  have B3 := Lib.hid (LeB.tr B2.out hB)
  clear hB
  go_wp2_with fail
  refine (HT.out.2.2.1 _ B3.out).mono ?_
  rintro e w4 ⟨rfl, hB⟩
  have B4 := Lib.hid (LeB.tr B3.out hB)
  clear hB
  go_wp2_with fail
  refine (MacOf_ok A2 c2 bs2 (by have := HK.out.2.2.2.2.2; omega) w4 (HK.out.2.1.below B4.out (Nat.le_refl _))).mono ?_
  rintro e w5 ⟨s, rfl, ⟨kk, hk1, hk2, hs⟩, hB⟩
  have B5 := Lib.hid (LeB.tr B4.out hB)
  clear hB
  have m1 := MacText_ok [2, 0, 0, 0, 0, UInt8.ofNat kk] rfl
  have m2 := sMacText_ok [2, 0, 0, 0, 0, UInt8.ofNat kk] rfl
  have m3 := fun W (h : LeB w W) => ReadMac_ok [2, 0, 0, 0, 0, UInt8.ofNat kk] rfl W (HK.out.2.2.1.below h)
  have m4 := fun W (h : LeB w W) => ReadMac_not [2, 0, 0, 0, 0, UInt8.ofNat kk] rfl _ rfl W (HK.out.2.2.1.below h)
  have mz := mcText_size [2, 0, 0, 0, 0, UInt8.ofNat kk] rfl
  obtain ⟨mt, hmt⟩ : ∃ t, mcText [2, 0, 0, 0, 0, UInt8.ofNat kk] = t := ⟨_, rfl⟩
  rw [hmt] at m1 m2 m3 m4 mz
  rw [← hs] at m1 m2 m3
  have hms : (mt.size : Int) ≤ 8388608 := by omega
  have HM := Lib.hid (And.intro m1 (And.intro m2 (And.intro m3 m4)))
  clear m1 m2 m3 m4 mz hmt hs hk1 hk2
  go_wp2_with fail
  refine (HM.out.1 _).mono ?_
  rintro e w6 ⟨rfl, hB⟩
  have B6 := Lib.hid (LeB.tr B5.out hB)
  clear hB
  go_wp2_with fail
  refine (HM.out.2.1 _).mono ?_
  rintro e w7 ⟨rfl, hB⟩
  have B7 := Lib.hid (LeB.tr B6.out hB)
  clear hB
  go_wp2_with fail
  refine (HM.out.2.2.1 _ B7.out).mono ?_
  rintro e w8 ⟨rfl, hB⟩
  have B8 := Lib.hid (LeB.tr B7.out hB)
  clear hB
  go_wp2_with fail
  refine (at_ok A2 c2 bs2 (by have := HK.out.2.2.2.2.2; omega) HK.out.2.2.2.1 0 60000 (by omega) (by omega) w8 (HK.out.2.1.below B8.out (Nat.le_refl _))).mono ?_
  rintro e w9 ⟨r, rfl, hr, hB⟩
  have hr3 : r < 16777216 := by omega
  have B9 := Lib.hid (LeB.tr B8.out hB)
  have HR := Lib.hid hr3
  clear hB hr hr3
  go_wp2_with fail
  refine (NumberBytes_ok r HR.out _).mono ?_
  rintro e w10 ⟨nb, rfl, hrd, hB⟩
  have B10 := Lib.hid (LeB.tr B9.out hB)
  have HRD := Lib.hid hrd
  clear hB hrd
  go_wp2_with fail
  refine (NumberOf_ok r HR.out _ 3 (by omega) w10 HRD.out).mono ?_
  rintro e w11 ⟨rfl, rfl⟩
  go_wp2_with fail
  refine (HT.out.2.2.2 _ B10.out).mono ?_
  rintro e w12 ⟨rfl, hB⟩
  have B12 := Lib.hid (LeB.tr B10.out hB)
  clear hB
  go_wp2_with fail
  refine (HM.out.2.2.2 _ B12.out).mono ?_
  rintro e w13 ⟨rfl, hB⟩
  have B13 := Lib.hid (LeB.tr B12.out hB)
  clear hB
  go_wp2_with fail
  go_ret
  exact ⟨rfl, B13.out⟩
end Go.Proofs.YtmjddgdcokbmeaaDoor

