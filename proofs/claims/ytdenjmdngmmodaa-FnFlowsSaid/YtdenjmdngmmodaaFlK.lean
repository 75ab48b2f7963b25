/- Flows: a list drawn, as called; one passes, as called (both hands). -/
import Derived.Test.YtdenjmdngmmodaaFlJ
import Derived.Test.YtdenjmdngmmodaaFlI
import Derived.Test.YtdenjmdngmmodaaFlF
namespace Go.Proofs.Ytdenjmdngmmodaa
open Go.RowKit
set_option linter.unusedVariables false
set_option linter.unusedSimpArgs false
set_option maxRecDepth 200000
set_option maxHeartbeats 4000000

theorem infoLn : (Try.prog.info? 66).map (·.size) = some 2 := by kernel_rfl
theorem own_setRow {w : World} {B k : Nat} {e : TypeId} {size : Nat} {v : Value} {n : Nat} {xs : List Value} (h : w.ownsRow B e size v n xs) (hk : k < B) (cs : Array Value) : (w.setRow k cs).ownsRow B e size v n xs :=
  own_grown h ⟨rfl, rfl, rfl, by simp [World.setRow], fun j hj hne => setRow_other w k j cs (fun e => hne (by rw [e]))⟩ hk
theorem LanesOf_ok (A : Option Addr) (c : Nat) (bs : List UInt8) (hl : bs.length ≤ 1099511627776) (w : World) (hr : Rd w A (bs.map bV)) :
    Calls Try.prog 32 #[.slice A bs.length c] w fun e w' => ∃ (v : Value) (l : List Fl) (now : Nat), e = .returned (.agg #[v, .int .i64 now]) ∧ FlsOK l ∧ now ≤ 22 ∧ w'.ownsRow w.heap.size 73 9 v l.length (rowC flc l) ∧ LeB w w' := by
  go_enter Try.func32, Try.ntmps32
  go_wp2_with fail
  generalize hw0 : World.alloc w (.cells #[.slice none 0 0, .int .i64 0] 66) = wa
  have hblk : wa.heap[World.heap w |>.size]? = some (.cells #[.slice none 0 0, .int .i64 0] 66 (0, 0)) := by rw [← hw0]; exact heap_alloc_new _ _
  have hlt : (World.heap w).size < wa.heap.size := (Array.getElem?_eq_some_iff.1 hblk).1
  have hB0 : Below (World.heap w).size w wa := by rw [← hw0]; exact (Below.refl _ _).alloc (Nat.le_refl _) _
  clear hw0
  have HA := Lib.hid (And.intro hblk (And.intro hlt hB0))
  have hr2 := hr.below hB0 (Nat.le_refl _)
  clear hblk hlt hB0 hr
  refine (l00Source_ok A c bs hl wa hr2).mono ?_
  rintro e w1 ⟨rfl, hs, hB1⟩
  have H1 := Lib.hid hB1
  clear hB1 hr2
  go_wp2_with fail
  refine (flows_ok wa.heap.size 0 w1 hs (by omega)).mono ?_
  rintro e w2 ⟨v, l, now, rfl, hok, hnow, hown, hg⟩
  obtain ⟨A', c', rfl, -, -, -⟩ := own_slice hown
  obtain ⟨v, hv⟩ : ∃ v, v = Value.slice A' l.length c' := ⟨_, rfl⟩
  rw [← hv] at hown
  have L1 : Below w.heap.size w w1 := LeB.tr HA.out.2.2 H1.out
  have L2 : Below w.heap.size w w2 := Below.grown L1 hg L1.size (fun k e => by cases e; exact HA.out.2.2.size)
  have hb2 := (hg.block w.heap.size (Nat.lt_of_lt_of_le HA.out.2.1 H1.out.size) (by intro e; injection e with e; have := HA.out.2.1; omega)).trans ((H1.out.block _ HA.out.2.1).trans HA.out.1)
  have hown2 : (w2.setRow w.heap.size #[v, .int .i64 now]).ownsRow w.heap.size 73 9 v l.length (rowC flc l) := by
    have h1 := own_setRow hown (k := w.heap.size) (by have := HA.out.2.1; have := H1.out.size; omega) #[v, .int .i64 now]
    exact own_base h1 (by have := HA.out.2.2.size; have := H1.out.size; omega)
  have HZ := Lib.hid (And.intro hb2 (And.intro hok (And.intro hnow (And.intro hown2 L2))))
  rw [hv] at HZ
  clear hs hok hnow hown hg L1 L2 hb2 hown2 hv v
  go_wp2_with (refine wpList_store_row rfl _ _ 66 rfl w.heap.size 66 _ _ rfl rfl HZ.out.1 rfl infoLn rfl ?_)
  refine bodyPost_ret (ret_cell (cs := #[.slice A' l.length c', .int .i64 now]) rfl rfl (setRow_heap _ _ _ _ _ _ HZ.out.1) Try.underlying66 rfl infoLn) rfl ?_
  exact ⟨_, l, now, rfl, HZ.out.2.1, HZ.out.2.2.1, HZ.out.2.2.2.1, below_setRow HZ.out.2.2.2.2 (Nat.le_refl _) _⟩
theorem flowsFault_ok (A : Option Addr) (c : Nat) (l : List Fl) (hok : FlsOK l) (hc : l.length ≤ c) (w : World) (hr : Rd w A (rowC flc l)) :
    Calls Try.prog 83 #[.slice A l.length c] w fun e w' => e = .returned (.int .i64 0) ∧ LeB w w' := by
  have hl8 : decide ((4096 : Int) < l.length) = false := by have := hok.len; exact decide_eq_false (by omega)
  go_enter Try.func83, Try.ntmps83
  go_wp2_with fail
  refine (FlowsOK_true A c l hok hc w hr).mono ?_
  rintro e w1 ⟨rfl, hB⟩
  have HB := Lib.hid hB
  clear hB hok hr hc
  go_wp2_with fail
  go_ret
  exact ⟨rfl, HB.out⟩
theorem FlowPass_ok (A : Option Addr) (c : Nat) (l : List Fl) (hok : FlsOK l) (hc : l.length ≤ c) (k : Nat) (hk : k < l.length) (back : Bool) (flags now : Nat) (hfl : flags < 32) (hn : now ≤ 100000) (f : Fl) (hf : l[k] = f) (w : World) (hr : Rd w A (rowC flc l)) :
    Calls Try.prog 33 #[.slice A l.length c, .int .i64 k, .bool back, .int .i64 flags, .int .i64 now] w fun e w' => ∃ v, e = .returned (.tuple #[v, .int .i64 0]) ∧ w'.ownsRow w.heap.size 73 9 v (passC l k f back flags now).length (rowC flc (passC l k f back flags now)) ∧ LeB w w' := by
  have e1 : decide ((0 : Int) ≤ k ∧ (k : Int) ≤ (l.length : Int) - 1) = true := decide_eq_true (by omega)
  have e2 : decide ((0 : Int) ≤ flags ∧ (flags : Int) ≤ 31) = true := decide_eq_true (by omega)
  have hll : l.length ≤ 8 := hok.len
  have HK := Lib.hid (And.intro hok (And.intro hr (And.intro hf (And.intro hfl (And.intro hn (And.intro hc hk))))))
  clear hok hr hf
  have hlI : (l.length : Int) ≤ 8 := by omega
  go_enter Try.func33, Try.ntmps33
  go_wp2_with fail
  refine (flowsFault_ok A c l HK.out.1 hc w HK.out.2.1).mono ?_
  rintro e w1 ⟨rfl, hB1⟩
  have H1 := Lib.hid hB1
  clear hB1
  go_wp2_with fail
  refine (within_ok _ _ _ _).mono ?_
  rintro e w1' ⟨rfl, rfl⟩
  rw [e1]
  go_wp2_with fail
  refine (within_ok _ _ _ _).mono ?_
  rintro e w1' ⟨rfl, rfl⟩
  rw [e2]
  go_wp2_with fail
  refine (isTime_ok now HK.out.2.2.2.2.1 _).mono ?_
  rintro e w1' ⟨rfl, rfl⟩
  go_wp2_with fail
  refine (Clone_ok A c l (by omega) w1 (HK.out.2.1.below H1.out (Nat.le_refl _))).mono ?_
  rintro e w2 ⟨v, rfl, hown, hB2⟩
  obtain ⟨A2, c2, rfl, hc2, -, -⟩ := own_slice hown
  obtain ⟨g, rfl, hO⟩ := OwnAt.of hown (by intro e; rw [e] at hk; simp at hk) hB2
  have H2 := Lib.hid hO
  clear hown hB2 hO e1 e2
  go_wp2_with fail
  refine (flowPass_ok H2.out (by omega) k hk back flags now HK.out.2.2.2.1 HK.out.2.2.2.2.1 f HK.out.2.2.1).mono ?_
  rintro e w3 ⟨v3, rfl, hown3, hB3⟩
  have H3 := Lib.hid (And.intro (own_base hown3 H1.out.size) (LeB.tr H1.out hB3))
  clear hown3 hB3
  go_wp2_with fail
  refine bodyPost_ret (v := .tuple #[v3, .int .i64 0]) (by simp [results, go_sem]) rfl ⟨v3, rfl, H3.out.1, H3.out.2⟩
theorem FlowPass_none (A : Option Addr) (c now : Nat) (w : World) (hr : Rd w A (rowC flc [])) :
    Calls Try.prog 33 #[.slice A 0 c, .int .i64 0, .bool true, .int .i64 0, .int .i64 now] w fun e w' => e = .returned (.tuple #[.slice none 0 0, .int .i64 4]) ∧ LeB w w' := by
  have e1 : decide ((0 : Int) ≤ 0 ∧ (0 : Int) ≤ -1) = false := by decide
  have hok : FlsOK [] := ⟨by simp, by simp, List.Pairwise.nil⟩
  have HK := Lib.hid (And.intro hok hr)
  clear hok hr
  go_enter Try.func33, Try.ntmps33
  go_wp2_with fail
  refine (flowsFault_ok A c [] HK.out.1 (Nat.zero_le _) w HK.out.2).mono ?_
  rintro e w1 ⟨rfl, hB1⟩
  have H1 := Lib.hid hB1
  clear hB1
  go_wp2_with fail
  refine (within_ok _ _ _ _).mono ?_
  rintro e w1' ⟨rfl, rfl⟩
  rw [e1]
  go_wp2_with fail
  refine bodyPost_ret (v := .tuple #[.slice none 0 0, .int .i64 4]) (by simp [results, go_sem]) rfl ⟨rfl, H1.out⟩
theorem l09Flow_true (f : Fl) (hf : FlOK f) (w : World) : Calls Try.prog 96 #[.agg f.cells] w fun e w' => e = .returned (.bool true) ∧ LeB w w' := by
  have HF := Lib.hid hf
  have hm : ((f.mac.size : Int) == 6) = true := by rw [hf.mac]; rfl
  have e0 : decide ((0 : Int) ≤ f.proto ∧ (f.proto : Int) ≤ 255) = true := decide_eq_true (by have := hf.proto; omega)
  have e1 : decide ((1 : Int) ≤ f.st ∧ (f.st : Int) ≤ 3) = true := decide_eq_true (by have := hf.st1; have := hf.st3; omega)
  have e2 : decide ((0 : Int) ≤ f.til ∧ (f.til : Int) ≤ 100100) = true := decide_eq_true (by have := hf.til; omega)
  have e3 : decide ((0 : Int) ≤ f.own ∧ (f.own : Int) ≤ 10000) = true := decide_eq_true (by have := hf.own; omega)
  clear hf
  go_enter Try.func96, Try.ntmps96
  go_upto_region 1 with (fail)
  generalize hw0 : World.alloc w (.cells f.cells 73) = wa
  have hblk : wa.heap[World.heap w |>.size]? = some (.cells f.cells 73 (0, 0)) := by rw [← hw0]; exact heap_alloc_new _ _
  have hlt : (World.heap w).size < wa.heap.size := (Array.getElem?_eq_some_iff.1 hblk).1
  have hB0 : Below (World.heap w).size w wa := by rw [← hw0]; exact (Below.refl _ _).alloc (Nat.le_refl _) _
  clear hw0
  have HB := Lib.hid hB0
  have c0 := blk_cell hblk 0
  have c1 := blk_cell hblk 1
  have c2 := blk_cell hblk 2
  have c3 := blk_cell hblk 3
  have c4 := blk_cell hblk 4
  have c5 := blk_cell hblk 5
  have c6 := blk_cell hblk 6
  have c7 := blk_cell hblk 7
  have c8 := blk_cell hblk 8
  simp at c0 c1 c2 c3 c4 c5 c6 c7 c8
  clear hblk hlt hB0
  go_wp2_with fail
  refine (l01In_ok _ _ _ _).mono ?_
  rintro e w1 ⟨rfl, rfl⟩
  rw [e0]
  go_wp2_with fail
  refine (l01Mac_ok f.mac _).mono ?_
  rintro e w1 ⟨rfl, rfl⟩
  rw [hm]
  go_wp2_with fail
  refine (l01Ip_ok f.sip HF.out.sip _).mono ?_
  rintro e w1 ⟨rfl, rfl⟩
  go_wp2_with fail
  refine (l01Ip_ok f.dip HF.out.dip _).mono ?_
  rintro e w1 ⟨rfl, rfl⟩
  go_wp2_with fail
  refine (l02Port_okF f.sport HF.out.sport _).mono ?_
  rintro e w1 ⟨rfl, rfl⟩
  go_wp2_with fail
  refine (l02Port_okF f.dport HF.out.dport _).mono ?_
  rintro e w1 ⟨rfl, rfl⟩
  go_wp2_with fail
  refine (l01In_ok _ _ _ _).mono ?_
  rintro e w1 ⟨rfl, rfl⟩
  rw [e1]
  go_wp2_with fail
  refine (l01In_ok _ _ _ _).mono ?_
  rintro e w1 ⟨rfl, rfl⟩
  rw [e2]
  go_wp2_with fail
  refine (l01In_ok _ _ _ _).mono ?_
  rintro e w1 ⟨rfl, rfl⟩
  rw [e3]
  go_wp2_with fail
  go_ret
  exact ⟨rfl, HB.out⟩
theorem sFlowsOK_true (A : Option Addr) (c : Nat) (l : List Fl) (hok : FlsOK l) (hc : l.length ≤ c) (w : World) (hr : Rd w A (rowC flc l)) :
    Calls Try.prog 87 #[.slice A l.length c] w fun e w' => e = .returned (.bool true) ∧ LeB w w' := by
  have hlI : (l.length : Int) ≤ 8 := by have := hok.len; omega
  have hl8 : decide ((8 : Int) < l.length) = false := decide_eq_false (by have := hok.len; omega)
  have hl4 : decide ((4096 : Int) < l.length) = false := decide_eq_false (by have := hok.len; omega)
  have hcI : (l.length : Int) ≤ c := by omega
  have HK := Lib.hid (And.intro hok (And.intro hr hc))
  clear hok hr
  go_enter Try.func87, Try.ntmps87
  go_wp2_with fail
  go_loopw [3] (fun i wr => ∃ k : Nat, i = .int .i64 k ∧ k ≤ l.length ∧ LeB w wr) (fun i _ => (l.length - (intOf i).toNat))
  case atStart => exact ⟨0, rfl, Nat.zero_le _, Below.refl _ _⟩
  case round =>
    obtain ⟨k, rfl, hk, hB⟩ := hrel
    obtain ⟨wo, rfl⟩ : ∃ wo, wo = wr := ⟨_, rfl⟩
    have HR := Lib.hid hB
    clear hB
    by_cases hkl : k < l.length
    · have hltI : (k : Int) < l.length := by omega
      have hno := take_noHit HK.out.1.ap k hkl
      obtain ⟨ad, hA, q1⟩ := FlAt.of (HK.out.2.1.below HR.out (Nat.le_refl _)) k hkl
      subst hA
      obtain ⟨f, hf⟩ : ∃ f, l[k] = f := ⟨_, rfl⟩
      have hfo : FlOK f := by rw [← hf]; exact HK.out.1.ok _ (List.getElem_mem hkl)
      rw [hf] at q1 hno
      have HF := Lib.hid (And.intro hfo hno)
      clear hfo hf hno
      obtain ⟨c0, c1, c2, c3, c4, c5, c6, c7, c8⟩ := q1
      go_upto_region 9 with (fail)
      clear c0 c1 c2 c3 c4 c5 c6 c7 c8
      generalize hw0 : World.alloc wo (.cells f.cells 73) = w1
      have hblk : w1.heap[World.heap wo |>.size]? = some (.cells f.cells 73 (0, 0)) := by rw [← hw0]; exact heap_alloc_new _ _
      have hlt : (World.heap wo).size < w1.heap.size := (Array.getElem?_eq_some_iff.1 hblk).1
      have hB0 : Below (World.heap wo).size wo w1 := by rw [← hw0]; exact (Below.refl _ _).alloc (Nat.le_refl _) _
      clear hw0
      have H1 := Lib.hid (And.intro hblk (And.intro hlt hB0))
      clear hblk hlt hB0
      have q0 := blk_cell H1.out.1 0
      have q1 := blk_cell H1.out.1 1
      have q2 := blk_cell H1.out.1 2
      have q3 := blk_cell H1.out.1 3
      have q4 := blk_cell H1.out.1 4
      have q5 := blk_cell H1.out.1 5
      have q6 := blk_cell H1.out.1 6
      have q7 := blk_cell H1.out.1 7
      have q8 := blk_cell H1.out.1 8
      simp at q0 q1 q2 q3 q4 q5 q6 q7 q8
      go_wp2_with fail
      refine (l09Flow_true f HF.out.1 w1).mono ?_
      rintro e w2 ⟨rfl, hB2⟩
      have hb2 := (hB2.block _ H1.out.2.1).trans H1.out.1
      have H2 := Lib.hid (And.intro hb2 (And.intro (Array.getElem?_eq_some_iff.1 hb2).1 (LeB.tr HR.out (LeB.tr H1.out.2.2 hB2))))
      clear q0 q1 q2 q3 q4 q5 q6 q7 q8 hB2 hb2
      go_wp2_with fail
      rename_i K12 h12
      have H12 := Lib.hid h12
      clear h12
      go_loopw [5] (fun i wr => ∃ j : Nat, i = .int .i64 j ∧ j ≤ k ∧ LeB w2 wr) (fun i _ => (k - (intOf i).toNat))
      case atStart => exact ⟨0, rfl, Nat.zero_le _, Below.refl _ _⟩
      case round =>
        obtain ⟨j, rfl, hj, hB⟩ := hrel
        have HB := Lib.hid hB
        clear hB
        by_cases hjk : j < k
        · have hjkI : (j : Int) < k := by omega
          have hjlI : (j : Int) < l.length := by omega
          obtain ⟨ad2, hA2, q1⟩ := FlAt.of (HK.out.2.1.below (LeB.tr H2.out.2.2 HB.out) (Nat.le_refl _)) j (by omega)
          cases hA2
          obtain ⟨f2, hf2⟩ : ∃ f2, l[j]'(by omega) = f2 := ⟨_, rfl⟩
          have hh : f2.hit f.proto f.sip f.sport f.dip f.dport = false := HF.out.2 f2 (by rw [← hf2]; exact List.mem_iff_getElem.2 ⟨j, by rw [List.length_take]; omega, by rw [List.getElem_take]⟩)
          rw [hf2] at q1
          have HH := Lib.hid hh
          clear hf2 hh
          obtain ⟨c0, c1, c2, c3, c4, c5, c6, c7, c8⟩ := q1
          go_upto_region 15 with (fail)
          clear c0 c1 c2 c3 c4 c5 c6 c7 c8
          generalize hw0 : World.alloc wr (.cells f2.cells 73) = w3
          have hblk : w3.heap[World.heap wr |>.size]? = some (.cells f2.cells 73 (0, 0)) := by rw [← hw0]; exact heap_alloc_new _ _
          have hlt : (World.heap wr).size < w3.heap.size := (Array.getElem?_eq_some_iff.1 hblk).1
          have hB0 : Below (World.heap wr).size wr w3 := by rw [← hw0]; exact (Below.refl _ _).alloc (Nat.le_refl _) _
          clear hw0
          have L3 := LeB.tr HB.out hB0
          have hb3 := (L3.block _ H2.out.2.1).trans H2.out.1
          have H3 := Lib.hid (And.intro hblk (And.intro hlt (And.intro hb3 (LeB.tr HB.out hB0))))
          clear hblk hlt hB0 hb3 L3
          have q0 := blk_cell H3.out.1 0
          have q1 := blk_cell H3.out.1 1
          have q2 := blk_cell H3.out.1 2
          have q3 := blk_cell H3.out.1 3
          have q4 := blk_cell H3.out.1 4
          have q5 := blk_cell H3.out.1 5
          have q6 := blk_cell H3.out.1 6
          have q7 := blk_cell H3.out.1 7
          have q8 := blk_cell H3.out.1 8
          simp at q0 q1 q2 q3 q4 q5 q6 q7 q8
          have p0 := blk_cell H3.out.2.2.1 0
          have p1 := blk_cell H3.out.2.2.1 1
          have p2 := blk_cell H3.out.2.2.1 2
          have p3 := blk_cell H3.out.2.2.1 3
          have p4 := blk_cell H3.out.2.2.1 4
          have p5 := blk_cell H3.out.2.2.1 5
          have p6 := blk_cell H3.out.2.2.1 6
          have p7 := blk_cell H3.out.2.2.1 7
          have p8 := blk_cell H3.out.2.2.1 8
          simp at p0 p1 p2 p3 p4 p5 p6 p7 p8
          go_wp2_with fail
          have hh := HH.out
          unfold Fl.hit at hh
          rw [Bool.or_eq_false_iff] at hh
          refine (l09Same_ok f2 w3 f.proto f.sip f.sport f.dip f.dport).mono ?_
          rw [hh.1]
          rintro e w4 ⟨rfl, hB4⟩
          have h42 := (hB4.block _ H3.out.2.1).trans H3.out.1
          have h43 := (hB4.block _ (Array.getElem?_eq_some_iff.1 H3.out.2.2.1).1).trans H3.out.2.2.1
          have H4 := Lib.hid (And.intro h42 (And.intro h43 (And.intro (LeB.tr H3.out.2.2.2 hB4) hh.2)))
          clear hh h42 h43 hB4 q0 q1 q2 q3 q4 q5 q6 q7 q8 p0 p1 p2 p3 p4 p5 p6 p7 p8
          have q0 := blk_cell H4.out.1 0
          have q1 := blk_cell H4.out.1 1
          have q2 := blk_cell H4.out.1 2
          have q3 := blk_cell H4.out.1 3
          have q4 := blk_cell H4.out.1 4
          have q5 := blk_cell H4.out.1 5
          have q6 := blk_cell H4.out.1 6
          have q7 := blk_cell H4.out.1 7
          have q8 := blk_cell H4.out.1 8
          simp at q0 q1 q2 q3 q4 q5 q6 q7 q8
          have p0 := blk_cell H4.out.2.1 0
          have p1 := blk_cell H4.out.2.1 1
          have p2 := blk_cell H4.out.2.1 2
          have p3 := blk_cell H4.out.2.1 3
          have p4 := blk_cell H4.out.2.1 4
          have p5 := blk_cell H4.out.2.1 5
          have p6 := blk_cell H4.out.2.1 6
          have p7 := blk_cell H4.out.2.1 7
          have p8 := blk_cell H4.out.2.1 8
          simp at p0 p1 p2 p3 p4 p5 p6 p7 p8
          go_wp2_with fail
          refine (l09Same_ok f2 w4 f.proto f.dip f.dport f.sip f.sport).mono ?_
          rw [H4.out.2.2.2]
          rintro e w5 ⟨rfl, hB5⟩
          have H5 := Lib.hid (LeB.tr H4.out.2.2.1 hB5)
          clear hB5 q0 q1 q2 q3 q4 q5 q6 q7 q8 p0 p1 p2 p3 p4 p5 p6 p7 p8
          go_wp2_with fail
          go_roundw
          case rel => exact ⟨j + 1, by go_num, by omega, H5.out⟩
          case measure => simp [intOf]; omega
        · obtain rfl : j = k := by omega
          go_wp2_with fail
          refine H12.out _ _ ?_
          go_wp2_with fail
          go_roundw
          case rel => exact ⟨j + 1, by go_num, by omega, LeB.tr H2.out.2.2 HB.out⟩
          case measure => simp [intOf]; omega
    · obtain rfl : k = l.length := by omega
      go_wp2_with fail
      go_ret
      exact ⟨rfl, HR.out⟩
theorem sFlowPass_ok (A : Option Addr) (c : Nat) (l : List Fl) (hok : FlsOK l) (hc : l.length ≤ c) (k : Nat) (hk : k < l.length) (back : Bool) (flags now : Nat) (hfl : flags < 32) (hn : now ≤ 100000) (f : Fl) (hf : l[k] = f) (w : World) (hr : Rd w A (rowC flc l)) :
    Calls Try.prog 34 #[.slice A l.length c, .int .i64 k, .bool back, .int .i64 flags, .int .i64 now] w fun e w' => ∃ v, e = .returned (.tuple #[v, .int .i64 0]) ∧ w'.ownsRow w.heap.size 73 9 v (passC l k f back flags now).length (rowC flc (passC l k f back flags now)) ∧ LeB w w' := by
  have e1 : decide ((0 : Int) ≤ k ∧ (k : Int) ≤ (l.length : Int) - 1) = true := decide_eq_true (by omega)
  have e2 : decide ((0 : Int) ≤ flags ∧ (flags : Int) ≤ 31) = true := decide_eq_true (by omega)
  have e3 : decide ((0 : Int) ≤ now ∧ (now : Int) ≤ 100000) = true := decide_eq_true (by omega)
  have hll : l.length ≤ 8 := hok.len
  have hl4 : decide ((4096 : Int) < l.length) = false := decide_eq_false (by omega)
  have HK := Lib.hid (And.intro hok (And.intro hr (And.intro hf (And.intro hfl (And.intro hn (And.intro hc hk))))))
  clear hok hr hf
  have hlI : (l.length : Int) ≤ 8 := by omega
  go_enter Try.func34, Try.ntmps34
  go_wp2_with fail
  refine (sFlowsOK_true A c l HK.out.1 hc w HK.out.2.1).mono ?_
  rintro e w1 ⟨rfl, hB1⟩
  have H1 := Lib.hid hB1
  clear hB1
  go_wp2_with fail
  refine (l01In_ok _ _ _ _).mono ?_
  rintro e w1' ⟨rfl, rfl⟩
  rw [e1]
  go_wp2_with fail
  refine (l01In_ok _ _ _ _).mono ?_
  rintro e w1' ⟨rfl, rfl⟩
  rw [e2]
  go_wp2_with fail
  refine (l01In_ok _ _ _ _).mono ?_
  rintro e w1' ⟨rfl, rfl⟩
  rw [e3]
  clear e1 e2 e3
  go_wp2_with fail
  refine (l09Pass_ok A c l (by omega) hc k hk back flags now HK.out.2.2.2.1 HK.out.2.2.2.2.1 f HK.out.2.2.1 w1 (HK.out.2.1.below H1.out (Nat.le_refl _))).mono ?_
  rintro e w3 ⟨v3, rfl, hown3, hB3⟩
  have H3 := Lib.hid (And.intro (own_base hown3 H1.out.size) (LeB.tr H1.out hB3))
  clear hown3 hB3
  go_wp2_with fail
  refine bodyPost_ret (v := .tuple #[v3, .int .i64 0]) (by simp [results, go_sem]) rfl ⟨v3, rfl, H3.out.1, H3.out.2⟩
end Go.Proofs.Ytdenjmdngmmodaa
