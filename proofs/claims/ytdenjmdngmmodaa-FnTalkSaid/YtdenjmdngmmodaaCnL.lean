/- Connections: the segments of a text and of an end. -/
import Derived.Test.YtdenjmdngmmodaaCnK
namespace Go.Proofs.Ytdenjmdngmmodaa
open Go.RowKit
set_option linter.unusedVariables false
set_option linter.unusedSimpArgs false
set_option maxRecDepth 200000
set_option maxHeartbeats 600000

theorem info_sg : (Try.prog.info? 55).map (fun i => (i.zero, i.size, i.bytes)) = some (some (.agg #[.int .i64 0, .int .i64 0, .int .i64 0, .int .i64 0, .int .i64 0, .int .i64 0, .string ⟨#[]⟩]), 7, 64) := by kernel_rfl
def sgC (l : List Sg) : List Value := l.flatMap (·.cells.toList)
theorem sgC_len (l : List Sg) : (sgC l).length = l.length * 7 := by
  induction l with
  | nil => rfl
  | cons a r ih =>
    have h1 : (sgC (a :: r)).length = 7 + (sgC r).length := by rw [sgC, List.flatMap_cons, List.length_append]; rfl
    rw [h1, ih, List.length_cons]; omega
theorem sgC_app (a b : List Sg) : sgC (a ++ b) = sgC a ++ sgC b := List.flatMap_append
theorem sgC_one (l : List Sg) : ∀ u ∈ sgC l, u.oneCell' = true := by
  intro u hu
  obtain ⟨g, _, hg⟩ := List.mem_flatMap.1 hu
  simp at hg
  rcases hg with rfl | rfl | rfl | rfl | rfl | rfl | rfl <;> rfl
theorem append_sg (w : World) (base : Nat) (v : Value) (l : List Sg) (hown : w.ownsRow base 55 7 v l.length (sgC l)) (A : Option Addr) (c : Nat) (ns : List Sg) (hr : Rd w A (sgC ns)) (h : l.length + ns.length ≤ 1000000) (hb : base ≤ w.heap.size) :
    ∃ v' w', (Builtin.append_ #[49, 49] 49 #[v, .slice A ns.length c]).run Try.prog w = .ok v' w' ∧ w'.ownsRow base 55 7 v' (l ++ ns).length (sgC (l ++ ns)) ∧ w.grownBy w' v.ownBlock := by
  obtain ⟨i, hi, hz, hs, hby⟩ := info_parts info_sg
  obtain ⟨v', w', h1, h2, h3, _⟩ := run_append_rd (P := Try.prog) w base 49 49 55 i _ 7 64 Try.underlying49 hi hz hs hby rfl (by omega) v l.length (sgC l) hown A ns.length c (sgC ns) (sgC_len ns) hr
    (sgC_one ns) (by simp only [maxLen]; omega) (by omega) hb
  exact ⟨v', w', h1, by rw [List.length_append, sgC_app]; exact h2, h3⟩
theorem own_SgL {w : World} {B : Nat} {v : Value} {l : List Sg} (h : w.ownsRow B 55 7 v l.length (sgC l)) : SgL B l v w := by
  obtain ⟨A, c, h1, h2, h3, h4⟩ := own_slice h
  exact ⟨A, c, h1, h2, h3, h4⟩

theorem own_below {w w' : World} {B : Nat} {e : TypeId} {size : Nat} {v : Value} {n : Nat} {xs : List Value} (h : w.ownsRow B e size v n xs) (hb : Below w.heap.size w w') : w'.ownsRow B e size v n xs :=
  h.kept (grownBy_of_below hb none) (by
    cases hv : v.ownBlock with
    | none => exact Or.inl rfl
    | some b => exact Or.inr (by intro e; cases e))
def sgP (c : Cn) (fr : Nat) (t : ByteArray) : Sg := ⟨80, c.port, fr, c.want, 24, 1000, t⟩
def sgE (c : Cn) (fr : Nat) : Sg := ⟨80, c.port, fr, c.want, 17, 1000, ⟨#[]⟩⟩
def piecesC (c : Cn) (fr : Nat) (t : ByteArray) : List Sg :=
  if t.size = 0 then [sgE c fr] else if t.size ≤ 200 then [sgP c fr t, sgE c (onw fr t.size)]
  else [sgP c fr (t.extract 0 200), sgP c (onw fr 200) (t.extract 200 t.size), sgE c (onw (onw fr 200) (t.size - 200))]
theorem pieces_step (c : Cn) (fr : Nat) (t : ByteArray) (h0 : t.size ≠ 0) (h : t.size ≤ 400) (n : Nat) (hn : n = min t.size 200) : piecesC c fr t = sgP c fr (t.extract 0 n) :: piecesC c (onw fr n) (t.extract n t.size) := by
  by_cases h2 : t.size ≤ 200
  · obtain rfl : n = t.size := by omega
    rw [piecesC, if_neg h0, if_pos h2, piecesC, if_pos (by simp), ByteArray.extract_zero_size]
  · obtain rfl : n = 200 := by omega
    have hs : (t.extract 200 t.size).size = t.size - 200 := by simp
    rw [piecesC, if_neg h0, if_neg h2, piecesC, if_neg (by omega), if_pos (by omega), hs]
theorem str_eq0 {s : ByteArray} (h : s.size = 0) : s = ⟨#[]⟩ := by
  obtain ⟨d⟩ := s
  obtain ⟨l⟩ := d
  cases l with
  | nil => rfl
  | cons a r => simp [ByteArray.size] at h
theorem pieces_step1 (c : Cn) (fr : Nat) (t : ByteArray) (h0 : t.size ≠ 0) (h : t.size ≤ 200) : piecesC c fr t = [sgP c fr t] ++ piecesC c (onw fr t.size) ByteArray.empty := by
  rw [pieces_step c fr t h0 (by omega) t.size (by omega), ByteArray.extract_zero_size, show t.extract t.size t.size = ByteArray.empty from str_eq0 (by simp), List.singleton_append]
theorem pieces_step2 (c : Cn) (fr : Nat) (t : ByteArray) (h : 200 < t.size) (h2 : t.size ≤ 400) : piecesC c fr t = [sgP c fr (t.extract 0 200)] ++ piecesC c (onw fr 200) (t.extract 200 t.size) := by
  rw [List.singleton_append]
  exact pieces_step c fr t (by omega) h2 200 (by omega)
def strSz : Value → Nat
  | .string s => s.size
  | _ => 0
theorem pieces_ok (c : Cn) (b fr : Nat) (t : ByteArray) (w : World) (hb : w.heap[b]? = some (.cells c.cells 48 (0, 0))) (hf : fr < 4294967296) (ht : t.size ≤ 400) :
    Calls Try.prog 122 #[.pointer (some ⟨b, 0, none⟩), .int .i64 fr, .string t] w fun e w' => ∃ v, e = .returned v ∧ SgL w.heap.size (piecesC c fr t) v w' ∧ Below w.heap.size w w' := by
  have hlt := (Array.getElem?_eq_some_iff.1 hb).1
  obtain ⟨L, hL⟩ : ∃ L, piecesC c fr t = L := ⟨_, rfl⟩
  rw [hL]
  have HL := Lib.hid hL
  have HB := Lib.hid hb
  clear hL hb
  have hLl : L.length ≤ 3 := by rw [← HL.out]; unfold piecesC; split; simp; split <;> simp
  have HLl := Lib.hid hLl
  clear hLl
  go_enter Try.func122, Try.ntmps122
  go_wp2_with fail
  have hown0 : (w.alloc (.cells #[] 55)).ownsRow w.heap.size 55 7 (.slice (some ⟨w.heap.size, 0, none⟩) 0 0) ([] : List Sg).length (sgC []) := World.ownsRow_lit w #[] 0 (Nat.le_refl _) (by simp [maxLen]) (by simp)
  have hB0 : Below w.heap.size w (w.alloc (.cells #[] 55)) := (Below.refl _ _).alloc (Nat.le_refl _) _
  go_loopw [1, 2, 7] (fun fv tv v wr => ∃ (k : Nat) (s : ByteArray) (l : List Sg), fv = .int .i64 k ∧ k < 4294967296 ∧ tv = .string s ∧ s.size ≤ 400 ∧ l ++ piecesC c k s = L ∧ wr.ownsRow w.heap.size 55 7 v l.length (sgC l) ∧ Below w.heap.size w wr) (fun _ tv _ _ => strSz tv)
  case atStart => exact ⟨fr, t, [], rfl, hf, rfl, ht, HL.out, hown0, hB0⟩
  case round =>
    obtain ⟨k, s, l, rfl, hk, rfl, hs, hl, hown, hBr⟩ := hrel
    have HO := Lib.hid (And.intro hown (And.intro hBr hl))
    clear hown hBr hl hown0 hB0
    have hll : l.length ≤ 3 := by have := HLl.out; have h2 := congrArg List.length HO.out.2.2; simp at h2; omega
    by_cases h0 : s.size = 0
    · obtain rfl := str_eq0 h0
      go_wp2_with fail
      refine (tell_ok c b k 17 ⟨#[]⟩ wr ((HO.out.2.1.block b hlt).trans HB.out)).mono ?_
      rintro e w1 ⟨rfl, hB1⟩
      go_wp2_with (at_builtin; refine Hid.out ?_)
      refine Lib.hid ?_
      have hB2 : Below wr.heap.size wr (w1.alloc (.cells (Sg.cells (sgE c k)) 55)) := Below.trans hB1 ((Below.refl _ _).alloc hB1.size _)
      have hrd : Rd (w1.alloc (.cells (Sg.cells (sgE c k)) 55)) (some ⟨w1.heap.size, 0, none⟩) (sgC [sgE c k]) := by simpa [sgC] using Rd.block (heap_alloc_new w1 (.cells (Sg.cells (sgE c k)) 55)) 0
      have hB3 : Below w.heap.size w (w1.alloc (.cells (Sg.cells (sgE c k)) 55)) := Below.trans HO.out.2.1 (hB2.mono HO.out.2.1.size)
      have hown2 := own_below HO.out.1 hB2
      obtain ⟨v3, w3, hrun, hown3, hg3⟩ := append_sg _ w.heap.size u7 l hown2 (some ⟨w1.heap.size, 0, none⟩) 1 [sgE c k] hrd (by simp; omega) hB3.size
      have hB4 : Below w.heap.size w w3 := hB3.grown hg3 hB3.size (fun g hg => (hown2.lt g hg).1)
      refine wpList_append_run rfl _ _ _ _ rfl rfl rfl hrun ?_
      have hfin : l ++ [sgE c k] = L := by rw [← HO.out.2.2]; rfl
      rw [hfin] at hown3
      have H3 := Lib.hid (And.intro hown3 hB4)
      clear hrun hrd hown2 hB1 hB2 hB3 hown3 hB4 hg3 hfin
      go_wp2_with fail
      go_ret
      exact ⟨_, rfl, own_SgL H3.out.1, H3.out.2⟩
    · have hne := str_ne (s := s) (fun e => h0 (by rw [e]; rfl))
      by_cases h2 : s.size ≤ 200
      · have h2I : (s.size : Int) ≤ 200 := by omega
        have hst := pieces_step1 c k s h0 h2
        have HS := Lib.hid hst
        clear hst
        go_wp2_with fail
        refine (tell_ok c b k 24 s wr ((HO.out.2.1.block b hlt).trans HB.out)).mono ?_
        rintro e w1 ⟨rfl, hB1⟩
        go_wp2_with (at_builtin; refine Hid.out ?_)
        refine Lib.hid ?_
        have hB2 : Below wr.heap.size wr (w1.alloc (.cells (Sg.cells (sgP c k s)) 55)) := Below.trans hB1 ((Below.refl _ _).alloc hB1.size _)
        have hrd : Rd (w1.alloc (.cells (Sg.cells (sgP c k s)) 55)) (some ⟨w1.heap.size, 0, none⟩) (sgC [sgP c k s]) := by simpa [sgC] using Rd.block (heap_alloc_new w1 (.cells (Sg.cells (sgP c k s)) 55)) 0
        have hB3 : Below w.heap.size w (w1.alloc (.cells (Sg.cells (sgP c k s)) 55)) := Below.trans HO.out.2.1 (hB2.mono HO.out.2.1.size)
        have hown2 := own_below HO.out.1 hB2
        obtain ⟨v3, w3, hrun, hown3, hg3⟩ := append_sg _ w.heap.size u7 l hown2 (some ⟨w1.heap.size, 0, none⟩) 1 [sgP c k s] hrd (by simp; omega) hB3.size
        have hB4 : Below w.heap.size w w3 := hB3.grown hg3 hB3.size (fun g hg => (hown2.lt g hg).1)
        refine wpList_append_run rfl _ _ _ _ rfl rfl rfl hrun ?_
        have H3 := Lib.hid (And.intro hown3 hB4)
        clear hrun hrd hown2 hB1 hB2 hB3 hown3 hB4 hg3
        go_wp2_with fail
        go_quiet ((exact qs (onward_ok k s.size hk (by omega) _)))
        go_wp2_with fail
        go_roundw
        case rel => exact ⟨onw k s.size, ByteArray.empty, l ++ [sgP c k s], rfl, onw_lt _ _, rfl, by show 0 ≤ 400; omega, by rw [← HO.out.2.2, HS.out, List.append_assoc], H3.out.1, below_drewN H3.out.2 _⟩
        case measure => simp [strSz]; omega
      · have h2I : (200 : Int) < s.size := by omega
        have hst := pieces_step2 c k s (by omega) hs
        have HS := Lib.hid hst
        clear hst
        go_wp2_with fail
        refine (tell_ok c b k 24 (s.extract 0 200) wr ((HO.out.2.1.block b hlt).trans HB.out)).mono ?_
        rintro e w1 ⟨rfl, hB1⟩
        go_wp2_with (at_builtin; refine Hid.out ?_)
        refine Lib.hid ?_
        have hB2 : Below wr.heap.size wr (w1.alloc (.cells (Sg.cells (sgP c k (s.extract 0 200))) 55)) := Below.trans hB1 ((Below.refl _ _).alloc hB1.size _)
        have hrd : Rd (w1.alloc (.cells (Sg.cells (sgP c k (s.extract 0 200))) 55)) (some ⟨w1.heap.size, 0, none⟩) (sgC [sgP c k (s.extract 0 200)]) := by simpa [sgC] using Rd.block (heap_alloc_new w1 (.cells (Sg.cells (sgP c k (s.extract 0 200))) 55)) 0
        have hB3 : Below w.heap.size w (w1.alloc (.cells (Sg.cells (sgP c k (s.extract 0 200))) 55)) := Below.trans HO.out.2.1 (hB2.mono HO.out.2.1.size)
        have hown2 := own_below HO.out.1 hB2
        obtain ⟨v3, w3, hrun, hown3, hg3⟩ := append_sg _ w.heap.size u7 l hown2 (some ⟨w1.heap.size, 0, none⟩) 1 [sgP c k (s.extract 0 200)] hrd (by simp; omega) hB3.size
        have hB4 : Below w.heap.size w w3 := hB3.grown hg3 hB3.size (fun g hg => (hown2.lt g hg).1)
        refine wpList_append_run rfl _ _ _ _ rfl rfl rfl hrun ?_
        have H3 := Lib.hid (And.intro hown3 hB4)
        clear hrun hrd hown2 hB1 hB2 hB3 hown3 hB4 hg3
        go_wp2_with fail
        go_quiet ((exact qs (onward_ok k 200 hk (by omega) _)))
        go_wp2_with fail
        go_roundw
        case rel => exact ⟨onw k 200, s.extract 200 s.size, l ++ [sgP c k (s.extract 0 200)], rfl, onw_lt _ _, rfl, by simp only [ByteArray.size_extract]; omega, by rw [← HO.out.2.2, HS.out, List.append_assoc], H3.out.1, below_drewN H3.out.2 _⟩
        case measure => simp [strSz]; omega
end Go.Proofs.Ytdenjmdngmmodaa
