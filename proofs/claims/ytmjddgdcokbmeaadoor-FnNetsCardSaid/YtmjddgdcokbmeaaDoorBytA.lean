/- Bytes: rows of bytes made, turned to strings, appended. -/
import Derived.Test.YtmjddgdcokbmeaaDoorLib
namespace Go.Proofs.YtmjddgdcokbmeaaDoor
open Go.RowKit
set_option linter.unusedVariables false
set_option linter.unusedSimpArgs false
set_option maxRecDepth 20000
set_option maxHeartbeats 1000000

theorem info_u8 : (Tryd.prog.info? 5).map (fun i => (i.zero, i.size, i.bytes)) = some (some (.int .u8 0), 1, 1) := by kernel_rfl
/-- make([]byte, n). -/
theorem make_bytes (n : Nat) (hn : n ≤ 1099511627776) (w : World) : (Instr.makeSlice 22 (.int .i64 (n : Int)) (.int .i64 (n : Int))).run Tryd.prog w = .ok (.slice (some ⟨w.heap.size, 0, none⟩) n n) (w.alloc (.cells (List.replicate n (Value.int .u8 0)).toArray 5)) := by
  obtain ⟨i, hi, hz, hs, hb⟩ := info_parts info_u8
  have h := run_make (P := Tryd.prog) w 22 5 i _ Tryd.underlying22 hi hz .i64 .i64 n n (by omega) (Int.le_refl _) (by rw [hb]; omega) (by omega)
  rw [h, hs]
  simp only [Int.toNat_natCast, Nat.mul_one]
  congr 3
  apply Array.toList_inj.1
  exact toList_madeCells_one _ n
/-- string(b). -/
theorem bytes_str (A : Option Addr) (n c : Nat) (bs : List UInt8) (hn : bs.length = n) (w : World) (hr : Rd w A (bs.map bV)) : (convert 22 9 (.slice A n c)).run Tryd.prog w = .ok (.string (bstr bs)) w :=
  run_conv_bytes w 22 9 5 Tryd.underlying22 Tryd.underlying5 Tryd.underlying9 A n c bs hn hr
theorem append_bytes (w : World) (base : Nat) (v : Value) (bs : List UInt8) (hown : w.ownsRow base 5 1 v bs.length (bs.map bV)) (A : Option Addr) (c : Nat) (ns : List UInt8) (hr : Rd w A (ns.map bV))
    (h : bs.length + ns.length ≤ 1099511627776) (hb : base ≤ w.heap.size) :
    ∃ v' w', (Builtin.append_ #[22, 22] 22 #[v, .slice A ns.length c]).run Tryd.prog w = .ok v' w' ∧ w'.ownsRow base 5 1 v' (bs ++ ns).length ((bs ++ ns).map bV) ∧ w.grownBy w' v.ownBlock := by
  obtain ⟨i, hi, hz, hs, hby⟩ := info_parts info_u8
  obtain ⟨v', w', h1, h2, h3, _⟩ := run_append_rd (P := Tryd.prog) w base 22 22 5 i _ 1 1 Tryd.underlying22 hi hz hs hby rfl (by omega) v bs.length (bs.map bV) hown A ns.length c (ns.map bV) (by simp) hr
    (by intro u hu; obtain ⟨b, _, rfl⟩ := List.mem_map.1 hu; rfl) (by simp only [maxLen]; omega) (by omega) hb
  exact ⟨v', w', h1, by rw [List.length_append, List.map_append]; exact h2, h3⟩

end Go.Proofs.YtmjddgdcokbmeaaDoor
