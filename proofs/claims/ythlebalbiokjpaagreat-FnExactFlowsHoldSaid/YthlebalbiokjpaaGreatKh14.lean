/- The gateway's tests: small functions of both hands. | The gateway's tests: nets, ranges, letters, connections. | The gateway's tests: flows, connections, fails, records, sessions. -/
import Derived.Test.YthlebalbiokjpaaGreatKhVL
namespace Go.Proofs.YthlebalbiokjpaaGreat
open Go.RowKit
set_option linter.unusedVariables false
set_option maxRecDepth 100000

theorem hmx : Tryz.prog.follows .mixedOrders = true := by kernel_rfl
abbrev wr (n : Int) : Int := IntKind.wrap .i64 n
def w_ (n a b : Int) : Bool := decide (n ≥ a) && decide (n ≤ b)
abbrev ip_ (n : Int) : Bool := w_ n 0 4294967295
abbrev port_ (n : Int) : Bool := w_ n 0 65535
abbrev mac_ (t : ByteArray) : Bool := (t.size : Int) == 6
def kdL : List (Nat × Kd) := [(3, .int), (9, .str), (5, .byte), (274, .u32), (253, .bytes), (40, .net), (231, .rule), (192, .place), (199, .role), (134, .user), (131, .session), (157, .fail), (138, .record), (88, .flow), (95, .conn), (190, .range), (23, .net), (260, .rule), (196, .place), (181, .role), (183, .user), (185, .session), (187, .fail), (205, .record), (149, .flow), (151, .conn), (194, .range)]
def kdM : TypeId → Option Kd := fun t => (kdL.find? fun x => x.1 == t).map (·.2)
def G0 : Ctx := ⟨[], [], kdM⟩
theorem G0_ok : COk Tryz.prog G0 := COk.none
def c_within : Entry := ent3 cI cI cI fun n a b => (.yes, .b (w_ n a b))
theorem o_within : ∀ n a b, OkC Tryz.prog 54 [cI.enc n, cI.enc a, cI.enc b] (.b (w_ n a b)) := fun n a b =>
  have hs : Sf (fnT Tryz.prog G0 (fun _ _ => none) Tryz.f54 (bd Tryz.f54) [cI.enc n, cI.enc a, cI.enc b]) := Sf.chk (by kernel_rfl)
  OkC.b (fn_ok0 G0_ok hmx Tryz.func54 (bd_eq (by kernel_rfl)) _ hs) hs (by kernel_rfl) (by kernel_rfl)
theorem e_within : EOk Tryz.prog 54 c_within := ent3_ok Tryz.call54 fun n a b hq => o_within n a b
def c_l01In : Entry := ent3 cI cI cI fun n a b => (.yes, .b (w_ n a b))
theorem o_l01In : ∀ n a b, OkC Tryz.prog 46 [cI.enc n, cI.enc a, cI.enc b] (.b (w_ n a b)) := fun n a b =>
  have hs : Sf (fnT Tryz.prog G0 (fun _ _ => none) Tryz.f46 (bd Tryz.f46) [cI.enc n, cI.enc a, cI.enc b]) := Sf.chk (by kernel_rfl)
  OkC.b (fn_ok0 G0_ok hmx Tryz.func46 (bd_eq (by kernel_rfl)) _ hs) hs (by kernel_rfl) (by kernel_rfl)
theorem e_l01In : EOk Tryz.prog 46 c_l01In := ent3_ok Tryz.call46 fun n a b hq => o_l01In n a b
def G1 : Ctx := G0.add [(54, c_within), (46, c_l01In)]
theorem G1_ok : COk Tryz.prog G1 := G0_ok.add (CsOk.cons e_within (CsOk.cons e_l01In (CsOk.nil)))
def c_isAddress : Entry := ent1 cI fun n => (.yes, .b (ip_ n))
theorem o_isAddress : ∀ n, OkC Tryz.prog 55 [cI.enc n] (.b (ip_ n)) := fun n =>
  have hs : Sf (fnT Tryz.prog G1 (fun _ _ => none) Tryz.f55 (bd Tryz.f55) [cI.enc n]) := Sf.chk (by kernel_rfl)
  OkC.b (fn_ok0 G1_ok hmx Tryz.func55 (bd_eq (by kernel_rfl)) _ hs) hs (by kernel_rfl) (by kernel_rfl)
theorem e_isAddress : EOk Tryz.prog 55 c_isAddress := ent1_ok Tryz.call55 fun n hq => o_isAddress n
def c_l01Ip : Entry := ent1 cI fun n => (.yes, .b (ip_ n))
theorem o_l01Ip : ∀ n, OkC Tryz.prog 47 [cI.enc n] (.b (ip_ n)) := fun n =>
  have hs : Sf (fnT Tryz.prog G1 (fun _ _ => none) Tryz.f47 (bd Tryz.f47) [cI.enc n]) := Sf.chk (by kernel_rfl)
  OkC.b (fn_ok0 G1_ok hmx Tryz.func47 (bd_eq (by kernel_rfl)) _ hs) hs (by kernel_rfl) (by kernel_rfl)
theorem e_l01Ip : EOk Tryz.prog 47 c_l01Ip := ent1_ok Tryz.call47 fun n hq => o_l01Ip n
def c_isPort : Entry := ent1 cI fun n => (.yes, .b (port_ n))
theorem o_isPort : ∀ n, OkC Tryz.prog 143 [cI.enc n] (.b (port_ n)) := fun n =>
  have hs : Sf (fnT Tryz.prog G1 (fun _ _ => none) Tryz.f143 (bd Tryz.f143) [cI.enc n]) := Sf.chk (by kernel_rfl)
  OkC.b (fn_ok0 G1_ok hmx Tryz.func143 (bd_eq (by kernel_rfl)) _ hs) hs (by kernel_rfl) (by kernel_rfl)
theorem e_isPort : EOk Tryz.prog 143 c_isPort := ent1_ok Tryz.call143 fun n hq => o_isPort n
def c_l02Port : Entry := ent1 cI fun n => (.yes, .b (port_ n))
theorem o_l02Port : ∀ n, OkC Tryz.prog 193 [cI.enc n] (.b (port_ n)) := fun n =>
  have hs : Sf (fnT Tryz.prog G1 (fun _ _ => none) Tryz.f193 (bd Tryz.f193) [cI.enc n]) := Sf.chk (by kernel_rfl)
  OkC.b (fn_ok0 G1_ok hmx Tryz.func193 (bd_eq (by kernel_rfl)) _ hs) hs (by kernel_rfl) (by kernel_rfl)
theorem e_l02Port : EOk Tryz.prog 193 c_l02Port := ent1_ok Tryz.call193 fun n hq => o_l02Port n
def c_isTime : Entry := ent1 cI fun n => (.yes, .b (w_ n 0 100000))
theorem o_isTime : ∀ n, OkC Tryz.prog 53 [cI.enc n] (.b (w_ n 0 100000)) := fun n =>
  have hs : Sf (fnT Tryz.prog G1 (fun _ _ => none) Tryz.f53 (bd Tryz.f53) [cI.enc n]) := Sf.chk (by kernel_rfl)
  OkC.b (fn_ok0 G1_ok hmx Tryz.func53 (bd_eq (by kernel_rfl)) _ hs) hs (by kernel_rfl) (by kernel_rfl)
theorem e_isTime : EOk Tryz.prog 53 c_isTime := ent1_ok Tryz.call53 fun n hq => o_isTime n
def c_isProto : Entry := ent1 cI fun n => (.yes, .b (w_ n 0 255))
theorem o_isProto : ∀ n, OkC Tryz.prog 207 [cI.enc n] (.b (w_ n 0 255)) := fun n =>
  have hs : Sf (fnT Tryz.prog G1 (fun _ _ => none) Tryz.f207 (bd Tryz.f207) [cI.enc n]) := Sf.chk (by kernel_rfl)
  OkC.b (fn_ok0 G1_ok hmx Tryz.func207 (bd_eq (by kernel_rfl)) _ hs) hs (by kernel_rfl) (by kernel_rfl)
theorem e_isProto : EOk Tryz.prog 207 c_isProto := ent1_ok Tryz.call207 fun n hq => o_isProto n
def c_macOK : Entry := ent1 cS fun t => (.yes, .b (mac_ t))
theorem o_macOK : ∀ t, OkC Tryz.prog 142 [cS.enc t] (.b (mac_ t)) := fun t =>
  have hs : Sf (fnT Tryz.prog G1 (fun _ _ => none) Tryz.f142 (bd Tryz.f142) [cS.enc t]) := Sf.chk (by kernel_rfl)
  OkC.b (fn_ok0 G1_ok hmx Tryz.func142 (bd_eq (by kernel_rfl)) _ hs) hs (by kernel_rfl) (by kernel_rfl)
theorem e_macOK : EOk Tryz.prog 142 c_macOK := ent1_ok Tryz.call142 fun t hq => o_macOK t
def c_l01Mac : Entry := ent1 cS fun t => (.yes, .b (mac_ t))
theorem o_l01Mac : ∀ t, OkC Tryz.prog 123 [cS.enc t] (.b (mac_ t)) := fun t =>
  have hs : Sf (fnT Tryz.prog G1 (fun _ _ => none) Tryz.f123 (bd Tryz.f123) [cS.enc t]) := Sf.chk (by kernel_rfl)
  OkC.b (fn_ok0 G1_ok hmx Tryz.func123 (bd_eq (by kernel_rfl)) _ hs) hs (by kernel_rfl) (by kernel_rfl)
theorem e_l01Mac : EOk Tryz.prog 123 c_l01Mac := ent1_ok Tryz.call123 fun t hq => o_l01Mac t
def c_hashOK : Entry := ent1 cS fun t => (.yes, .b ((t.size : Int) == 32))
theorem o_hashOK : ∀ t, OkC Tryz.prog 204 [cS.enc t] (.b ((t.size : Int) == 32)) := fun t =>
  have hs : Sf (fnT Tryz.prog G1 (fun _ _ => none) Tryz.f204 (bd Tryz.f204) [cS.enc t]) := Sf.chk (by kernel_rfl)
  OkC.b (fn_ok0 G1_ok hmx Tryz.func204 (bd_eq (by kernel_rfl)) _ hs) hs (by kernel_rfl) (by kernel_rfl)
theorem e_hashOK : EOk Tryz.prog 204 c_hashOK := ent1_ok Tryz.call204 fun t hq => o_hashOK t
def c_userNumbers : Entry := ent2 cI cI fun n k => (.yes, .b (w_ n 0 1000000 && w_ k 0 1000))
theorem o_userNumbers : ∀ n k, OkC Tryz.prog 206 [cI.enc n, cI.enc k] (.b (w_ n 0 1000000 && w_ k 0 1000)) := fun n k =>
  have hs : Sf (fnT Tryz.prog G1 (fun _ _ => none) Tryz.f206 (bd Tryz.f206) [cI.enc n, cI.enc k]) := Sf.chk (by kernel_rfl)
  OkC.b (fn_ok0 G1_ok hmx Tryz.func206 (bd_eq (by kernel_rfl)) _ hs) hs (by kernel_rfl) (by kernel_rfl)
theorem e_userNumbers : EOk Tryz.prog 206 c_userNumbers := ent2_ok Tryz.call206 fun n k hq => o_userNumbers n k
end Go.Proofs.YthlebalbiokjpaaGreat
namespace Go.Proofs.YthlebalbiokjpaaGreat
open Go.RowKit
set_option linter.unusedVariables false
set_option maxRecDepth 100000

def G2 : Ctx := G1.add [(55, c_isAddress), (47, c_l01Ip), (143, c_isPort), (193, c_l02Port), (53, c_isTime), (207, c_isProto), (142, c_macOK), (123, c_l01Mac), (204, c_hashOK), (206, c_userNumbers)]
theorem G2_ok : COk Tryz.prog G2 := G1_ok.add (CsOk.cons e_isAddress (CsOk.cons e_l01Ip (CsOk.cons e_isPort (CsOk.cons e_l02Port (CsOk.cons e_isTime (CsOk.cons e_isProto (CsOk.cons e_macOK (CsOk.cons e_l01Mac (CsOk.cons e_hashOK (CsOk.cons e_userNumbers (CsOk.nil)))))))))))
theorem wr_in {n : Int} (h0 : -9223372036854775808 ≤ n) (h1 : n ≤ 9223372036854775807) : wr n = n := by
  simp [IntKind.wrap, IntKind.bits, IntKind.signed]
  omega
theorem w_true {n a b : Int} : w_ n a b = true ↔ a ≤ n ∧ n ≤ b := by simp [w_]
abbrev sh_ (b : Int) : Nat := min (wr (32 - b)).toNat 64
abbrev shS_ (b : Int) : Nat := min (IntKind.u64.wrap (wr (32 - b))).toNat 64
abbrev neg_ (b : Int) : Bool := decide (wr (32 - b) < 0)
abbrev negS_ (b : Int) : Bool := decide (IntKind.u64.wrap (wr (32 - b)) < 0)
theorem neg_no {b : Int} (h : w_ b 0 32 = true) : neg_ b = false := by
  have := w_true.1 h
  unfold neg_
  rw [wr_in (by omega) (by omega)]
  simp; omega
theorem u64_in {n : Int} (h0 : 0 ≤ n) (h1 : n ≤ 9223372036854775807) : IntKind.u64.wrap n = n := by
  simp [IntKind.wrap, IntKind.bits, IntKind.signed]
  omega
theorem negS_no {b : Int} (h : w_ b 0 32 = true) : negS_ b = false := by
  have := w_true.1 h
  unfold negS_
  rw [wr_in (by omega) (by omega), u64_in (by omega) (by omega)]
  simp; omega
theorem shS_sh {b : Int} (h : w_ b 0 32 = true) : shS_ b = sh_ b := by
  have := w_true.1 h
  unfold shS_ sh_
  rw [wr_in (by omega) (by omega), u64_in (by omega) (by omega)]
/-- A net is right. -/
def netOK (n : XNet) : Bool := ip_ n.ip && (w_ n.bits 0 32 && bits .and .i64 n.ip (wr (wr (1 * 2 ^ sh_ n.bits) - 1)) == 0)
theorem netOK_bits {n : XNet} (h : netOK n = true) : w_ n.bits 0 32 = true := by
  unfold netOK at h
  simp only [Bool.and_eq_true] at h
  exact h.2.1
/-- A right net has an address. -/
def hasM (n : XNet) (ip : Int) : Bool := n.ip.fdiv (2 ^ sh_ n.bits) == ip.fdiv (2 ^ sh_ n.bits)
theorem bads3 {a b c : Bool} (h : b = true → c = false) : (a && (b && (bif c then true else false))) = false := by
  cases b <;> cases a <;> simp_all
theorem ite3 {b c x y : Bool} (h : b = true → c = false) (h2 : b = true → x = y) : (b && (bif c then false else x)) = (b && y) := by
  cases b <;> simp_all
def c_NetOK : Entry := ent1 (cA0 .net) fun n => (.yes, .b (netOK n))
theorem o_NetOK : ∀ n, OkC Tryz.prog 197 [(cA0 .net).enc n] (.b (netOK n)) := fun n =>
  have hs : Sf (fnT Tryz.prog G2 (fun _ _ => none) Tryz.f197 (bd Tryz.f197) [(cA0 .net).enc n]) := Sf.bads (b := ip_ n.ip && (w_ n.bits 0 32 && (bif neg_ n.bits then true else false))) (by kernel_rfl) (bads3 neg_no) (by kernel_rfl)
  (show (ip_ n.ip && (w_ n.bits 0 32 && (bif neg_ n.bits then false else bits .and .i64 n.ip (wr (wr (1 * 2 ^ sh_ n.bits) - 1)) == 0))) = (netOK n) from congrArg (ip_ n.ip && ·) (ite3 neg_no fun _ => rfl)) ▸ (OkC.b (fn_ok0 G2_ok hmx Tryz.func197 (bd_eq (by kernel_rfl)) _ hs) hs (by kernel_rfl) (by kernel_rfl) : OkC Tryz.prog 197 [(cA0 .net).enc n] (.b (ip_ n.ip && (w_ n.bits 0 32 && (bif neg_ n.bits then false else bits .and .i64 n.ip (wr (wr (1 * 2 ^ sh_ n.bits) - 1)) == 0)))))
theorem e_NetOK : EOk Tryz.prog 197 c_NetOK := ent1_ok Tryz.call197 fun n hq => o_NetOK n
def c_sNetOK : Entry := ent1 (cA0 .net) fun n => (.yes, .b (netOK n))
theorem o_sNetOK : ∀ n, OkC Tryz.prog 188 [(cA0 .net).enc n] (.b (netOK n)) := fun n =>
  have hs : Sf (fnT Tryz.prog G2 (fun _ _ => none) Tryz.f188 (bd Tryz.f188) [(cA0 .net).enc n]) := Sf.bads (b := ip_ n.ip && (w_ n.bits 0 32 && (bif negS_ n.bits then true else false))) (by kernel_rfl) (bads3 negS_no) (by kernel_rfl)
  (show (ip_ n.ip && (w_ n.bits 0 32 && (bif negS_ n.bits then false else bits .and .i64 n.ip (wr (wr (1 * 2 ^ shS_ n.bits) - 1)) == 0))) = (netOK n) from congrArg (ip_ n.ip && ·) (ite3 negS_no fun h => (by rw [shS_sh h]))) ▸ (OkC.b (fn_ok0 G2_ok hmx Tryz.func188 (bd_eq (by kernel_rfl)) _ hs) hs (by kernel_rfl) (by kernel_rfl) : OkC Tryz.prog 188 [(cA0 .net).enc n] (.b (ip_ n.ip && (w_ n.bits 0 32 && (bif negS_ n.bits then false else bits .and .i64 n.ip (wr (wr (1 * 2 ^ shS_ n.bits) - 1)) == 0)))))
theorem e_sNetOK : EOk Tryz.prog 188 c_sNetOK := ent1_ok Tryz.call188 fun n hq => o_sNetOK n
def c_has : Entry := ent2 (cA0 .net) cI fun n ip => (.when (w_ n.bits 0 32), .b (hasM n ip))
theorem o_has : ∀ n ip, (w_ n.bits 0 32) = true → OkC Tryz.prog 198 [(cA0 .net).enc n, cI.enc ip] (.b (hasM n ip)) := fun n ip hq =>
  have hs : Sf (fnT Tryz.prog G2 (fun _ _ => none) Tryz.f198 (bd Tryz.f198) [(cA0 .net).enc n, cI.enc ip]) := Sf.bads (b := bif neg_ n.bits then true else bif neg_ n.bits then true else false) (by kernel_rfl) ((by rw [neg_no hq]; rfl)) (by kernel_rfl)
  (show (bif neg_ n.bits then false else bif neg_ n.bits then false else n.ip.fdiv (2 ^ sh_ n.bits) == ip.fdiv (2 ^ sh_ n.bits)) = (hasM n ip) from (by rw [neg_no hq]; rfl)) ▸ (OkC.b (fn_ok0 G2_ok hmx Tryz.func198 (bd_eq (by kernel_rfl)) _ hs) hs (by kernel_rfl) (by kernel_rfl) : OkC Tryz.prog 198 [(cA0 .net).enc n, cI.enc ip] (.b (bif neg_ n.bits then false else bif neg_ n.bits then false else n.ip.fdiv (2 ^ sh_ n.bits) == ip.fdiv (2 ^ sh_ n.bits))))
theorem e_has : EOk Tryz.prog 198 c_has := ent2_ok Tryz.call198 fun n ip hq => o_has n ip hq
def c_l05Has : Entry := ent2 (cA0 .net) cI fun n ip => (.when (w_ n.bits 0 32), .b (hasM n ip))
theorem o_l05Has : ∀ n ip, (w_ n.bits 0 32) = true → OkC Tryz.prog 124 [(cA0 .net).enc n, cI.enc ip] (.b (hasM n ip)) := fun n ip hq =>
  have hs : Sf (fnT Tryz.prog G2 (fun _ _ => none) Tryz.f124 (bd Tryz.f124) [(cA0 .net).enc n, cI.enc ip]) := Sf.bads (b := bif negS_ n.bits then true else bif negS_ n.bits then true else false) (by kernel_rfl) ((by rw [negS_no hq]; rfl)) (by kernel_rfl)
  (show (bif negS_ n.bits then false else bif negS_ n.bits then false else n.ip.fdiv (2 ^ shS_ n.bits) == ip.fdiv (2 ^ shS_ n.bits)) = (hasM n ip) from (by rw [negS_no hq, shS_sh hq]; rfl)) ▸ (OkC.b (fn_ok0 G2_ok hmx Tryz.func124 (bd_eq (by kernel_rfl)) _ hs) hs (by kernel_rfl) (by kernel_rfl) : OkC Tryz.prog 124 [(cA0 .net).enc n, cI.enc ip] (.b (bif negS_ n.bits then false else bif negS_ n.bits then false else n.ip.fdiv (2 ^ shS_ n.bits) == ip.fdiv (2 ^ shS_ n.bits))))
theorem e_l05Has : EOk Tryz.prog 124 c_l05Has := ent2_ok Tryz.call124 fun n ip hq => o_l05Has n ip hq
/-- A range is right. -/
def rangeM (r : XRange) : Bool := w_ r.low 0 r.high && decide (r.high ≤ 65535)
theorem rangeS (r : XRange) : (w_ r.low 0 65535 && w_ r.high r.low 65535) = rangeM r := by
  rw [Bool.eq_iff_iff]
  unfold rangeM
  simp only [Bool.and_eq_true, w_true, decide_eq_true_eq]
  omega
def c_rangeOK : Entry := ent1 (cA0 .range) fun r => (.yes, .b (rangeM r))
theorem o_rangeOK : ∀ r, OkC Tryz.prog 201 [(cA0 .range).enc r] (.b (rangeM r)) := fun r =>
  have hs : Sf (fnT Tryz.prog G2 (fun _ _ => none) Tryz.f201 (bd Tryz.f201) [(cA0 .range).enc r]) := Sf.chk (by kernel_rfl)
  OkC.b (fn_ok0 G2_ok hmx Tryz.func201 (bd_eq (by kernel_rfl)) _ hs) hs (by kernel_rfl) (by kernel_rfl)
theorem e_rangeOK : EOk Tryz.prog 201 c_rangeOK := ent1_ok Tryz.call201 fun r hq => o_rangeOK r
def c_l07Range : Entry := ent1 (cA0 .range) fun r => (.yes, .b (rangeM r))
theorem o_l07Range : ∀ r, OkC Tryz.prog 189 [(cA0 .range).enc r] (.b (rangeM r)) := fun r =>
  have hs : Sf (fnT Tryz.prog G2 (fun _ _ => none) Tryz.f189 (bd Tryz.f189) [(cA0 .range).enc r]) := Sf.chk (by kernel_rfl)
  (show (w_ r.low 0 65535 && w_ r.high r.low 65535) = (rangeM r) from rangeS r) ▸ (OkC.b (fn_ok0 G2_ok hmx Tryz.func189 (bd_eq (by kernel_rfl)) _ hs) hs (by kernel_rfl) (by kernel_rfl) : OkC Tryz.prog 189 [(cA0 .range).enc r] (.b (w_ r.low 0 65535 && w_ r.high r.low 65535)))
theorem e_l07Range : EOk Tryz.prog 189 c_l07Range := ent1_ok Tryz.call189 fun r hq => o_l07Range r
/-- Letters, digits. -/
def digM (c : Int) : Bool := decide (c ≥ 48) && decide (c ≤ 57)
def letM (c : Int) : Bool := bif decide (c ≥ 97) then (bif decide (c ≤ 122) then true else bif decide (c ≥ 65) then (bif decide (c ≤ 90) then true else c == 95) else c == 95) else bif decide (c ≥ 65) then (bif decide (c ≤ 90) then true else c == 95) else c == 95
def c_isDigit : Entry := ent1 cU8 fun c => (.yes, .b (digM c))
theorem o_isDigit : ∀ c, OkC Tryz.prog 234 [cU8.enc c] (.b (digM c)) := fun c =>
  have hs : Sf (fnT Tryz.prog G2 (fun _ _ => none) Tryz.f234 (bd Tryz.f234) [cU8.enc c]) := Sf.chk (by kernel_rfl)
  OkC.b (fn_ok0 G2_ok hmx Tryz.func234 (bd_eq (by kernel_rfl)) _ hs) hs (by kernel_rfl) (by kernel_rfl)
theorem e_isDigit : EOk Tryz.prog 234 c_isDigit := ent1_ok Tryz.call234 fun c hq => o_isDigit c
def c_l00Digit : Entry := ent1 cU8 fun c => (.yes, .b (digM c))
theorem o_l00Digit : ∀ c, OkC Tryz.prog 237 [cU8.enc c] (.b (digM c)) := fun c =>
  have hs : Sf (fnT Tryz.prog G2 (fun _ _ => none) Tryz.f237 (bd Tryz.f237) [cU8.enc c]) := Sf.chk (by kernel_rfl)
  OkC.b (fn_ok0 G2_ok hmx Tryz.func237 (bd_eq (by kernel_rfl)) _ hs) hs (by kernel_rfl) (by kernel_rfl)
theorem e_l00Digit : EOk Tryz.prog 237 c_l00Digit := ent1_ok Tryz.call237 fun c hq => o_l00Digit c
def c_isLetter : Entry := ent1 cU8 fun c => (.yes, .b (letM c))
theorem o_isLetter : ∀ c, OkC Tryz.prog 235 [cU8.enc c] (.b (letM c)) := fun c =>
  have hs : Sf (fnT Tryz.prog G2 (fun _ _ => none) Tryz.f235 (bd Tryz.f235) [cU8.enc c]) := Sf.chk (by kernel_rfl)
  OkC.b (fn_ok0 G2_ok hmx Tryz.func235 (bd_eq (by kernel_rfl)) _ hs) hs (by kernel_rfl) (by kernel_rfl)
theorem e_isLetter : EOk Tryz.prog 235 c_isLetter := ent1_ok Tryz.call235 fun c hq => o_isLetter c
def c_l00Letter : Entry := ent1 cU8 fun c => (.yes, .b (letM c))
theorem o_l00Letter : ∀ c, OkC Tryz.prog 236 [cU8.enc c] (.b (letM c)) := fun c =>
  have hs : Sf (fnT Tryz.prog G2 (fun _ _ => none) Tryz.f236 (bd Tryz.f236) [cU8.enc c]) := Sf.chk (by kernel_rfl)
  OkC.b (fn_ok0 G2_ok hmx Tryz.func236 (bd_eq (by kernel_rfl)) _ hs) hs (by kernel_rfl) (by kernel_rfl)
theorem e_l00Letter : EOk Tryz.prog 236 c_l00Letter := ent1_ok Tryz.call236 fun c hq => o_l00Letter c
def bitM (b : Bool) : Int := bif b then 1 else 0
def c_oneIf : Entry := ent1 cB fun b => (.yes, .I (bitM b))
theorem o_oneIf : ∀ b, OkC Tryz.prog 145 [cB.enc b] (.I (bitM b)) := fun b =>
  have hs : Sf (fnT Tryz.prog G2 (fun _ _ => none) Tryz.f145 (bd Tryz.f145) [cB.enc b]) := Sf.chk (by kernel_rfl)
  OkC.i (fn_ok0 G2_ok hmx Tryz.func145 (bd_eq (by kernel_rfl)) _ hs) hs (by kernel_rfl) (by kernel_rfl)
theorem e_oneIf : EOk Tryz.prog 145 c_oneIf := ent1_ok Tryz.call145 fun b hq => o_oneIf b
def c_l01Bit : Entry := ent1 cB fun b => (.yes, .I (bitM b))
theorem o_l01Bit : ∀ b, OkC Tryz.prog 223 [cB.enc b] (.I (bitM b)) := fun b =>
  have hs : Sf (fnT Tryz.prog G2 (fun _ _ => none) Tryz.f223 (bd Tryz.f223) [cB.enc b]) := Sf.chk (by kernel_rfl)
  OkC.i (fn_ok0 G2_ok hmx Tryz.func223 (bd_eq (by kernel_rfl)) _ hs) hs (by kernel_rfl) (by kernel_rfl)
theorem e_l01Bit : EOk Tryz.prog 223 c_l01Bit := ent1_ok Tryz.call223 fun b hq => o_l01Bit b
def c_behind : Entry := ent2 cI cI fun a b => (.yes, .I ((wr (wr (a - b) + 4294967296)).tmod 4294967296))
theorem o_behind : ∀ a b, OkC Tryz.prog 144 [cI.enc a, cI.enc b] (.I ((wr (wr (a - b) + 4294967296)).tmod 4294967296)) := fun a b =>
  have hs : Sf (fnT Tryz.prog G2 (fun _ _ => none) Tryz.f144 (bd Tryz.f144) [cI.enc a, cI.enc b]) := Sf.chk (by kernel_rfl)
  OkC.i (fn_ok0 G2_ok hmx Tryz.func144 (bd_eq (by kernel_rfl)) _ hs) hs (by kernel_rfl) (by kernel_rfl)
theorem e_behind : EOk Tryz.prog 144 c_behind := ent2_ok Tryz.call144 fun a b hq => o_behind a b
def c_l10Seq : Entry := ent1 cI fun n => (.yes, .I (bits .and .i64 n 4294967295))
theorem o_l10Seq : ∀ n, OkC Tryz.prog 195 [cI.enc n] (.I (bits .and .i64 n 4294967295)) := fun n =>
  have hs : Sf (fnT Tryz.prog G2 (fun _ _ => none) Tryz.f195 (bd Tryz.f195) [cI.enc n]) := Sf.chk (by kernel_rfl)
  OkC.i (fn_ok0 G2_ok hmx Tryz.func195 (bd_eq (by kernel_rfl)) _ hs) hs (by kernel_rfl) (by kernel_rfl)
theorem e_l10Seq : EOk Tryz.prog 195 c_l10Seq := ent1_ok Tryz.call195 fun n hq => o_l10Seq n
def c_l07Ask : Entry := ent2 cI cI fun a b => (.yes, .b (ip_ a && port_ b))
theorem o_l07Ask : ∀ a b, OkC Tryz.prog 194 [cI.enc a, cI.enc b] (.b (ip_ a && port_ b)) := fun a b =>
  have hs : Sf (fnT Tryz.prog G2 (fun _ _ => none) Tryz.f194 (bd Tryz.f194) [cI.enc a, cI.enc b]) := Sf.chk (by kernel_rfl)
  OkC.b (fn_ok0 G2_ok hmx Tryz.func194 (bd_eq (by kernel_rfl)) _ hs) hs (by kernel_rfl) (by kernel_rfl)
theorem e_l07Ask : EOk Tryz.prog 194 c_l07Ask := ent2_ok Tryz.call194 fun a b hq => o_l07Ask a b
end Go.Proofs.YthlebalbiokjpaaGreat
namespace Go.Proofs.YthlebalbiokjpaaGreat
open Go.RowKit
set_option linter.unusedVariables false
set_option maxRecDepth 100000

def G3 : Ctx := G2.add [(197, c_NetOK), (188, c_sNetOK), (198, c_has), (124, c_l05Has), (201, c_rangeOK), (189, c_l07Range), (234, c_isDigit), (237, c_l00Digit), (235, c_isLetter), (236, c_l00Letter), (145, c_oneIf), (223, c_l01Bit), (144, c_behind), (195, c_l10Seq), (194, c_l07Ask)]
theorem G3_ok : COk Tryz.prog G3 := G2_ok.add (CsOk.cons e_NetOK (CsOk.cons e_sNetOK (CsOk.cons e_has (CsOk.cons e_l05Has (CsOk.cons e_rangeOK (CsOk.cons e_l07Range (CsOk.cons e_isDigit (CsOk.cons e_l00Digit (CsOk.cons e_isLetter (CsOk.cons e_l00Letter (CsOk.cons e_oneIf (CsOk.cons e_l01Bit (CsOk.cons e_behind (CsOk.cons e_l10Seq (CsOk.cons e_l07Ask (CsOk.nil))))))))))))))))
def flowEnds (f : XFlow) : Bool := w_ f.proto 0 255 && (mac_ f.mac && (ip_ f.srcIp && (ip_ f.dstIp && (port_ f.srcPort && (port_ f.dstPort && w_ f.owner 0 10000)))))
def flowOK (f : XFlow) : Bool := flowEnds f && (w_ f.state 1 3 && w_ f.until_ 0 100100)
def isM (f : XFlow) (p a ap b bp : Int) : Bool := f.proto == p && (f.srcIp == a && (f.srcPort == ap && (f.dstIp == b && f.dstPort == bp)))
def c_endsOK : Entry := ent1 (cR0 .flow) fun f => (.yes, .b (flowEnds f))
theorem o_endsOK : ∀ f, OkC Tryz.prog 137 [(cR0 .flow).enc f] (.b (flowEnds f)) := fun f =>
  have hs : Sf (fnT Tryz.prog G3 (fun _ _ => none) Tryz.f137 (bd Tryz.f137) [(cR0 .flow).enc f]) := Sf.chk (by kernel_rfl)
  OkC.b (fn_ok0 G3_ok hmx Tryz.func137 (bd_eq (by kernel_rfl)) _ hs) hs (by kernel_rfl) (by kernel_rfl)
theorem e_endsOK : EOk Tryz.prog 137 c_endsOK := ent1_ok Tryz.call137 fun f hq => o_endsOK f
def c_l09Flow : Entry := ent1 (cA0 .flow) fun f => (.yes, .b (flowOK f))
theorem o_l09Flow : ∀ f, OkC Tryz.prog 125 [(cA0 .flow).enc f] (.b (flowOK f)) := fun f =>
  have hs : Sf (fnT Tryz.prog G3 (fun _ _ => none) Tryz.f125 (bd Tryz.f125) [(cA0 .flow).enc f]) := Sf.chk (by kernel_rfl)
  (show (w_ f.proto 0 255 && (mac_ f.mac && (ip_ f.srcIp && (ip_ f.dstIp && (port_ f.srcPort && (port_ f.dstPort && (w_ f.state 1 3 && (w_ f.until_ 0 100100 && w_ f.owner 0 10000)))))))) = (flowOK f) from (by unfold flowOK flowEnds; ac_rfl)) ▸ (OkC.b (fn_ok0 G3_ok hmx Tryz.func125 (bd_eq (by kernel_rfl)) _ hs) hs (by kernel_rfl) (by kernel_rfl) : OkC Tryz.prog 125 [(cA0 .flow).enc f] (.b (w_ f.proto 0 255 && (mac_ f.mac && (ip_ f.srcIp && (ip_ f.dstIp && (port_ f.srcPort && (port_ f.dstPort && (w_ f.state 1 3 && (w_ f.until_ 0 100100 && w_ f.owner 0 10000))))))))))
theorem e_l09Flow : EOk Tryz.prog 125 c_l09Flow := ent1_ok Tryz.call125 fun f hq => o_l09Flow f
def c_is : Entry := ent6 (cR0 .flow) cI cI cI cI cI fun f p a ap b bp => (.yes, .b (isM f p a ap b bp))
theorem o_is : ∀ f p a ap b bp, OkC Tryz.prog 209 [(cR0 .flow).enc f, cI.enc p, cI.enc a, cI.enc ap, cI.enc b, cI.enc bp] (.b (isM f p a ap b bp)) := fun f p a ap b bp =>
  have hs : Sf (fnT Tryz.prog G3 (fun _ _ => none) Tryz.f209 (bd Tryz.f209) [(cR0 .flow).enc f, cI.enc p, cI.enc a, cI.enc ap, cI.enc b, cI.enc bp]) := Sf.chk (by kernel_rfl)
  OkC.b (fn_ok0 G3_ok hmx Tryz.func209 (bd_eq (by kernel_rfl)) _ hs) hs (by kernel_rfl) (by kernel_rfl)
theorem e_is : EOk Tryz.prog 209 c_is := ent6_ok Tryz.call209 fun f p a ap b bp hq => o_is f p a ap b bp
def c_l09Same : Entry := ent6 (cA0 .flow) cI cI cI cI cI fun f p a ap b bp => (.yes, .b (isM f p a ap b bp))
theorem o_l09Same : ∀ f p a ap b bp, OkC Tryz.prog 126 [(cA0 .flow).enc f, cI.enc p, cI.enc a, cI.enc ap, cI.enc b, cI.enc bp] (.b (isM f p a ap b bp)) := fun f p a ap b bp =>
  have hs : Sf (fnT Tryz.prog G3 (fun _ _ => none) Tryz.f126 (bd Tryz.f126) [(cA0 .flow).enc f, cI.enc p, cI.enc a, cI.enc ap, cI.enc b, cI.enc bp]) := Sf.chk (by kernel_rfl)
  OkC.b (fn_ok0 G3_ok hmx Tryz.func126 (bd_eq (by kernel_rfl)) _ hs) hs (by kernel_rfl) (by kernel_rfl)
theorem e_l09Same : EOk Tryz.prog 126 c_l09Same := ent6_ok Tryz.call126 fun f p a ap b bp hq => o_l09Same f p a ap b bp
/-- Connections. -/
def emp_ (t : ByteArray) : Bool := t.toList == (⟨#[]⟩ : ByteArray).toList
def sentM (c : XConn) : Int := wr (wr ((c.out.size : Int) + bitM c.fin) + bitM (c.state == 1))
def bhdM (a b : Int) : Int := (wr (wr (a - b) + 4294967296)).tmod 4294967296
def connOK (c : XConn) : Bool :=
  mac_ c.mac && (ip_ c.ip && (port_ c.port && (ip_ c.dstIp && (w_ c.state 1 4 && (ip_ c.una && (ip_ c.next && (ip_ c.want && (bif decide ((c.in_.size : Int) > 300) then false else bif decide ((c.out.size : Int) > 300) then false else
    let z := bhdM c.next c.una == sentM c
    let y := bif c.state == 1 then (bif emp_ c.in_ then z else false) else z
    bif c.fin == (c.state == 3) then (bif c.fin then y else bif emp_ c.out then y else false) else false))))))))
def c_ConnOK : Entry := ent1 (cA0 .conn) fun c => (.yes, .b (connOK c))
theorem o_ConnOK : ∀ c, OkC Tryz.prog 59 [(cA0 .conn).enc c] (.b (connOK c)) := fun c =>
  have hs : Sf (fnT Tryz.prog G3 (fun _ _ => none) Tryz.f59 (bd Tryz.f59) [(cA0 .conn).enc c]) := Sf.chk (by kernel_rfl)
  OkC.b (fn_ok0 G3_ok hmx Tryz.func59 (bd_eq (by kernel_rfl)) _ hs) hs (by kernel_rfl) (by kernel_rfl)
theorem e_ConnOK : EOk Tryz.prog 59 c_ConnOK := ent1_ok Tryz.call59 fun c hq => o_ConnOK c
def c_l10Sent : Entry := ent1 (cA0 .conn) fun c => (.yes, .I (sentM c))
theorem o_l10Sent : ∀ c, OkC Tryz.prog 196 [(cA0 .conn).enc c] (.I (sentM c)) := fun c =>
  have hs : Sf (fnT Tryz.prog G3 (fun _ _ => none) Tryz.f196 (bd Tryz.f196) [(cA0 .conn).enc c]) := Sf.chk (by kernel_rfl)
  OkC.i (fn_ok0 G3_ok hmx Tryz.func196 (bd_eq (by kernel_rfl)) _ hs) hs (by kernel_rfl) (by kernel_rfl)
theorem e_l10Sent : EOk Tryz.prog 196 c_l10Sent := ent1_ok Tryz.call196 fun c hq => o_l10Sent c
def G4 : Ctx := G3.add [(137, c_endsOK), (125, c_l09Flow), (209, c_is), (126, c_l09Same), (59, c_ConnOK), (196, c_l10Sent)]
theorem G4_ok : COk Tryz.prog G4 := G3_ok.add (CsOk.cons e_endsOK (CsOk.cons e_l09Flow (CsOk.cons e_is (CsOk.cons e_l09Same (CsOk.cons e_ConnOK (CsOk.cons e_l10Sent (CsOk.nil)))))))
theorem and_maxZ (x : Int) : bits .and .i64 x 4294967295 = x % 4294967296 := by
  show IntKind.i64.wrap ((BitVec.ofInt 64 x &&& BitVec.ofInt 64 4294967295).toNat : Int) = _
  rw [BitVec.toNat_and, IntKind.wrap_i64, BitVec.toNat_ofInt, show (BitVec.ofInt 64 4294967295).toNat = 2 ^ 32 - 1 from by decide, Nat.and_two_pow_sub_one_eq_mod]
  omega
def connOKs (c : XConn) : Bool :=
  mac_ c.mac && ((ip_ c.ip && port_ c.port) && (ip_ c.dstIp && (w_ c.state 1 4 && (ip_ c.una && (ip_ c.next && (ip_ c.want && (bif decide ((c.in_.size : Int) > 300) then false else bif decide ((c.out.size : Int) > 300) then false else
    let z := bits .and .i64 (wr (c.next - c.una)) 4294967295 == sentM c
    let A := bif c.fin == (c.state == 3) then (bif c.fin then z else bif emp_ c.out then z else false) else false
    bif c.state == 1 then (bif emp_ c.in_ then A else false) else A)))))))
theorem bhd_bits {a b : Int} (ha : ip_ a = true) (hb : ip_ b = true) : bits .and .i64 (wr (a - b)) 4294967295 = bhdM a b := by
  have h1 := w_true.1 ha
  have h2 := w_true.1 hb
  unfold bhdM
  rw [wr_in (n := a - b) (by omega) (by omega), wr_in (by omega) (by omega), and_maxZ, Int.tmod_eq_emod_of_nonneg (by omega)]
  omega
theorem connOKs_eq (c : XConn) : connOKs c = connOK c := by
  unfold connOKs connOK
  cases h1 : mac_ c.mac <;> cases h2 : ip_ c.ip <;> cases h3 : port_ c.port <;> try rfl
  simp only [Bool.true_and]
  cases h5 : ip_ c.dstIp <;> cases h6 : w_ c.state 1 4 <;> try rfl
  simp only [Bool.true_and]
  cases h7 : ip_ c.una <;> cases h8 : ip_ c.next <;> try rfl
  rw [bhd_bits h8 h7]
  simp only [Bool.true_and]
  cases ip_ c.want <;> try rfl
  cases decide ((c.in_.size : Int) > 300) <;> cases decide ((c.out.size : Int) > 300) <;> try rfl
  cases c.state == 1 <;> cases c.fin == (c.state == 3) <;> cases c.fin <;> cases emp_ c.in_ <;> cases emp_ c.out <;> rfl
def c_sConnOK : Entry := ent1 (cA0 .conn) fun c => (.yes, .b (connOK c))
theorem o_sConnOK : ∀ c, OkC Tryz.prog 127 [(cA0 .conn).enc c] (.b (connOK c)) := fun c =>
  have hs : Sf (fnT Tryz.prog G4 (fun _ _ => none) Tryz.f127 (bd Tryz.f127) [(cA0 .conn).enc c]) := Sf.chk (by kernel_rfl)
  (show (connOKs c) = (connOK c) from connOKs_eq c) ▸ (OkC.b (fn_ok0 G4_ok hmx Tryz.func127 (bd_eq (by kernel_rfl)) _ hs) hs (by kernel_rfl) (by kernel_rfl) : OkC Tryz.prog 127 [(cA0 .conn).enc c] (.b (connOKs c)))
theorem e_sConnOK : EOk Tryz.prog 127 c_sConnOK := ent1_ok Tryz.call127 fun c hq => o_sConnOK c
/-- Fails, records. -/
def failOK (f : XFail) : Bool := mac_ f.mac && (w_ f.count 0 2 && w_ f.until_ 0 100010)
def c_failOK : Entry := ent1 (cA0 .fail) fun f => (.yes, .b (failOK f))
theorem o_failOK : ∀ f, OkC Tryz.prog 134 [(cA0 .fail).enc f] (.b (failOK f)) := fun f =>
  have hs : Sf (fnT Tryz.prog G3 (fun _ _ => none) Tryz.f134 (bd Tryz.f134) [(cA0 .fail).enc f]) := Sf.chk (by kernel_rfl)
  OkC.b (fn_ok0 G3_ok hmx Tryz.func134 (bd_eq (by kernel_rfl)) _ hs) hs (by kernel_rfl) (by kernel_rfl)
theorem e_failOK : EOk Tryz.prog 134 c_failOK := ent1_ok Tryz.call134 fun f hq => o_failOK f
def recordOK (g : XGuests) (r : XRecord) : Bool := w_ r.id 1 (wr (g.next - 1)) && (w_ r.at_ 0 100000 && (bif w_ r.bytes 0 1000000 then (bif r.stop then w_ r.cause 1 6 else (r.cause == 0 && r.bytes == 0)) else false))
def c_recordOK : Entry := ent2 (cR0 .guests) (cA0 .record) fun g r => (.yes, .b (recordOK g r))
theorem o_recordOK : ∀ g r, OkC Tryz.prog 136 [(cR0 .guests).enc g, (cA0 .record).enc r] (.b (recordOK g r)) := fun g r =>
  have hs : Sf (fnT Tryz.prog G3 (fun _ _ => none) Tryz.f136 (bd Tryz.f136) [(cR0 .guests).enc g, (cA0 .record).enc r]) := Sf.chk (by kernel_rfl)
  OkC.b (fn_ok0 G3_ok hmx Tryz.func136 (bd_eq (by kernel_rfl)) _ hs) hs (by kernel_rfl) (by kernel_rfl)
theorem e_recordOK : EOk Tryz.prog 136 c_recordOK := ent2_ok Tryz.call136 fun g r hq => o_recordOK g r
def sessionOK (c : XConfig) (g : XGuests) (s : XSession) : Bool :=
  w_ s.id 1 (wr (g.next - 1)) && (w_ s.user 0 (wr ((g.users.length : Int) - 1)) && (mac_ s.mac && (ip_ s.ip && (hasM ⟨c.lanIp, c.lanBits⟩ s.ip &&
    (w_ s.begun 0 100000 && (w_ s.last s.begun 100000 && (w_ s.quota 1 1000000 && (w_ s.used 0 s.quota && (w_ s.until_ s.begun 101000 && w_ s.idle 1 1000)))))))))
theorem badAnd4 {a b c d q : Bool} (h : q = true) : (a && (b && (c && (d && bif q then false else true)))) = false := by simp [h]
def c_sessionOK : Entry := ent3 (cR0 .config) (cR0 .guests) (cA0 .session) fun c g s => (.when (w_ c.lanBits 0 32), .b (sessionOK c g s))
theorem o_sessionOK : ∀ c g s, (w_ c.lanBits 0 32) = true → OkC Tryz.prog 133 [(cR0 .config).enc c, (cR0 .guests).enc g, (cA0 .session).enc s] (.b (sessionOK c g s)) := fun c g s hq =>
  have hs : Sf (fnT Tryz.prog G3 (fun _ _ => none) Tryz.f133 (bd Tryz.f133) [(cR0 .config).enc c, (cR0 .guests).enc g, (cA0 .session).enc s]) := Sf.bads (b := w_ s.id 1 (wr (g.next - 1)) && (w_ s.user 0 (wr ((g.users.length : Int) - 1)) && (mac_ s.mac && (ip_ s.ip && bif w_ c.lanBits 0 32 then false else true)))) (by kernel_rfl) (badAnd4 hq) (by kernel_rfl)
  (show (w_ s.id 1 (wr (g.next - 1)) && (w_ s.user 0 (wr ((g.users.length : Int) - 1)) && (mac_ s.mac && (ip_ s.ip && (bif w_ c.lanBits 0 32 then (hasM ⟨c.lanIp, c.lanBits⟩ s.ip && (w_ s.begun 0 100000 && (w_ s.last s.begun 100000 && (w_ s.quota 1 1000000 && (w_ s.used 0 s.quota && (w_ s.until_ s.begun 101000 && w_ s.idle 1 1000)))))) else false))))) = (sessionOK c g s) from (by rw [hq]; rfl)) ▸ (OkC.b (fn_ok0 G3_ok hmx Tryz.func133 (bd_eq (by kernel_rfl)) _ hs) hs (by kernel_rfl) (by kernel_rfl) : OkC Tryz.prog 133 [(cR0 .config).enc c, (cR0 .guests).enc g, (cA0 .session).enc s] (.b (w_ s.id 1 (wr (g.next - 1)) && (w_ s.user 0 (wr ((g.users.length : Int) - 1)) && (mac_ s.mac && (ip_ s.ip && (bif w_ c.lanBits 0 32 then (hasM ⟨c.lanIp, c.lanBits⟩ s.ip && (w_ s.begun 0 100000 && (w_ s.last s.begun 100000 && (w_ s.quota 1 1000000 && (w_ s.used 0 s.quota && (w_ s.until_ s.begun 101000 && w_ s.idle 1 1000)))))) else false)))))))
theorem e_sessionOK : EOk Tryz.prog 133 c_sessionOK := ent3_ok Tryz.call133 fun c g s hq => o_sessionOK c g s hq
end Go.Proofs.YthlebalbiokjpaaGreat
