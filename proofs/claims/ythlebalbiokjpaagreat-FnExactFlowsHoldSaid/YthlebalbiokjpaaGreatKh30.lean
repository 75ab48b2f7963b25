/- The law's copies of elements, of slices of them. | The law's sizes and comparisons of a gateway, whole; what they say. -/
import Derived.Test.YthlebalbiokjpaaGreatKhGv
import Derived.Test.YthlebalbiokjpaaGreatKhGn
namespace Go.Proofs.YthlebalbiokjpaaGreat
open Go.RowKit
set_option linter.unusedVariables false
set_option maxRecDepth 100000

def c_toUser : Entry := ent1 (cA0 .user) fun x => (.yes, .agg (row .user x))
theorem o_toUser : ∀ (x : Cd.ty ((cA0 .user))), OkC Tryz.prog 157 [(cA0 .user).enc x] (.agg (row .user x)) := fun x =>
  have hs : Sf (fnT Tryz.prog G44 (fun _ _ => none) Tryz.f157 (bd Tryz.f157) [(cA0 .user).enc x]) := Sf.chk (by kernel_rfl)
  OkC.d (fn_ok0 G44_ok hmx Tryz.func157 (bd_eq (by kernel_rfl)) _ hs) hs (by kernel_rfl)
theorem e_toUser : EOk Tryz.prog 157 c_toUser := ent1_ok Tryz.call157 fun x hq => o_toUser x
def c_toSession : Entry := ent1 (cA0 .session) fun x => (.yes, .agg (row .session x))
theorem o_toSession : ∀ (x : Cd.ty ((cA0 .session))), OkC Tryz.prog 158 [(cA0 .session).enc x] (.agg (row .session x)) := fun x =>
  have hs : Sf (fnT Tryz.prog G44 (fun _ _ => none) Tryz.f158 (bd Tryz.f158) [(cA0 .session).enc x]) := Sf.chk (by kernel_rfl)
  OkC.d (fn_ok0 G44_ok hmx Tryz.func158 (bd_eq (by kernel_rfl)) _ hs) hs (by kernel_rfl)
theorem e_toSession : EOk Tryz.prog 158 c_toSession := ent1_ok Tryz.call158 fun x hq => o_toSession x
def c_toFail : Entry := ent1 (cA0 .fail) fun x => (.yes, .agg (row .fail x))
theorem o_toFail : ∀ (x : Cd.ty ((cA0 .fail))), OkC Tryz.prog 159 [(cA0 .fail).enc x] (.agg (row .fail x)) := fun x =>
  have hs : Sf (fnT Tryz.prog G44 (fun _ _ => none) Tryz.f159 (bd Tryz.f159) [(cA0 .fail).enc x]) := Sf.chk (by kernel_rfl)
  OkC.d (fn_ok0 G44_ok hmx Tryz.func159 (bd_eq (by kernel_rfl)) _ hs) hs (by kernel_rfl)
theorem e_toFail : EOk Tryz.prog 159 c_toFail := ent1_ok Tryz.call159 fun x hq => o_toFail x
def c_toRecord : Entry := ent1 (cA0 .record) fun x => (.yes, .agg (row .record x))
theorem o_toRecord : ∀ (x : Cd.ty ((cA0 .record))), OkC Tryz.prog 160 [(cA0 .record).enc x] (.agg (row .record x)) := fun x =>
  have hs : Sf (fnT Tryz.prog G44 (fun _ _ => none) Tryz.f160 (bd Tryz.f160) [(cA0 .record).enc x]) := Sf.chk (by kernel_rfl)
  OkC.d (fn_ok0 G44_ok hmx Tryz.func160 (bd_eq (by kernel_rfl)) _ hs) hs (by kernel_rfl)
theorem e_toRecord : EOk Tryz.prog 160 c_toRecord := ent1_ok Tryz.call160 fun x hq => o_toRecord x
def c_toFlow : Entry := ent1 (cA0 .flow) fun x => (.yes, .agg (row .flow x))
theorem o_toFlow : ∀ (x : Cd.ty ((cA0 .flow))), OkC Tryz.prog 128 [(cA0 .flow).enc x] (.agg (row .flow x)) := fun x =>
  have hs : Sf (fnT Tryz.prog G44 (fun _ _ => none) Tryz.f128 (bd Tryz.f128) [(cA0 .flow).enc x]) := Sf.chk (by kernel_rfl)
  OkC.d (fn_ok0 G44_ok hmx Tryz.func128 (bd_eq (by kernel_rfl)) _ hs) hs (by kernel_rfl)
theorem e_toFlow : EOk Tryz.prog 128 c_toFlow := ent1_ok Tryz.call128 fun x hq => o_toFlow x
def c_toConn : Entry := ent1 (cA0 .conn) fun x => (.yes, .agg (row .conn x))
theorem o_toConn : ∀ (x : Cd.ty ((cA0 .conn))), OkC Tryz.prog 129 [(cA0 .conn).enc x] (.agg (row .conn x)) := fun x =>
  have hs : Sf (fnT Tryz.prog G44 (fun _ _ => none) Tryz.f129 (bd Tryz.f129) [(cA0 .conn).enc x]) := Sf.chk (by kernel_rfl)
  OkC.d (fn_ok0 G44_ok hmx Tryz.func129 (bd_eq (by kernel_rfl)) _ hs) hs (by kernel_rfl)
theorem e_toConn : EOk Tryz.prog 129 c_toConn := ent1_ok Tryz.call129 fun x hq => o_toConn x
def c_toNet : Entry := ent1 (cA0 .net) fun x => (.yes, .agg (row .net x))
theorem o_toNet : ∀ (x : Cd.ty ((cA0 .net))), OkC Tryz.prog 72 [(cA0 .net).enc x] (.agg (row .net x)) := fun x =>
  have hs : Sf (fnT Tryz.prog G44 (fun _ _ => none) Tryz.f72 (bd Tryz.f72) [(cA0 .net).enc x]) := Sf.chk (by kernel_rfl)
  OkC.d (fn_ok0 G44_ok hmx Tryz.func72 (bd_eq (by kernel_rfl)) _ hs) hs (by kernel_rfl)
theorem e_toNet : EOk Tryz.prog 72 c_toNet := ent1_ok Tryz.call72 fun x hq => o_toNet x
def c_toRange : Entry := ent1 (cA0 .range) fun x => (.yes, .agg (row .range x))
theorem o_toRange : ∀ (x : Cd.ty ((cA0 .range))), OkC Tryz.prog 212 [(cA0 .range).enc x] (.agg (row .range x)) := fun x =>
  have hs : Sf (fnT Tryz.prog G44 (fun _ _ => none) Tryz.f212 (bd Tryz.f212) [(cA0 .range).enc x]) := Sf.chk (by kernel_rfl)
  OkC.d (fn_ok0 G44_ok hmx Tryz.func212 (bd_eq (by kernel_rfl)) _ hs) hs (by kernel_rfl)
theorem e_toRange : EOk Tryz.prog 212 c_toRange := ent1_ok Tryz.call212 fun x hq => o_toRange x
def G45 : Ctx := G44.add [(157, c_toUser), (158, c_toSession), (159, c_toFail), (160, c_toRecord), (128, c_toFlow), (129, c_toConn), (72, c_toNet), (212, c_toRange)]
theorem G45_ok : COk Tryz.prog G45 := G44_ok.add (CsOk.cons e_toUser (CsOk.cons e_toSession (CsOk.cons e_toFail (CsOk.cons e_toRecord (CsOk.cons e_toFlow (CsOk.cons e_toConn (CsOk.cons e_toNet (CsOk.cons e_toRange (CsOk.nil)))))))))
def c_toPlace : Entry := ent1 (cA0 .place) fun x => (.yes, .agg (row .place x))
theorem o_toPlace : ∀ (x : Cd.ty ((cA0 .place))), OkC Tryz.prog 155 [(cA0 .place).enc x] (.agg (row .place x)) := fun x =>
  have hs : Sf (fnT Tryz.prog G45 (fun _ _ => none) Tryz.f155 (bd Tryz.f155) [(cA0 .place).enc x]) := Sf.chk (by kernel_rfl)
  OkC.d (fn_ok0 G45_ok hmx Tryz.func155 (bd_eq (by kernel_rfl)) _ hs) hs (by kernel_rfl)
theorem e_toPlace : EOk Tryz.prog 155 c_toPlace := ent1_ok Tryz.call155 fun x hq => o_toPlace x
def c_toRule : Entry := ent1 (cA0 .rule) fun x => (.yes, .agg (row .rule x))
theorem o_toRule : ∀ (x : Cd.ty ((cA0 .rule))), OkC Tryz.prog 229 [(cA0 .rule).enc x] (.agg (row .rule x)) := fun x =>
  have hs : Sf (fnT Tryz.prog G45 (fun _ _ => none) Tryz.f229 (bd Tryz.f229) [(cA0 .rule).enc x]) := Sf.chk (by kernel_rfl)
  OkC.d (fn_ok0 G45_ok hmx Tryz.func229 (bd_eq (by kernel_rfl)) _ hs) hs (by kernel_rfl)
theorem e_toRule : EOk Tryz.prog 229 c_toRule := ent1_ok Tryz.call229 fun x hq => o_toRule x
def G46 : Ctx := G45.add [(155, c_toPlace), (229, c_toRule)]
theorem G46_ok : COk Tryz.prog G46 := G45_ok.add (CsOk.cons e_toPlace (CsOk.cons e_toRule (CsOk.nil)))
def I_toUserS (l : List (El .user)) (z : Int) : St := ⟨fr 23 [(0, .lst .user l), (3, .sl .user 0 0 l.length), (4, .I z)], [⟨134, .list .user (tosM l z.toNat), false, false⟩]⟩
theorem r_toUserS (l : List (El .user)) (hn : l.length ≤ 1073741824) : Sat Tryz.prog 0 (.loop (lpb Tryz.f75 0)) (I_toUserS l (0 : Nat)) (.exit 0 ⟨fr 23 [(3, .sl .user 0 0 l.length)], [⟨134, .list .user (tosM l l.length), false, false⟩]⟩) := by
  have h := sat_all (P := Tryz.prog) (n0 := 0) (c := lpb Tryz.f75 0) l.length 0 (Nat.zero_le _) (I_toUserS l) (fun _ => true) 0 ⟨fr 23 [(3, .sl .user 0 0 l.length)], [⟨134, .list .user (tosM l l.length), false, false⟩]⟩ default fun k h0 hk =>
    rnd_sat (v := ⟨[0, 3, 4], ids 1, [3], ids 1, [], []⟩) G46_ok hmx (noLoops (n := 1) (by kernel_rfl)) (n := 1) (L := fun _ _ => none) (SfO.bads (b := bif decide ((k : Int) < l.length) then (bif decide ((k : Int) < l.length) then (bif decide ((k : Int) < l.length) then false else true) else true) else false) (by kernel_rfl) (by cases decide ((k : Int) < l.length) <;> rfl) (by kernel_rfl))
      ((by kernel_rfl : _ = (bif decide ((k : Int) < l.length) then (bif decide ((k : Int) < l.length) then (bif decide ((k : Int) < l.length) then .nrm ⟨fr 23 [(0, .lst .user l), (3, .sl .user 0 0 l.length), (4, .I (wr (k + 1)))], [⟨134, .list .user ((tosM l k).set (0 + k) (l.getD k (elDef .user))), false, false⟩]⟩ else default) else default) else (.exit 0 ⟨fr 23 [(3, .sl .user 0 0 l.length)], [⟨134, .list .user (tosM l k), false, false⟩]⟩))).trans (by
        by_cases h : k < l.length
        · have hb : decide ((k : Int) < (l.length : Nat)) = true := by simpa using h
          rw [hb, show decide (k < l.length) = true from by simpa using h]
          show Out.nrm ⟨_, _⟩ = Out.nrm (I_toUserS l ((k + 1 : Nat) : Int))
          rw [show wr ((k : Int) + 1) = ((k + 1 : Nat) : Int) from wr_succ h (by omega)]
          rfl
        · have e : k = l.length := Nat.le_antisymm hk (Nat.not_lt.1 h)
          rw [e, show decide (((l.length : Nat) : Int) < l.length) = false from by simp, show decide (l.length < l.length) = false from by simp]; rfl))
  rw [allF_true] at h
  exact h
def S_toUserS (l : List (El .user)) : LoopSpec := ⟨[0, 3, 4], ids 1, I_toUserS l (0 : Nat), (.node (sm30 l) (.leaf (.exit 0 ⟨fr 23 [(3, .sl .user 0 0 l.length)], [⟨134, .list .user (tosM l l.length), false, false⟩]⟩)) .bad), []⟩
theorem z_toUserS (l : List (El .user)) : SpecOk Tryz.prog Tryz.f75 0 (S_toUserS l) := .mk1 fun hq => r_toUserS l (of_decide_eq_true hq)
def c_toUserS : Entry := ent1 (cL .user) fun l => (.when (sm30 l), .lst .user l)
theorem o_toUserS : ∀ (l : Cd.ty ((cL .user))), (sm30 l) = true → OkC Tryz.prog 75 [(cL .user).enc l] (.lst .user l) := fun l hq =>
  have hs : Sf (fnT Tryz.prog G46 (Ls [S_toUserS l]) Tryz.f75 (bd Tryz.f75) [(cL .user).enc l]) := Sf.obls (b := bif decide ((l.length : Int) ≤ l.length) then (bif decide ((l.length : Int) ≤ 1073741824) then (bif (sm30 l) then false else true) else true) else true) (by kernel_rfl) ((by rw [hq, tos_le l, tos_sm l hq]; rfl)) (l := [I_toUserS l (0 : Nat) = I_toUserS l (0 : Nat)]) (by kernel_rfl) (by simp)
  (show ((bif decide ((l.length : Int) ≤ l.length) then (bif decide ((l.length : Int) ≤ 1073741824) then (bif (sm30 l) then .lst .user (((tosM l l.length).drop 0).take l.length) else .any) else .any) else .any) : Da) = (.lst .user l) from (by rw [hq, tos_le l, tos_sm l hq]; exact congrArg (Da.lst .user) (tosM_all l))) ▸ (OkC.d (fn_okL G46_ok hmx Tryz.func75 (bd_eq (by kernel_rfl)) _ _ (.cons (z_toUserS l) (.nil _)) hs) hs (by kernel_rfl) : OkC Tryz.prog 75 [(cL .user).enc l] (bif decide ((l.length : Int) ≤ l.length) then (bif decide ((l.length : Int) ≤ 1073741824) then (bif (sm30 l) then .lst .user (((tosM l l.length).drop 0).take l.length) else .any) else .any) else .any))
theorem e_toUserS : EOk Tryz.prog 75 c_toUserS := ent1_ok Tryz.call75 fun l hq => o_toUserS l hq
def I_toSessionS (l : List (El .session)) (z : Int) : St := ⟨fr 23 [(0, .lst .session l), (3, .sl .session 0 0 l.length), (4, .I z)], [⟨131, .list .session (tosM l z.toNat), false, false⟩]⟩
theorem r_toSessionS (l : List (El .session)) (hn : l.length ≤ 1073741824) : Sat Tryz.prog 0 (.loop (lpb Tryz.f76 0)) (I_toSessionS l (0 : Nat)) (.exit 0 ⟨fr 23 [(3, .sl .session 0 0 l.length)], [⟨131, .list .session (tosM l l.length), false, false⟩]⟩) := by
  have h := sat_all (P := Tryz.prog) (n0 := 0) (c := lpb Tryz.f76 0) l.length 0 (Nat.zero_le _) (I_toSessionS l) (fun _ => true) 0 ⟨fr 23 [(3, .sl .session 0 0 l.length)], [⟨131, .list .session (tosM l l.length), false, false⟩]⟩ default fun k h0 hk =>
    rnd_sat (v := ⟨[0, 3, 4], ids 1, [3], ids 1, [], []⟩) G46_ok hmx (noLoops (n := 1) (by kernel_rfl)) (n := 1) (L := fun _ _ => none) (SfO.bads (b := bif decide ((k : Int) < l.length) then (bif decide ((k : Int) < l.length) then (bif decide ((k : Int) < l.length) then false else true) else true) else false) (by kernel_rfl) (by cases decide ((k : Int) < l.length) <;> rfl) (by kernel_rfl))
      ((by kernel_rfl : _ = (bif decide ((k : Int) < l.length) then (bif decide ((k : Int) < l.length) then (bif decide ((k : Int) < l.length) then .nrm ⟨fr 23 [(0, .lst .session l), (3, .sl .session 0 0 l.length), (4, .I (wr (k + 1)))], [⟨131, .list .session ((tosM l k).set (0 + k) (l.getD k (elDef .session))), false, false⟩]⟩ else default) else default) else (.exit 0 ⟨fr 23 [(3, .sl .session 0 0 l.length)], [⟨131, .list .session (tosM l k), false, false⟩]⟩))).trans (by
        by_cases h : k < l.length
        · have hb : decide ((k : Int) < (l.length : Nat)) = true := by simpa using h
          rw [hb, show decide (k < l.length) = true from by simpa using h]
          show Out.nrm ⟨_, _⟩ = Out.nrm (I_toSessionS l ((k + 1 : Nat) : Int))
          rw [show wr ((k : Int) + 1) = ((k + 1 : Nat) : Int) from wr_succ h (by omega)]
          rfl
        · have e : k = l.length := Nat.le_antisymm hk (Nat.not_lt.1 h)
          rw [e, show decide (((l.length : Nat) : Int) < l.length) = false from by simp, show decide (l.length < l.length) = false from by simp]; rfl))
  rw [allF_true] at h
  exact h
def S_toSessionS (l : List (El .session)) : LoopSpec := ⟨[0, 3, 4], ids 1, I_toSessionS l (0 : Nat), (.node (sm30 l) (.leaf (.exit 0 ⟨fr 23 [(3, .sl .session 0 0 l.length)], [⟨131, .list .session (tosM l l.length), false, false⟩]⟩)) .bad), []⟩
theorem z_toSessionS (l : List (El .session)) : SpecOk Tryz.prog Tryz.f76 0 (S_toSessionS l) := .mk1 fun hq => r_toSessionS l (of_decide_eq_true hq)
def c_toSessionS : Entry := ent1 (cL .session) fun l => (.when (sm30 l), .lst .session l)
theorem o_toSessionS : ∀ (l : Cd.ty ((cL .session))), (sm30 l) = true → OkC Tryz.prog 76 [(cL .session).enc l] (.lst .session l) := fun l hq =>
  have hs : Sf (fnT Tryz.prog G46 (Ls [S_toSessionS l]) Tryz.f76 (bd Tryz.f76) [(cL .session).enc l]) := Sf.obls (b := bif decide ((l.length : Int) ≤ l.length) then (bif decide ((l.length : Int) ≤ 1073741824) then (bif (sm30 l) then false else true) else true) else true) (by kernel_rfl) ((by rw [hq, tos_le l, tos_sm l hq]; rfl)) (l := [I_toSessionS l (0 : Nat) = I_toSessionS l (0 : Nat)]) (by kernel_rfl) (by simp)
  (show ((bif decide ((l.length : Int) ≤ l.length) then (bif decide ((l.length : Int) ≤ 1073741824) then (bif (sm30 l) then .lst .session (((tosM l l.length).drop 0).take l.length) else .any) else .any) else .any) : Da) = (.lst .session l) from (by rw [hq, tos_le l, tos_sm l hq]; exact congrArg (Da.lst .session) (tosM_all l))) ▸ (OkC.d (fn_okL G46_ok hmx Tryz.func76 (bd_eq (by kernel_rfl)) _ _ (.cons (z_toSessionS l) (.nil _)) hs) hs (by kernel_rfl) : OkC Tryz.prog 76 [(cL .session).enc l] (bif decide ((l.length : Int) ≤ l.length) then (bif decide ((l.length : Int) ≤ 1073741824) then (bif (sm30 l) then .lst .session (((tosM l l.length).drop 0).take l.length) else .any) else .any) else .any))
theorem e_toSessionS : EOk Tryz.prog 76 c_toSessionS := ent1_ok Tryz.call76 fun l hq => o_toSessionS l hq
def I_toFailS (l : List (El .fail)) (z : Int) : St := ⟨fr 23 [(0, .lst .fail l), (3, .sl .fail 0 0 l.length), (4, .I z)], [⟨157, .list .fail (tosM l z.toNat), false, false⟩]⟩
theorem r_toFailS (l : List (El .fail)) (hn : l.length ≤ 1073741824) : Sat Tryz.prog 0 (.loop (lpb Tryz.f77 0)) (I_toFailS l (0 : Nat)) (.exit 0 ⟨fr 23 [(3, .sl .fail 0 0 l.length)], [⟨157, .list .fail (tosM l l.length), false, false⟩]⟩) := by
  have h := sat_all (P := Tryz.prog) (n0 := 0) (c := lpb Tryz.f77 0) l.length 0 (Nat.zero_le _) (I_toFailS l) (fun _ => true) 0 ⟨fr 23 [(3, .sl .fail 0 0 l.length)], [⟨157, .list .fail (tosM l l.length), false, false⟩]⟩ default fun k h0 hk =>
    rnd_sat (v := ⟨[0, 3, 4], ids 1, [3], ids 1, [], []⟩) G46_ok hmx (noLoops (n := 1) (by kernel_rfl)) (n := 1) (L := fun _ _ => none) (SfO.bads (b := bif decide ((k : Int) < l.length) then (bif decide ((k : Int) < l.length) then (bif decide ((k : Int) < l.length) then false else true) else true) else false) (by kernel_rfl) (by cases decide ((k : Int) < l.length) <;> rfl) (by kernel_rfl))
      ((by kernel_rfl : _ = (bif decide ((k : Int) < l.length) then (bif decide ((k : Int) < l.length) then (bif decide ((k : Int) < l.length) then .nrm ⟨fr 23 [(0, .lst .fail l), (3, .sl .fail 0 0 l.length), (4, .I (wr (k + 1)))], [⟨157, .list .fail ((tosM l k).set (0 + k) (l.getD k (elDef .fail))), false, false⟩]⟩ else default) else default) else (.exit 0 ⟨fr 23 [(3, .sl .fail 0 0 l.length)], [⟨157, .list .fail (tosM l k), false, false⟩]⟩))).trans (by
        by_cases h : k < l.length
        · have hb : decide ((k : Int) < (l.length : Nat)) = true := by simpa using h
          rw [hb, show decide (k < l.length) = true from by simpa using h]
          show Out.nrm ⟨_, _⟩ = Out.nrm (I_toFailS l ((k + 1 : Nat) : Int))
          rw [show wr ((k : Int) + 1) = ((k + 1 : Nat) : Int) from wr_succ h (by omega)]
          rfl
        · have e : k = l.length := Nat.le_antisymm hk (Nat.not_lt.1 h)
          rw [e, show decide (((l.length : Nat) : Int) < l.length) = false from by simp, show decide (l.length < l.length) = false from by simp]; rfl))
  rw [allF_true] at h
  exact h
def S_toFailS (l : List (El .fail)) : LoopSpec := ⟨[0, 3, 4], ids 1, I_toFailS l (0 : Nat), (.node (sm30 l) (.leaf (.exit 0 ⟨fr 23 [(3, .sl .fail 0 0 l.length)], [⟨157, .list .fail (tosM l l.length), false, false⟩]⟩)) .bad), []⟩
theorem z_toFailS (l : List (El .fail)) : SpecOk Tryz.prog Tryz.f77 0 (S_toFailS l) := .mk1 fun hq => r_toFailS l (of_decide_eq_true hq)
def c_toFailS : Entry := ent1 (cL .fail) fun l => (.when (sm30 l), .lst .fail l)
theorem o_toFailS : ∀ (l : Cd.ty ((cL .fail))), (sm30 l) = true → OkC Tryz.prog 77 [(cL .fail).enc l] (.lst .fail l) := fun l hq =>
  have hs : Sf (fnT Tryz.prog G46 (Ls [S_toFailS l]) Tryz.f77 (bd Tryz.f77) [(cL .fail).enc l]) := Sf.obls (b := bif decide ((l.length : Int) ≤ l.length) then (bif decide ((l.length : Int) ≤ 1073741824) then (bif (sm30 l) then false else true) else true) else true) (by kernel_rfl) ((by rw [hq, tos_le l, tos_sm l hq]; rfl)) (l := [I_toFailS l (0 : Nat) = I_toFailS l (0 : Nat)]) (by kernel_rfl) (by simp)
  (show ((bif decide ((l.length : Int) ≤ l.length) then (bif decide ((l.length : Int) ≤ 1073741824) then (bif (sm30 l) then .lst .fail (((tosM l l.length).drop 0).take l.length) else .any) else .any) else .any) : Da) = (.lst .fail l) from (by rw [hq, tos_le l, tos_sm l hq]; exact congrArg (Da.lst .fail) (tosM_all l))) ▸ (OkC.d (fn_okL G46_ok hmx Tryz.func77 (bd_eq (by kernel_rfl)) _ _ (.cons (z_toFailS l) (.nil _)) hs) hs (by kernel_rfl) : OkC Tryz.prog 77 [(cL .fail).enc l] (bif decide ((l.length : Int) ≤ l.length) then (bif decide ((l.length : Int) ≤ 1073741824) then (bif (sm30 l) then .lst .fail (((tosM l l.length).drop 0).take l.length) else .any) else .any) else .any))
theorem e_toFailS : EOk Tryz.prog 77 c_toFailS := ent1_ok Tryz.call77 fun l hq => o_toFailS l hq
def I_toRecordS (l : List (El .record)) (z : Int) : St := ⟨fr 23 [(0, .lst .record l), (3, .sl .record 0 0 l.length), (4, .I z)], [⟨138, .list .record (tosM l z.toNat), false, false⟩]⟩
theorem r_toRecordS (l : List (El .record)) (hn : l.length ≤ 1073741824) : Sat Tryz.prog 0 (.loop (lpb Tryz.f78 0)) (I_toRecordS l (0 : Nat)) (.exit 0 ⟨fr 23 [(3, .sl .record 0 0 l.length)], [⟨138, .list .record (tosM l l.length), false, false⟩]⟩) := by
  have h := sat_all (P := Tryz.prog) (n0 := 0) (c := lpb Tryz.f78 0) l.length 0 (Nat.zero_le _) (I_toRecordS l) (fun _ => true) 0 ⟨fr 23 [(3, .sl .record 0 0 l.length)], [⟨138, .list .record (tosM l l.length), false, false⟩]⟩ default fun k h0 hk =>
    rnd_sat (v := ⟨[0, 3, 4], ids 1, [3], ids 1, [], []⟩) G46_ok hmx (noLoops (n := 1) (by kernel_rfl)) (n := 1) (L := fun _ _ => none) (SfO.bads (b := bif decide ((k : Int) < l.length) then (bif decide ((k : Int) < l.length) then (bif decide ((k : Int) < l.length) then false else true) else true) else false) (by kernel_rfl) (by cases decide ((k : Int) < l.length) <;> rfl) (by kernel_rfl))
      ((by kernel_rfl : _ = (bif decide ((k : Int) < l.length) then (bif decide ((k : Int) < l.length) then (bif decide ((k : Int) < l.length) then .nrm ⟨fr 23 [(0, .lst .record l), (3, .sl .record 0 0 l.length), (4, .I (wr (k + 1)))], [⟨138, .list .record ((tosM l k).set (0 + k) (l.getD k (elDef .record))), false, false⟩]⟩ else default) else default) else (.exit 0 ⟨fr 23 [(3, .sl .record 0 0 l.length)], [⟨138, .list .record (tosM l k), false, false⟩]⟩))).trans (by
        by_cases h : k < l.length
        · have hb : decide ((k : Int) < (l.length : Nat)) = true := by simpa using h
          rw [hb, show decide (k < l.length) = true from by simpa using h]
          show Out.nrm ⟨_, _⟩ = Out.nrm (I_toRecordS l ((k + 1 : Nat) : Int))
          rw [show wr ((k : Int) + 1) = ((k + 1 : Nat) : Int) from wr_succ h (by omega)]
          rfl
        · have e : k = l.length := Nat.le_antisymm hk (Nat.not_lt.1 h)
          rw [e, show decide (((l.length : Nat) : Int) < l.length) = false from by simp, show decide (l.length < l.length) = false from by simp]; rfl))
  rw [allF_true] at h
  exact h
def S_toRecordS (l : List (El .record)) : LoopSpec := ⟨[0, 3, 4], ids 1, I_toRecordS l (0 : Nat), (.node (sm30 l) (.leaf (.exit 0 ⟨fr 23 [(3, .sl .record 0 0 l.length)], [⟨138, .list .record (tosM l l.length), false, false⟩]⟩)) .bad), []⟩
theorem z_toRecordS (l : List (El .record)) : SpecOk Tryz.prog Tryz.f78 0 (S_toRecordS l) := .mk1 fun hq => r_toRecordS l (of_decide_eq_true hq)
def c_toRecordS : Entry := ent1 (cL .record) fun l => (.when (sm30 l), .lst .record l)
theorem o_toRecordS : ∀ (l : Cd.ty ((cL .record))), (sm30 l) = true → OkC Tryz.prog 78 [(cL .record).enc l] (.lst .record l) := fun l hq =>
  have hs : Sf (fnT Tryz.prog G46 (Ls [S_toRecordS l]) Tryz.f78 (bd Tryz.f78) [(cL .record).enc l]) := Sf.obls (b := bif decide ((l.length : Int) ≤ l.length) then (bif decide ((l.length : Int) ≤ 1073741824) then (bif (sm30 l) then false else true) else true) else true) (by kernel_rfl) ((by rw [hq, tos_le l, tos_sm l hq]; rfl)) (l := [I_toRecordS l (0 : Nat) = I_toRecordS l (0 : Nat)]) (by kernel_rfl) (by simp)
  (show ((bif decide ((l.length : Int) ≤ l.length) then (bif decide ((l.length : Int) ≤ 1073741824) then (bif (sm30 l) then .lst .record (((tosM l l.length).drop 0).take l.length) else .any) else .any) else .any) : Da) = (.lst .record l) from (by rw [hq, tos_le l, tos_sm l hq]; exact congrArg (Da.lst .record) (tosM_all l))) ▸ (OkC.d (fn_okL G46_ok hmx Tryz.func78 (bd_eq (by kernel_rfl)) _ _ (.cons (z_toRecordS l) (.nil _)) hs) hs (by kernel_rfl) : OkC Tryz.prog 78 [(cL .record).enc l] (bif decide ((l.length : Int) ≤ l.length) then (bif decide ((l.length : Int) ≤ 1073741824) then (bif (sm30 l) then .lst .record (((tosM l l.length).drop 0).take l.length) else .any) else .any) else .any))
theorem e_toRecordS : EOk Tryz.prog 78 c_toRecordS := ent1_ok Tryz.call78 fun l hq => o_toRecordS l hq
def I_toFlowS (l : List (El .flow)) (z : Int) : St := ⟨fr 23 [(0, .lst .flow l), (3, .sl .flow 0 0 l.length), (4, .I z)], [⟨88, .list .flow (tosM l z.toNat), false, false⟩]⟩
theorem r_toFlowS (l : List (El .flow)) (hn : l.length ≤ 1073741824) : Sat Tryz.prog 0 (.loop (lpb Tryz.f49 0)) (I_toFlowS l (0 : Nat)) (.exit 0 ⟨fr 23 [(3, .sl .flow 0 0 l.length)], [⟨88, .list .flow (tosM l l.length), false, false⟩]⟩) := by
  have h := sat_all (P := Tryz.prog) (n0 := 0) (c := lpb Tryz.f49 0) l.length 0 (Nat.zero_le _) (I_toFlowS l) (fun _ => true) 0 ⟨fr 23 [(3, .sl .flow 0 0 l.length)], [⟨88, .list .flow (tosM l l.length), false, false⟩]⟩ default fun k h0 hk =>
    rnd_sat (v := ⟨[0, 3, 4], ids 1, [3], ids 1, [], []⟩) G46_ok hmx (noLoops (n := 1) (by kernel_rfl)) (n := 1) (L := fun _ _ => none) (SfO.bads (b := bif decide ((k : Int) < l.length) then (bif decide ((k : Int) < l.length) then (bif decide ((k : Int) < l.length) then false else true) else true) else false) (by kernel_rfl) (by cases decide ((k : Int) < l.length) <;> rfl) (by kernel_rfl))
      ((by kernel_rfl : _ = (bif decide ((k : Int) < l.length) then (bif decide ((k : Int) < l.length) then (bif decide ((k : Int) < l.length) then .nrm ⟨fr 23 [(0, .lst .flow l), (3, .sl .flow 0 0 l.length), (4, .I (wr (k + 1)))], [⟨88, .list .flow ((tosM l k).set (0 + k) (l.getD k (elDef .flow))), false, false⟩]⟩ else default) else default) else (.exit 0 ⟨fr 23 [(3, .sl .flow 0 0 l.length)], [⟨88, .list .flow (tosM l k), false, false⟩]⟩))).trans (by
        by_cases h : k < l.length
        · have hb : decide ((k : Int) < (l.length : Nat)) = true := by simpa using h
          rw [hb, show decide (k < l.length) = true from by simpa using h]
          show Out.nrm ⟨_, _⟩ = Out.nrm (I_toFlowS l ((k + 1 : Nat) : Int))
          rw [show wr ((k : Int) + 1) = ((k + 1 : Nat) : Int) from wr_succ h (by omega)]
          rfl
        · have e : k = l.length := Nat.le_antisymm hk (Nat.not_lt.1 h)
          rw [e, show decide (((l.length : Nat) : Int) < l.length) = false from by simp, show decide (l.length < l.length) = false from by simp]; rfl))
  rw [allF_true] at h
  exact h
def S_toFlowS (l : List (El .flow)) : LoopSpec := ⟨[0, 3, 4], ids 1, I_toFlowS l (0 : Nat), (.node (sm30 l) (.leaf (.exit 0 ⟨fr 23 [(3, .sl .flow 0 0 l.length)], [⟨88, .list .flow (tosM l l.length), false, false⟩]⟩)) .bad), []⟩
theorem z_toFlowS (l : List (El .flow)) : SpecOk Tryz.prog Tryz.f49 0 (S_toFlowS l) := .mk1 fun hq => r_toFlowS l (of_decide_eq_true hq)
def c_toFlowS : Entry := ent1 (cL .flow) fun l => (.when (sm30 l), .lst .flow l)
theorem o_toFlowS : ∀ (l : Cd.ty ((cL .flow))), (sm30 l) = true → OkC Tryz.prog 49 [(cL .flow).enc l] (.lst .flow l) := fun l hq =>
  have hs : Sf (fnT Tryz.prog G46 (Ls [S_toFlowS l]) Tryz.f49 (bd Tryz.f49) [(cL .flow).enc l]) := Sf.obls (b := bif decide ((l.length : Int) ≤ l.length) then (bif decide ((l.length : Int) ≤ 1073741824) then (bif (sm30 l) then false else true) else true) else true) (by kernel_rfl) ((by rw [hq, tos_le l, tos_sm l hq]; rfl)) (l := [I_toFlowS l (0 : Nat) = I_toFlowS l (0 : Nat)]) (by kernel_rfl) (by simp)
  (show ((bif decide ((l.length : Int) ≤ l.length) then (bif decide ((l.length : Int) ≤ 1073741824) then (bif (sm30 l) then .lst .flow (((tosM l l.length).drop 0).take l.length) else .any) else .any) else .any) : Da) = (.lst .flow l) from (by rw [hq, tos_le l, tos_sm l hq]; exact congrArg (Da.lst .flow) (tosM_all l))) ▸ (OkC.d (fn_okL G46_ok hmx Tryz.func49 (bd_eq (by kernel_rfl)) _ _ (.cons (z_toFlowS l) (.nil _)) hs) hs (by kernel_rfl) : OkC Tryz.prog 49 [(cL .flow).enc l] (bif decide ((l.length : Int) ≤ l.length) then (bif decide ((l.length : Int) ≤ 1073741824) then (bif (sm30 l) then .lst .flow (((tosM l l.length).drop 0).take l.length) else .any) else .any) else .any))
theorem e_toFlowS : EOk Tryz.prog 49 c_toFlowS := ent1_ok Tryz.call49 fun l hq => o_toFlowS l hq
def I_toConnS (l : List (El .conn)) (z : Int) : St := ⟨fr 23 [(0, .lst .conn l), (3, .sl .conn 0 0 l.length), (4, .I z)], [⟨95, .list .conn (tosM l z.toNat), false, false⟩]⟩
theorem r_toConnS (l : List (El .conn)) (hn : l.length ≤ 1073741824) : Sat Tryz.prog 0 (.loop (lpb Tryz.f50 0)) (I_toConnS l (0 : Nat)) (.exit 0 ⟨fr 23 [(3, .sl .conn 0 0 l.length)], [⟨95, .list .conn (tosM l l.length), false, false⟩]⟩) := by
  have h := sat_all (P := Tryz.prog) (n0 := 0) (c := lpb Tryz.f50 0) l.length 0 (Nat.zero_le _) (I_toConnS l) (fun _ => true) 0 ⟨fr 23 [(3, .sl .conn 0 0 l.length)], [⟨95, .list .conn (tosM l l.length), false, false⟩]⟩ default fun k h0 hk =>
    rnd_sat (v := ⟨[0, 3, 4], ids 1, [3], ids 1, [], []⟩) G46_ok hmx (noLoops (n := 1) (by kernel_rfl)) (n := 1) (L := fun _ _ => none) (SfO.bads (b := bif decide ((k : Int) < l.length) then (bif decide ((k : Int) < l.length) then (bif decide ((k : Int) < l.length) then false else true) else true) else false) (by kernel_rfl) (by cases decide ((k : Int) < l.length) <;> rfl) (by kernel_rfl))
      ((by kernel_rfl : _ = (bif decide ((k : Int) < l.length) then (bif decide ((k : Int) < l.length) then (bif decide ((k : Int) < l.length) then .nrm ⟨fr 23 [(0, .lst .conn l), (3, .sl .conn 0 0 l.length), (4, .I (wr (k + 1)))], [⟨95, .list .conn ((tosM l k).set (0 + k) (l.getD k (elDef .conn))), false, false⟩]⟩ else default) else default) else (.exit 0 ⟨fr 23 [(3, .sl .conn 0 0 l.length)], [⟨95, .list .conn (tosM l k), false, false⟩]⟩))).trans (by
        by_cases h : k < l.length
        · have hb : decide ((k : Int) < (l.length : Nat)) = true := by simpa using h
          rw [hb, show decide (k < l.length) = true from by simpa using h]
          show Out.nrm ⟨_, _⟩ = Out.nrm (I_toConnS l ((k + 1 : Nat) : Int))
          rw [show wr ((k : Int) + 1) = ((k + 1 : Nat) : Int) from wr_succ h (by omega)]
          rfl
        · have e : k = l.length := Nat.le_antisymm hk (Nat.not_lt.1 h)
          rw [e, show decide (((l.length : Nat) : Int) < l.length) = false from by simp, show decide (l.length < l.length) = false from by simp]; rfl))
  rw [allF_true] at h
  exact h
def S_toConnS (l : List (El .conn)) : LoopSpec := ⟨[0, 3, 4], ids 1, I_toConnS l (0 : Nat), (.node (sm30 l) (.leaf (.exit 0 ⟨fr 23 [(3, .sl .conn 0 0 l.length)], [⟨95, .list .conn (tosM l l.length), false, false⟩]⟩)) .bad), []⟩
theorem z_toConnS (l : List (El .conn)) : SpecOk Tryz.prog Tryz.f50 0 (S_toConnS l) := .mk1 fun hq => r_toConnS l (of_decide_eq_true hq)
def c_toConnS : Entry := ent1 (cL .conn) fun l => (.when (sm30 l), .lst .conn l)
theorem o_toConnS : ∀ (l : Cd.ty ((cL .conn))), (sm30 l) = true → OkC Tryz.prog 50 [(cL .conn).enc l] (.lst .conn l) := fun l hq =>
  have hs : Sf (fnT Tryz.prog G46 (Ls [S_toConnS l]) Tryz.f50 (bd Tryz.f50) [(cL .conn).enc l]) := Sf.obls (b := bif decide ((l.length : Int) ≤ l.length) then (bif decide ((l.length : Int) ≤ 1073741824) then (bif (sm30 l) then false else true) else true) else true) (by kernel_rfl) ((by rw [hq, tos_le l, tos_sm l hq]; rfl)) (l := [I_toConnS l (0 : Nat) = I_toConnS l (0 : Nat)]) (by kernel_rfl) (by simp)
  (show ((bif decide ((l.length : Int) ≤ l.length) then (bif decide ((l.length : Int) ≤ 1073741824) then (bif (sm30 l) then .lst .conn (((tosM l l.length).drop 0).take l.length) else .any) else .any) else .any) : Da) = (.lst .conn l) from (by rw [hq, tos_le l, tos_sm l hq]; exact congrArg (Da.lst .conn) (tosM_all l))) ▸ (OkC.d (fn_okL G46_ok hmx Tryz.func50 (bd_eq (by kernel_rfl)) _ _ (.cons (z_toConnS l) (.nil _)) hs) hs (by kernel_rfl) : OkC Tryz.prog 50 [(cL .conn).enc l] (bif decide ((l.length : Int) ≤ l.length) then (bif decide ((l.length : Int) ≤ 1073741824) then (bif (sm30 l) then .lst .conn (((tosM l l.length).drop 0).take l.length) else .any) else .any) else .any))
theorem e_toConnS : EOk Tryz.prog 50 c_toConnS := ent1_ok Tryz.call50 fun l hq => o_toConnS l hq
def I_toPlaceS (l : List (El .place)) (z : Int) : St := ⟨fr 23 [(0, .lst .place l), (3, .sl .place 0 0 l.length), (4, .I z)], [⟨192, .list .place (tosM l z.toNat), false, false⟩]⟩
theorem r_toPlaceS (l : List (El .place)) (hn : l.length ≤ 1073741824) : Sat Tryz.prog 0 (.loop (lpb Tryz.f73 0)) (I_toPlaceS l (0 : Nat)) (.exit 0 ⟨fr 23 [(3, .sl .place 0 0 l.length)], [⟨192, .list .place (tosM l l.length), false, false⟩]⟩) := by
  have h := sat_all (P := Tryz.prog) (n0 := 0) (c := lpb Tryz.f73 0) l.length 0 (Nat.zero_le _) (I_toPlaceS l) (fun _ => true) 0 ⟨fr 23 [(3, .sl .place 0 0 l.length)], [⟨192, .list .place (tosM l l.length), false, false⟩]⟩ default fun k h0 hk =>
    rnd_sat (v := ⟨[0, 3, 4], ids 1, [3], ids 1, [], []⟩) G46_ok hmx (noLoops (n := 1) (by kernel_rfl)) (n := 1) (L := fun _ _ => none) (SfO.bads (b := bif decide ((k : Int) < l.length) then (bif decide ((k : Int) < l.length) then (bif decide ((k : Int) < l.length) then false else true) else true) else false) (by kernel_rfl) (by cases decide ((k : Int) < l.length) <;> rfl) (by kernel_rfl))
      ((by kernel_rfl : _ = (bif decide ((k : Int) < l.length) then (bif decide ((k : Int) < l.length) then (bif decide ((k : Int) < l.length) then .nrm ⟨fr 23 [(0, .lst .place l), (3, .sl .place 0 0 l.length), (4, .I (wr (k + 1)))], [⟨192, .list .place ((tosM l k).set (0 + k) (l.getD k (elDef .place))), false, false⟩]⟩ else default) else default) else (.exit 0 ⟨fr 23 [(3, .sl .place 0 0 l.length)], [⟨192, .list .place (tosM l k), false, false⟩]⟩))).trans (by
        by_cases h : k < l.length
        · have hb : decide ((k : Int) < (l.length : Nat)) = true := by simpa using h
          rw [hb, show decide (k < l.length) = true from by simpa using h]
          show Out.nrm ⟨_, _⟩ = Out.nrm (I_toPlaceS l ((k + 1 : Nat) : Int))
          rw [show wr ((k : Int) + 1) = ((k + 1 : Nat) : Int) from wr_succ h (by omega)]
          rfl
        · have e : k = l.length := Nat.le_antisymm hk (Nat.not_lt.1 h)
          rw [e, show decide (((l.length : Nat) : Int) < l.length) = false from by simp, show decide (l.length < l.length) = false from by simp]; rfl))
  rw [allF_true] at h
  exact h
def S_toPlaceS (l : List (El .place)) : LoopSpec := ⟨[0, 3, 4], ids 1, I_toPlaceS l (0 : Nat), (.node (sm30 l) (.leaf (.exit 0 ⟨fr 23 [(3, .sl .place 0 0 l.length)], [⟨192, .list .place (tosM l l.length), false, false⟩]⟩)) .bad), []⟩
theorem z_toPlaceS (l : List (El .place)) : SpecOk Tryz.prog Tryz.f73 0 (S_toPlaceS l) := .mk1 fun hq => r_toPlaceS l (of_decide_eq_true hq)
def c_toPlaceS : Entry := ent1 (cL .place) fun l => (.when (sm30 l), .lst .place l)
theorem o_toPlaceS : ∀ (l : Cd.ty ((cL .place))), (sm30 l) = true → OkC Tryz.prog 73 [(cL .place).enc l] (.lst .place l) := fun l hq =>
  have hs : Sf (fnT Tryz.prog G46 (Ls [S_toPlaceS l]) Tryz.f73 (bd Tryz.f73) [(cL .place).enc l]) := Sf.obls (b := bif decide ((l.length : Int) ≤ l.length) then (bif decide ((l.length : Int) ≤ 1073741824) then (bif (sm30 l) then false else true) else true) else true) (by kernel_rfl) ((by rw [hq, tos_le l, tos_sm l hq]; rfl)) (l := [I_toPlaceS l (0 : Nat) = I_toPlaceS l (0 : Nat)]) (by kernel_rfl) (by simp)
  (show ((bif decide ((l.length : Int) ≤ l.length) then (bif decide ((l.length : Int) ≤ 1073741824) then (bif (sm30 l) then .lst .place (((tosM l l.length).drop 0).take l.length) else .any) else .any) else .any) : Da) = (.lst .place l) from (by rw [hq, tos_le l, tos_sm l hq]; exact congrArg (Da.lst .place) (tosM_all l))) ▸ (OkC.d (fn_okL G46_ok hmx Tryz.func73 (bd_eq (by kernel_rfl)) _ _ (.cons (z_toPlaceS l) (.nil _)) hs) hs (by kernel_rfl) : OkC Tryz.prog 73 [(cL .place).enc l] (bif decide ((l.length : Int) ≤ l.length) then (bif decide ((l.length : Int) ≤ 1073741824) then (bif (sm30 l) then .lst .place (((tosM l l.length).drop 0).take l.length) else .any) else .any) else .any))
theorem e_toPlaceS : EOk Tryz.prog 73 c_toPlaceS := ent1_ok Tryz.call73 fun l hq => o_toPlaceS l hq
def I_toRuleS (l : List (El .rule)) (z : Int) : St := ⟨fr 23 [(0, .lst .rule l), (3, .sl .rule 0 0 l.length), (4, .I z)], [⟨231, .list .rule (tosM l z.toNat), false, false⟩]⟩
theorem r_toRuleS (l : List (El .rule)) (hn : l.length ≤ 1073741824) : Sat Tryz.prog 0 (.loop (lpb Tryz.f213 0)) (I_toRuleS l (0 : Nat)) (.exit 0 ⟨fr 23 [(3, .sl .rule 0 0 l.length)], [⟨231, .list .rule (tosM l l.length), false, false⟩]⟩) := by
  have h := sat_all (P := Tryz.prog) (n0 := 0) (c := lpb Tryz.f213 0) l.length 0 (Nat.zero_le _) (I_toRuleS l) (fun _ => true) 0 ⟨fr 23 [(3, .sl .rule 0 0 l.length)], [⟨231, .list .rule (tosM l l.length), false, false⟩]⟩ default fun k h0 hk =>
    rnd_sat (v := ⟨[0, 3, 4], ids 1, [3], ids 1, [], []⟩) G46_ok hmx (noLoops (n := 1) (by kernel_rfl)) (n := 1) (L := fun _ _ => none) (SfO.bads (b := bif decide ((k : Int) < l.length) then (bif decide ((k : Int) < l.length) then (bif decide ((k : Int) < l.length) then false else true) else true) else false) (by kernel_rfl) (by cases decide ((k : Int) < l.length) <;> rfl) (by kernel_rfl))
      ((by kernel_rfl : _ = (bif decide ((k : Int) < l.length) then (bif decide ((k : Int) < l.length) then (bif decide ((k : Int) < l.length) then .nrm ⟨fr 23 [(0, .lst .rule l), (3, .sl .rule 0 0 l.length), (4, .I (wr (k + 1)))], [⟨231, .list .rule ((tosM l k).set (0 + k) (l.getD k (elDef .rule))), false, false⟩]⟩ else default) else default) else (.exit 0 ⟨fr 23 [(3, .sl .rule 0 0 l.length)], [⟨231, .list .rule (tosM l k), false, false⟩]⟩))).trans (by
        by_cases h : k < l.length
        · have hb : decide ((k : Int) < (l.length : Nat)) = true := by simpa using h
          rw [hb, show decide (k < l.length) = true from by simpa using h]
          show Out.nrm ⟨_, _⟩ = Out.nrm (I_toRuleS l ((k + 1 : Nat) : Int))
          rw [show wr ((k : Int) + 1) = ((k + 1 : Nat) : Int) from wr_succ h (by omega)]
          rfl
        · have e : k = l.length := Nat.le_antisymm hk (Nat.not_lt.1 h)
          rw [e, show decide (((l.length : Nat) : Int) < l.length) = false from by simp, show decide (l.length < l.length) = false from by simp]; rfl))
  rw [allF_true] at h
  exact h
def S_toRuleS (l : List (El .rule)) : LoopSpec := ⟨[0, 3, 4], ids 1, I_toRuleS l (0 : Nat), (.node (sm30 l) (.leaf (.exit 0 ⟨fr 23 [(3, .sl .rule 0 0 l.length)], [⟨231, .list .rule (tosM l l.length), false, false⟩]⟩)) .bad), []⟩
theorem z_toRuleS (l : List (El .rule)) : SpecOk Tryz.prog Tryz.f213 0 (S_toRuleS l) := .mk1 fun hq => r_toRuleS l (of_decide_eq_true hq)
def c_toRuleS : Entry := ent1 (cL .rule) fun l => (.when (sm30 l), .lst .rule l)
theorem o_toRuleS : ∀ (l : Cd.ty ((cL .rule))), (sm30 l) = true → OkC Tryz.prog 213 [(cL .rule).enc l] (.lst .rule l) := fun l hq =>
  have hs : Sf (fnT Tryz.prog G46 (Ls [S_toRuleS l]) Tryz.f213 (bd Tryz.f213) [(cL .rule).enc l]) := Sf.obls (b := bif decide ((l.length : Int) ≤ l.length) then (bif decide ((l.length : Int) ≤ 1073741824) then (bif (sm30 l) then false else true) else true) else true) (by kernel_rfl) ((by rw [hq, tos_le l, tos_sm l hq]; rfl)) (l := [I_toRuleS l (0 : Nat) = I_toRuleS l (0 : Nat)]) (by kernel_rfl) (by simp)
  (show ((bif decide ((l.length : Int) ≤ l.length) then (bif decide ((l.length : Int) ≤ 1073741824) then (bif (sm30 l) then .lst .rule (((tosM l l.length).drop 0).take l.length) else .any) else .any) else .any) : Da) = (.lst .rule l) from (by rw [hq, tos_le l, tos_sm l hq]; exact congrArg (Da.lst .rule) (tosM_all l))) ▸ (OkC.d (fn_okL G46_ok hmx Tryz.func213 (bd_eq (by kernel_rfl)) _ _ (.cons (z_toRuleS l) (.nil _)) hs) hs (by kernel_rfl) : OkC Tryz.prog 213 [(cL .rule).enc l] (bif decide ((l.length : Int) ≤ l.length) then (bif decide ((l.length : Int) ≤ 1073741824) then (bif (sm30 l) then .lst .rule (((tosM l l.length).drop 0).take l.length) else .any) else .any) else .any))
theorem e_toRuleS : EOk Tryz.prog 213 c_toRuleS := ent1_ok Tryz.call213 fun l hq => o_toRuleS l hq
def G47 : Ctx := G46.add [(75, c_toUserS), (76, c_toSessionS), (77, c_toFailS), (78, c_toRecordS), (49, c_toFlowS), (50, c_toConnS), (73, c_toPlaceS), (213, c_toRuleS)]
theorem G47_ok : COk Tryz.prog G47 := G46_ok.add (CsOk.cons e_toUserS (CsOk.cons e_toSessionS (CsOk.cons e_toFailS (CsOk.cons e_toRecordS (CsOk.cons e_toFlowS (CsOk.cons e_toConnS (CsOk.cons e_toPlaceS (CsOk.cons e_toRuleS (CsOk.nil)))))))))
def c_toRole : Entry := ent1 (cA0 .role) fun x => (.when (sm30 x.rules), .agg (row .role x))
theorem o_toRole : ∀ (x : Cd.ty ((cA0 .role))), (sm30 x.rules) = true → OkC Tryz.prog 156 [(cA0 .role).enc x] (.agg (row .role x)) := fun x hq =>
  have hs : Sf (fnT Tryz.prog G47 (fun _ _ => none) Tryz.f156 (bd Tryz.f156) [(cA0 .role).enc x]) := Sf.bads (b := bif sm30 x.rules then false else true) (by kernel_rfl) ((by rw [hq]; rfl)) (by kernel_rfl)
  (show ((bif sm30 x.rules then .agg (row .role x) else .any) : Da) = (.agg (row .role x)) from (by rw [hq]; rfl)) ▸ (OkC.d (fn_ok0 G47_ok hmx Tryz.func156 (bd_eq (by kernel_rfl)) _ hs) hs (by kernel_rfl) : OkC Tryz.prog 156 [(cA0 .role).enc x] (bif sm30 x.rules then .agg (row .role x) else .any))
theorem e_toRole : EOk Tryz.prog 156 c_toRole := ent1_ok Tryz.call156 fun x hq => o_toRole x hq
def G48 : Ctx := G47.add [(156, c_toRole)]
theorem G48_ok : COk Tryz.prog G48 := G47_ok.add (CsOk.cons e_toRole (CsOk.nil))
def I_toRoleS (l : List (El .role)) (z : Int) : St := ⟨fr 23 [(0, .lst .role l), (3, .sl .role 0 0 l.length), (4, .I z)], [⟨199, .list .role (tosM l z.toNat), false, false⟩]⟩
theorem r_toRoleS (l : List (El .role)) (hn : l.length ≤ 1073741824) (hc : ∀ k, k < l.length → (sm30 (l.getD k (elDef .role)).rules) = true) : Sat Tryz.prog 0 (.loop (lpb Tryz.f74 0)) (I_toRoleS l (0 : Nat)) (.exit 0 ⟨fr 23 [(3, .sl .role 0 0 l.length)], [⟨199, .list .role (tosM l l.length), false, false⟩]⟩) := by
  have h := sat_all (P := Tryz.prog) (n0 := 0) (c := lpb Tryz.f74 0) l.length 0 (Nat.zero_le _) (I_toRoleS l) (fun _ => true) 0 ⟨fr 23 [(3, .sl .role 0 0 l.length)], [⟨199, .list .role (tosM l l.length), false, false⟩]⟩ default fun k h0 hk =>
    rnd_sat (v := ⟨[0, 3, 4], ids 1, [3], ids 1, [], []⟩) G48_ok hmx (noLoops (n := 1) (by kernel_rfl)) (n := 1) (L := fun _ _ => none) (SfO.bads (b := bif decide ((k : Int) < l.length) then (bif decide ((k : Int) < l.length) then (bif sm30 (l.getD k (elDef .role)).rules then (bif decide ((k : Int) < l.length) then false else true) else true) else true) else false) (by kernel_rfl) (by cases h : decide ((k : Int) < l.length) <;> first | rfl | (rw [hc k (by simpa using h)]; rfl)) (by kernel_rfl))
      ((by kernel_rfl : _ = (bif decide ((k : Int) < l.length) then (bif decide ((k : Int) < l.length) then (bif sm30 (l.getD k (elDef .role)).rules then (bif decide ((k : Int) < l.length) then .nrm ⟨fr 23 [(0, .lst .role l), (3, .sl .role 0 0 l.length), (4, .I (wr (k + 1)))], [⟨199, .list .role ((tosM l k).set (0 + k) (l.getD k (elDef .role))), false, false⟩]⟩ else default) else default) else default) else (.exit 0 ⟨fr 23 [(3, .sl .role 0 0 l.length)], [⟨199, .list .role (tosM l k), false, false⟩]⟩))).trans (by
        by_cases h : k < l.length
        · have hb : decide ((k : Int) < (l.length : Nat)) = true := by simpa using h
          rw [hb, hc k h, show decide (k < l.length) = true from by simpa using h]
          show Out.nrm ⟨_, _⟩ = Out.nrm (I_toRoleS l ((k + 1 : Nat) : Int))
          rw [show wr ((k : Int) + 1) = ((k + 1 : Nat) : Int) from wr_succ h (by omega)]
          rfl
        · have e : k = l.length := Nat.le_antisymm hk (Nat.not_lt.1 h)
          rw [e, show decide (((l.length : Nat) : Int) < l.length) = false from by simp, show decide (l.length < l.length) = false from by simp]; rfl))
  rw [allF_true] at h
  exact h
def S_toRoleS (l : List (El .role)) : LoopSpec := ⟨[0, 3, 4], ids 1, I_toRoleS l (0 : Nat), (.node (sm30 l && allN l.length (fun i => sm30 (l.getD i (elDef .role)).rules)) (.leaf (.exit 0 ⟨fr 23 [(3, .sl .role 0 0 l.length)], [⟨199, .list .role (tosM l l.length), false, false⟩]⟩)) .bad), []⟩
theorem z_toRoleS (l : List (El .role)) : SpecOk Tryz.prog Tryz.f74 0 (S_toRoleS l) := .mk1 fun hq => r_toRoleS l (of_decide_eq_true (and2 hq).1) (fun k hk => allN_iff.1 (and2 hq).2 k hk)
def c_toRoleS : Entry := ent1 (cL .role) fun l => (.when (sm30 l && allN l.length (fun i => sm30 (l.getD i (elDef .role)).rules)), .lst .role l)
theorem o_toRoleS : ∀ (l : Cd.ty ((cL .role))), (sm30 l && allN l.length (fun i => sm30 (l.getD i (elDef .role)).rules)) = true → OkC Tryz.prog 74 [(cL .role).enc l] (.lst .role l) := fun l hq =>
  have hs : Sf (fnT Tryz.prog G48 (Ls [S_toRoleS l]) Tryz.f74 (bd Tryz.f74) [(cL .role).enc l]) := Sf.obls (b := bif decide ((l.length : Int) ≤ l.length) then (bif decide ((l.length : Int) ≤ 1073741824) then (bif (sm30 l && allN l.length (fun i => sm30 (l.getD i (elDef .role)).rules)) then false else true) else true) else true) (by kernel_rfl) ((by rw [hq, tos_le l, tos_sm l (and2 hq).1]; rfl)) (l := [I_toRoleS l (0 : Nat) = I_toRoleS l (0 : Nat)]) (by kernel_rfl) (by simp)
  (show ((bif decide ((l.length : Int) ≤ l.length) then (bif decide ((l.length : Int) ≤ 1073741824) then (bif (sm30 l && allN l.length (fun i => sm30 (l.getD i (elDef .role)).rules)) then .lst .role (((tosM l l.length).drop 0).take l.length) else .any) else .any) else .any) : Da) = (.lst .role l) from (by rw [hq, tos_le l, tos_sm l (and2 hq).1]; exact congrArg (Da.lst .role) (tosM_all l))) ▸ (OkC.d (fn_okL G48_ok hmx Tryz.func74 (bd_eq (by kernel_rfl)) _ _ (.cons (z_toRoleS l) (.nil _)) hs) hs (by kernel_rfl) : OkC Tryz.prog 74 [(cL .role).enc l] (bif decide ((l.length : Int) ≤ l.length) then (bif decide ((l.length : Int) ≤ 1073741824) then (bif (sm30 l && allN l.length (fun i => sm30 (l.getD i (elDef .role)).rules)) then .lst .role (((tosM l l.length).drop 0).take l.length) else .any) else .any) else .any))
theorem e_toRoleS : EOk Tryz.prog 74 c_toRoleS := ent1_ok Tryz.call74 fun l hq => o_toRoleS l hq
def G49 : Ctx := G48.add [(74, c_toRoleS)]
theorem G49_ok : COk Tryz.prog G49 := G48_ok.add (CsOk.cons e_toRoleS (CsOk.nil))
def smR (l : List XRole) : Bool := sm30 l && allN l.length (fun i => sm30 (l.getD i (elDef .role)).rules)
def smC (c : XConfig) : Bool := sm30 c.garden && smR c.roles
def smU (g : XGuests) : Bool := sm30 g.users && (sm30 g.sessions && (sm30 g.fails && sm30 g.records))
def cfgOf (x : XGateway) : XConfig := ⟨x.lanIp, x.lanBits, x.gate, x.gateMac, x.wanMac, x.resolver, x.garden, x.roles⟩
def gstOf (x : XGateway) : XGuests := ⟨x.users, x.sessions, x.fails, x.records, x.next⟩
def smG (x : XGateway) : Bool := smC (cfgOf x) && (smU (gstOf x) && (sm30 x.flows && sm30 x.conns))
theorem smC1 {c : XConfig} (h : smC c = true) : sm30 c.garden = true ∧ (sm30 c.roles && allN c.roles.length (fun i => sm30 (c.roles.getD i (elDef .role)).rules)) = true := and2 h
theorem smU1 {g : XGuests} (h : smU g = true) : sm30 g.users = true ∧ sm30 g.sessions = true ∧ sm30 g.fails = true ∧ sm30 g.records = true := by
  unfold smU at h
  simpa only [Bool.and_eq_true] using h
theorem smG1 {x : XGateway} (h : smG x = true) : smC (cfgOf x) = true ∧ smU (gstOf x) = true ∧ sm30 x.flows = true ∧ sm30 x.conns = true := by
  unfold smG at h
  simpa only [Bool.and_eq_true] using h
def c_toConfig : Entry := ent1 (cA0 .config) fun x => (.when (smC x), .agg (row .config x))
theorem o_toConfig : ∀ (x : Cd.ty ((cA0 .config))), (smC x) = true → OkC Tryz.prog 19 [(cA0 .config).enc x] (.agg (row .config x)) := fun x hq =>
  have hs : Sf (fnT Tryz.prog G49 (fun _ _ => none) Tryz.f19 (bd Tryz.f19) [(cA0 .config).enc x]) := Sf.bads (b := bif sm30 x.garden then (bif smR x.roles then false else true) else true) (by kernel_rfl) ((by rw [(smC1 hq).1, show smR x.roles = true from (smC1 hq).2]; rfl)) (by kernel_rfl)
  (show ((bif sm30 x.garden then (bif smR x.roles then .agg (row .config x) else .any) else .any) : Da) = (.agg (row .config x)) from (by rw [(smC1 hq).1, show smR x.roles = true from (smC1 hq).2]; rfl)) ▸ (OkC.d (fn_ok0 G49_ok hmx Tryz.func19 (bd_eq (by kernel_rfl)) _ hs) hs (by kernel_rfl) : OkC Tryz.prog 19 [(cA0 .config).enc x] (bif sm30 x.garden then (bif smR x.roles then .agg (row .config x) else .any) else .any))
theorem e_toConfig : EOk Tryz.prog 19 c_toConfig := ent1_ok Tryz.call19 fun x hq => o_toConfig x hq
def c_toGuests : Entry := ent1 (cA0 .guests) fun x => (.when (smU x), .agg (row .guests x))
theorem o_toGuests : ∀ (x : Cd.ty ((cA0 .guests))), (smU x) = true → OkC Tryz.prog 20 [(cA0 .guests).enc x] (.agg (row .guests x)) := fun x hq =>
  have hs : Sf (fnT Tryz.prog G49 (fun _ _ => none) Tryz.f20 (bd Tryz.f20) [(cA0 .guests).enc x]) := Sf.bads (b := bif sm30 x.users then (bif sm30 x.sessions then (bif sm30 x.fails then (bif sm30 x.records then false else true) else true) else true) else true) (by kernel_rfl) ((by obtain ⟨a, b, c, d⟩ := smU1 hq; rw [a, b, c, d]; rfl)) (by kernel_rfl)
  (show ((bif sm30 x.users then (bif sm30 x.sessions then (bif sm30 x.fails then (bif sm30 x.records then .agg (row .guests x) else .any) else .any) else .any) else .any) : Da) = (.agg (row .guests x)) from (by obtain ⟨a, b, c, d⟩ := smU1 hq; rw [a, b, c, d]; rfl)) ▸ (OkC.d (fn_ok0 G49_ok hmx Tryz.func20 (bd_eq (by kernel_rfl)) _ hs) hs (by kernel_rfl) : OkC Tryz.prog 20 [(cA0 .guests).enc x] (bif sm30 x.users then (bif sm30 x.sessions then (bif sm30 x.fails then (bif sm30 x.records then .agg (row .guests x) else .any) else .any) else .any) else .any))
theorem e_toGuests : EOk Tryz.prog 20 c_toGuests := ent1_ok Tryz.call20 fun x hq => o_toGuests x hq
def G50 : Ctx := G49.add [(19, c_toConfig), (20, c_toGuests)]
theorem G50_ok : COk Tryz.prog G50 := G49_ok.add (CsOk.cons e_toConfig (CsOk.cons e_toGuests (CsOk.nil)))
def c_toGateway : Entry := ent1 (cA0 .gateway) fun x => (.when (smG x), .agg (row .gateway x))
theorem o_toGateway : ∀ (x : Cd.ty ((cA0 .gateway))), (smG x) = true → OkC Tryz.prog 13 [(cA0 .gateway).enc x] (.agg (row .gateway x)) := fun x hq =>
  have hs : Sf (fnT Tryz.prog G50 (fun _ _ => none) Tryz.f13 (bd Tryz.f13) [(cA0 .gateway).enc x]) := Sf.bads (b := bif smC (cfgOf x) then (bif smU (gstOf x) then (bif sm30 x.flows then (bif sm30 x.conns then false else true) else true) else true) else true) (by kernel_rfl) ((by obtain ⟨a, b, c, d⟩ := smG1 hq; rw [a, b, c, d]; rfl)) (by kernel_rfl)
  (show ((bif smC (cfgOf x) then (bif smU (gstOf x) then (bif sm30 x.flows then (bif sm30 x.conns then .agg (row .gateway x) else .any) else .any) else .any) else .any) : Da) = (.agg (row .gateway x)) from (by obtain ⟨a, b, c, d⟩ := smG1 hq; rw [a, b, c, d]; rfl)) ▸ (OkC.d (fn_ok0 G50_ok hmx Tryz.func13 (bd_eq (by kernel_rfl)) _ hs) hs (by kernel_rfl) : OkC Tryz.prog 13 [(cA0 .gateway).enc x] (bif smC (cfgOf x) then (bif smU (gstOf x) then (bif sm30 x.flows then (bif sm30 x.conns then .agg (row .gateway x) else .any) else .any) else .any) else .any))
theorem e_toGateway : EOk Tryz.prog 13 c_toGateway := ent1_ok Tryz.call13 fun x hq => o_toGateway x hq
end Go.Proofs.YthlebalbiokjpaaGreat
namespace Go.Proofs.YthlebalbiokjpaaGreat
open Go.RowKit
set_option linter.unusedVariables false
set_option maxRecDepth 100000

def I_eqRoleS (l : Cd.ty ((cL .role))) (r : Cd.ty ((cL .role))) (z : Int) : St := ⟨fr 27 [(0, .lst .role l), (1, .lst .role r), (5, .I z)], []⟩
theorem r_eqRoleS (l : Cd.ty ((cL .role))) (r : Cd.ty ((cL .role))) (hn : l.length ≤ 1099511627776) (he : l.length = r.length) (hc : ∀ k, k < l.length → (small (l.getD k (elDef .role)).rules) = true) (h0 : 0 ≤ l.length) : Sat Tryz.prog 0 (.loop (lpb Tryz.f88 0)) (I_eqRoleS l r (0 : Nat)) (bif allF (fun i => (qRole (l.getD i (elDef .role)) (r.getD i (elDef .role)))) (l.length) 0 then .exit 0 ⟨fr 27 [], []⟩ else .ret ⟨fr 27 [(4, .v (.bool false))], []⟩) :=
  sat_all (l.length) 0 h0 (I_eqRoleS l r) (fun i => (qRole (l.getD i (elDef .role)) (r.getD i (elDef .role)))) 0 _ _ fun k h0 hk =>
    rnd_sat (v := ⟨[0, 1, 5], ids 0, [], ids 0, [4], []⟩) G44_ok hmx (noLoops (n := 1) (by kernel_rfl)) (n := 1) (L := fun _ _ => none) (SfO.bads (b := bif decide ((k : Int) < l.length) then (bif decide ((k : Int) < l.length) then (bif decide ((k : Int) < r.length) then (bif (small (l.getD k (elDef .role)).rules) then false else true) else true) else true) else false) (by kernel_rfl) ((by rw [← he]; cases h : decide ((k : Int) < l.length) <;> first | rfl | (rw [hc k (by simpa using h)]; rfl))) (by kernel_rfl))
      ((by kernel_rfl : _ = (bif decide ((k : Int) < (l.length : Nat)) then (bif decide ((k : Int) < l.length) then (bif decide ((k : Int) < r.length) then (bif (small (l.getD k (elDef .role)).rules) then (bif (qRole (l.getD k (elDef .role)) (r.getD k (elDef .role))) then .nrm (I_eqRoleS l r (wr (k + 1))) else .ret ⟨fr 27 [(4, .v (.bool false))], []⟩) else default) else default) else default) else .exit 0 ⟨fr 27 [], []⟩)).trans (all_eq fun hk => ((by rw [← he, bnd hk, wrs hk hn, hc k hk]; rfl))))
def S_eqRoleS (l : Cd.ty ((cL .role))) (r : Cd.ty ((cL .role))) : LoopSpec := ⟨[0, 1, 5], ids 0, I_eqRoleS l r (0 : Nat), (.node (small l && ((l.length : Int) == r.length) && allN l.length (fun i => (small (l.getD i (elDef .role)).rules))) (.node (allF (fun i => (qRole (l.getD i (elDef .role)) (r.getD i (elDef .role)))) (l.length) 0) (.leaf (.exit 0 ⟨fr 27 [], []⟩)) (.leaf (.ret ⟨fr 27 [(4, .v (.bool false))], []⟩))) .bad), []⟩
theorem z_eqRoleS (l : Cd.ty ((cL .role))) (r : Cd.ty ((cL .role)))  : SpecOk Tryz.prog Tryz.f88 0 ⟨[0, 1, 5], ids 0, I_eqRoleS l r (0 : Nat), (.node (small l && ((l.length : Int) == r.length) && allN l.length (fun i => (small (l.getD i (elDef .role)).rules))) (.node (allF (fun i => (qRole (l.getD i (elDef .role)) (r.getD i (elDef .role)))) (l.length) 0) (.leaf (.exit 0 ⟨fr 27 [], []⟩)) (.leaf (.ret ⟨fr 27 [(4, .v (.bool false))], []⟩))) .bad), []⟩ := .mkW fun hq => r_eqRoleS l r (of_decide_eq_true (and2 (and2 hq).1).1) (by have := eq_of_beq (and2 (and2 hq).1).2; omega) (fun k hk => allN_iff.1 (and2 hq).2 k hk) (Nat.zero_le _)
def V_eqRoleS (l r : List (El .role)) : Bool := bif (l.length : Int) == r.length then allN l.length (fun i => (qRole (l.getD i (elDef .role)) (r.getD i (elDef .role)))) else false
def c_eqRoleS : Entry := ent2 (cL .role) (cL .role) fun l r => (.when (small l && allN l.length (fun i => (small (l.getD i (elDef .role)).rules))), .b (V_eqRoleS l r))
theorem o_eqRoleS : ∀ (l : Cd.ty ((cL .role))) (r : Cd.ty ((cL .role))), (small l && allN l.length (fun i => (small (l.getD i (elDef .role)).rules))) = true → OkC Tryz.prog 88 [(cL .role).enc l, (cL .role).enc r] (.b (V_eqRoleS l r)) := fun l r hq =>
  have hs : Sf (fnT Tryz.prog G44 (Ls [S_eqRoleS l r]) Tryz.f88 (bd Tryz.f88) [(cL .role).enc l, (cL .role).enc r]) := Sf.obls (b := bif (l.length : Int) == r.length then (bif (small l && ((l.length : Int) == r.length) && allN l.length (fun i => (small (l.getD i (elDef .role)).rules))) then false else true) else false) (by kernel_rfl) ((by obtain ⟨h1, h2⟩ := and2 hq; rw [h1, h2]; cases (l.length : Int) == r.length <;> rfl)) (l := [I_eqRoleS l r (0 : Nat) = I_eqRoleS l r (0 : Nat)]) (by kernel_rfl) (by simp)
  (show (bif (l.length : Int) == r.length then (bif (small l && ((l.length : Int) == r.length) && allN l.length (fun i => (small (l.getD i (elDef .role)).rules))) then (bif allF (fun i => (qRole (l.getD i (elDef .role)) (r.getD i (elDef .role)))) l.length 0 then true else false) else false) else false) = (V_eqRoleS l r) from (by
    unfold V_eqRoleS
    obtain ⟨h1, h2⟩ := and2 hq
    rw [h1, h2, allF_zero]
    cases (l.length : Int) == r.length <;> try rfl
    cases allN l.length (fun i => (qRole (l.getD i (elDef .role)) (r.getD i (elDef .role)))) <;> rfl)) ▸ (OkC.b (fn_okL G44_ok hmx Tryz.func88 (bd_eq (by kernel_rfl)) _ _ (.cons (z_eqRoleS l r) (.nil _)) hs) hs (by kernel_rfl) (by kernel_rfl) : OkC Tryz.prog 88 [(cL .role).enc l, (cL .role).enc r] (.b (bif (l.length : Int) == r.length then (bif (small l && ((l.length : Int) == r.length) && allN l.length (fun i => (small (l.getD i (elDef .role)).rules))) then (bif allF (fun i => (qRole (l.getD i (elDef .role)) (r.getD i (elDef .role)))) l.length 0 then true else false) else false) else false)))
theorem e_eqRoleS : EOk Tryz.prog 88 c_eqRoleS := ent2_ok Tryz.call88 fun l r hq => o_eqRoleS l r hq
def G51 : Ctx := G50.add [(171, c_eqRole), (88, c_eqRoleS)]
theorem G51_ok : COk Tryz.prog G51 := G50_ok.add (CsOk.cons e_eqRole (CsOk.cons e_eqRoleS (CsOk.nil)))
def smallR (l : List XRole) : Bool := small l && allN l.length (fun i => small (l.getD i (elDef .role)).rules)
def smallU (g : XGuests) : Bool := small g.users && (small g.sessions && (small g.fails && small g.records))
def qConfig (f g : XConfig) : Bool := qNet ⟨f.lanIp, f.lanBits⟩ ⟨g.lanIp, g.lanBits⟩ && (f.gate == g.gate && ((f.gateMac.toList == g.gateMac.toList) && ((f.wanMac.toList == g.wanMac.toList) && (f.resolver == g.resolver && (V_eqPlaceS f.garden g.garden && (V_eqRoleS f.roles g.roles && true))))))
def qConfigT (f g : XConfig) (a b : Bool) : Bool := qNet ⟨f.lanIp, f.lanBits⟩ ⟨g.lanIp, g.lanBits⟩ && (f.gate == g.gate && ((f.gateMac.toList == g.gateMac.toList) && ((f.wanMac.toList == g.wanMac.toList) && (f.resolver == g.resolver && a))))
def c_eqConfig : Entry := ent2 (cA0 .config) (cA0 .config) fun f g => (.when (small f.garden && smallR f.roles), .b (qConfig f g))
theorem o_eqConfig : ∀ f g, (small f.garden && smallR f.roles) = true → OkC Tryz.prog 23 [(cA0 .config).enc f, (cA0 .config).enc g] (.b (qConfig f g)) := fun f g hq =>
  have hs : Sf (fnT Tryz.prog G51 (fun _ _ => none) Tryz.f23 (bd Tryz.f23) [(cA0 .config).enc f, (cA0 .config).enc g]) := Sf.bads (b := qNet ⟨f.lanIp, f.lanBits⟩ ⟨g.lanIp, g.lanBits⟩ && (f.gate == g.gate && ((f.gateMac.toList == g.gateMac.toList) && ((f.wanMac.toList == g.wanMac.toList) && (f.resolver == g.resolver && (bif small f.garden then (V_eqPlaceS f.garden g.garden && (bif smallR f.roles then false else true)) else true)))))) (by kernel_rfl) ((by obtain ⟨h1, h2⟩ := and2 hq; rw [h1, h2]; simp)) (by kernel_rfl)
  (show (qNet ⟨f.lanIp, f.lanBits⟩ ⟨g.lanIp, g.lanBits⟩ && (f.gate == g.gate && ((f.gateMac.toList == g.gateMac.toList) && ((f.wanMac.toList == g.wanMac.toList) && (f.resolver == g.resolver && (bif small f.garden then (V_eqPlaceS f.garden g.garden && (bif smallR f.roles then (V_eqRoleS f.roles g.roles && true) else false)) else false)))))) = (qConfig f g) from (by obtain ⟨h1, h2⟩ := and2 hq; rw [h1, h2]; rfl)) ▸ (OkC.b (fn_ok0 G51_ok hmx Tryz.func23 (bd_eq (by kernel_rfl)) _ hs) hs (by kernel_rfl) (by kernel_rfl) : OkC Tryz.prog 23 [(cA0 .config).enc f, (cA0 .config).enc g] (.b (qNet ⟨f.lanIp, f.lanBits⟩ ⟨g.lanIp, g.lanBits⟩ && (f.gate == g.gate && ((f.gateMac.toList == g.gateMac.toList) && ((f.wanMac.toList == g.wanMac.toList) && (f.resolver == g.resolver && (bif small f.garden then (V_eqPlaceS f.garden g.garden && (bif smallR f.roles then (V_eqRoleS f.roles g.roles && true) else false)) else false))))))))
theorem e_eqConfig : EOk Tryz.prog 23 c_eqConfig := ent2_ok Tryz.call23 fun f g hq => o_eqConfig f g hq
def qGuests (f g : XGuests) : Bool := V_eqUserS f.users g.users && (V_eqSessionS f.sessions g.sessions && (V_eqFailS f.fails g.fails && (V_eqRecordS f.records g.records && (f.next == g.next && true))))
theorem smallU1 {g : XGuests} (h : smallU g = true) : small g.users = true ∧ small g.sessions = true ∧ small g.fails = true ∧ small g.records = true := by
  unfold smallU at h
  simpa only [Bool.and_eq_true] using h
def c_eqGuests : Entry := ent2 (cA0 .guests) (cA0 .guests) fun f g => (.when (smallU f), .b (qGuests f g))
theorem o_eqGuests : ∀ f g, (smallU f) = true → OkC Tryz.prog 22 [(cA0 .guests).enc f, (cA0 .guests).enc g] (.b (qGuests f g)) := fun f g hq =>
  have hs : Sf (fnT Tryz.prog G51 (fun _ _ => none) Tryz.f22 (bd Tryz.f22) [(cA0 .guests).enc f, (cA0 .guests).enc g]) := Sf.bads (b := bif small f.users then (V_eqUserS f.users g.users && (bif small f.sessions then (V_eqSessionS f.sessions g.sessions && (bif small f.fails then (V_eqFailS f.fails g.fails && (bif small f.records then false else true)) else true)) else true)) else true) (by kernel_rfl) ((by obtain ⟨a, b, c, d⟩ := smallU1 hq; rw [a, b, c, d]; simp)) (by kernel_rfl)
  (show (bif small f.users then (V_eqUserS f.users g.users && (bif small f.sessions then (V_eqSessionS f.sessions g.sessions && (bif small f.fails then (V_eqFailS f.fails g.fails && (bif small f.records then (V_eqRecordS f.records g.records && (f.next == g.next && true)) else false)) else false)) else false)) else false) = (qGuests f g) from (by obtain ⟨a, b, c, d⟩ := smallU1 hq; rw [a, b, c, d]; rfl)) ▸ (OkC.b (fn_ok0 G51_ok hmx Tryz.func22 (bd_eq (by kernel_rfl)) _ hs) hs (by kernel_rfl) (by kernel_rfl) : OkC Tryz.prog 22 [(cA0 .guests).enc f, (cA0 .guests).enc g] (.b (bif small f.users then (V_eqUserS f.users g.users && (bif small f.sessions then (V_eqSessionS f.sessions g.sessions && (bif small f.fails then (V_eqFailS f.fails g.fails && (bif small f.records then (V_eqRecordS f.records g.records && (f.next == g.next && true)) else false)) else false)) else false)) else false)))
theorem e_eqGuests : EOk Tryz.prog 22 c_eqGuests := ent2_ok Tryz.call22 fun f g hq => o_eqGuests f g hq
def G52 : Ctx := G51.add [(23, c_eqConfig), (22, c_eqGuests)]
theorem G52_ok : COk Tryz.prog G52 := G51_ok.add (CsOk.cons e_eqConfig (CsOk.cons e_eqGuests (CsOk.nil)))
def smallC (c : XConfig) : Bool := small c.garden && smallR c.roles
def smallG (x : XGateway) : Bool := smallC (cfgOf x) && (smallU (gstOf x) && (small x.flows && small x.conns))
theorem smallG1 {x : XGateway} (h : smallG x = true) : smallC (cfgOf x) = true ∧ smallU (gstOf x) = true ∧ small x.flows = true ∧ small x.conns = true := by
  unfold smallG at h
  simpa only [Bool.and_eq_true] using h
def qGateway (f g : XGateway) : Bool := qConfig (cfgOf f) (cfgOf g) && (qGuests (gstOf f) (gstOf g) && (V_eqFlowS f.flows g.flows && (V_eqConnS f.conns g.conns && (f.now == g.now && (f.drops == g.drops && (f.isn == g.isn && true))))))
def c_eqGateway : Entry := ent2 (cA0 .gateway) (cA0 .gateway) fun f g => (.when (smallG f), .b (qGateway f g))
theorem o_eqGateway : ∀ f g, (smallG f) = true → OkC Tryz.prog 15 [(cA0 .gateway).enc f, (cA0 .gateway).enc g] (.b (qGateway f g)) := fun f g hq =>
  have hs : Sf (fnT Tryz.prog G52 (fun _ _ => none) Tryz.f15 (bd Tryz.f15) [(cA0 .gateway).enc f, (cA0 .gateway).enc g]) := Sf.bads (b := bif smallC (cfgOf f) then (qConfig (cfgOf f) (cfgOf g) && (bif smallU (gstOf f) then (qGuests (gstOf f) (gstOf g) && (bif small f.flows then (V_eqFlowS f.flows g.flows && (bif small f.conns then false else true)) else true)) else true)) else true) (by kernel_rfl) ((by obtain ⟨a, b, c, d⟩ := smallG1 hq; rw [a, b, c, d]; simp)) (by kernel_rfl)
  (show (bif smallC (cfgOf f) then (qConfig (cfgOf f) (cfgOf g) && (bif smallU (gstOf f) then (qGuests (gstOf f) (gstOf g) && (bif small f.flows then (V_eqFlowS f.flows g.flows && (bif small f.conns then (V_eqConnS f.conns g.conns && (f.now == g.now && (f.drops == g.drops && (f.isn == g.isn && true)))) else false)) else false)) else false)) else false) = (qGateway f g) from (by obtain ⟨a, b, c, d⟩ := smallG1 hq; rw [a, b, c, d]; rfl)) ▸ (OkC.b (fn_ok0 G52_ok hmx Tryz.func15 (bd_eq (by kernel_rfl)) _ hs) hs (by kernel_rfl) (by kernel_rfl) : OkC Tryz.prog 15 [(cA0 .gateway).enc f, (cA0 .gateway).enc g] (.b (bif smallC (cfgOf f) then (qConfig (cfgOf f) (cfgOf g) && (bif smallU (gstOf f) then (qGuests (gstOf f) (gstOf g) && (bif small f.flows then (V_eqFlowS f.flows g.flows && (bif small f.conns then (V_eqConnS f.conns g.conns && (f.now == g.now && (f.drops == g.drops && (f.isn == g.isn && true)))) else false)) else false)) else false)) else false)))
theorem e_eqGateway : EOk Tryz.prog 15 c_eqGateway := ent2_ok Tryz.call15 fun f g hq => o_eqGateway f g hq
/-! ## Each is what it is -/
theorem V_refl {k : Kd} {l : List (El k)} {q : El k → El k → Bool} (h : ∀ x, q x x = true) : (bif (l.length : Int) == l.length then allN l.length (fun i => q (l.getD i (elDef k)) (l.getD i (elDef k))) else false) = true := by
  have e : ((l.length : Int) == l.length) = true := by simp
  rw [e]
  exact allN_iff.2 fun i _ => h _
theorem qFlow_refl (x : XFlow) : qFlow x x = true := by simp [qFlow]
theorem qConn_refl (x : XConn) : qConn x x = true := by simp [qConn]
theorem qUser_refl (x : XUser) : qUser x x = true := by simp [qUser]
theorem qSession_refl (x : XSession) : qSession x x = true := by simp [qSession]
theorem qFail_refl (x : XFail) : qFail x x = true := by simp [qFail]
theorem qRecord_refl (x : XRecord) : qRecord x x = true := by simp [qRecord]
theorem qPlace_refl (x : XPlace) : qPlace x x = true := by simp [qPlace, qNet, qRange]
theorem qRule_refl (x : XRule) : qRule x x = true := by simp [qRule, qNet, qRange]
theorem qRole_refl (x : XRole) : qRole x x = true := by
  have : V_eqRuleS x.rules x.rules = true := V_refl (k := .rule) qRule_refl
  simp [qRole, this]
theorem qConfig_refl (x : XConfig) : qConfig x x = true := by
  have h1 : V_eqPlaceS x.garden x.garden = true := V_refl (k := .place) qPlace_refl
  have h2 : V_eqRoleS x.roles x.roles = true := V_refl (k := .role) qRole_refl
  simp [qConfig, qNet, h1, h2]
theorem qGuests_refl (x : XGuests) : qGuests x x = true := by
  have h1 : V_eqUserS x.users x.users = true := V_refl (k := .user) qUser_refl
  have h2 : V_eqSessionS x.sessions x.sessions = true := V_refl (k := .session) qSession_refl
  have h3 : V_eqFailS x.fails x.fails = true := V_refl (k := .fail) qFail_refl
  have h4 : V_eqRecordS x.records x.records = true := V_refl (k := .record) qRecord_refl
  simp [qGuests, h1, h2, h3, h4]
theorem qGateway_refl (x : XGateway) : qGateway x x = true := by
  have h1 : V_eqFlowS x.flows x.flows = true := V_refl (k := .flow) qFlow_refl
  have h2 : V_eqConnS x.conns x.conns = true := V_refl (k := .conn) qConn_refl
  simp [qGateway, qConfig_refl, qGuests_refl, h1, h2]
end Go.Proofs.YthlebalbiokjpaaGreat
