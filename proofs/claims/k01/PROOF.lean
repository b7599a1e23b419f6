import PyProof.Rows.All
import Wide.All
import OpenK.AllK
import Wide.FinOn
import HandS.ForMost
import HandS.Exc
import HandS.TryOnly
import HandS.TryMany
import HandS.ExcOwn
import HandS.WordsExc
import HandS.ExcIs
import HandS.IsInst
import HandS.Wide
import HandS.More
import HandS.Conv
import HandS.SortInts
import HandS.Style
import PySem.Challenge.RW_skipladder_k01_a_block
set_option Elab.async false
set_option linter.all false
set_option maxRecDepth 100000
set_option maxHeartbeats 4000000
/-! ### own rules and the steps by which a reading is gone through -/
namespace Lk
open PySem PySem.Spec PyProof.Rows L2
/-- a def of the text that keeps its promise, however its arguments are bound -/
def FO (P : Program) (w : World) (K : PySem.W.Frag) (mg : Str → Option Value) (base : Heap) (k : Nat) (f : Addr) (ps : List Str) (sp : Sp) : Prop :=
  ∃ fd, FnOk P w K mg base (L2.CX P w) k f fd ps sp ∧ Binds K fd ps []
section
variable {P : Program} {w : World} {K : PySem.W.Frag} {mg : Str → Option Value} {base : Heap}
theorem FO.mk' {x qual : Str} {st : Stmt} {f : Addr} {N ps : List Str} {k : Nat} {sp : Sp} (F : ∃ fd, Fun K x qual st f fd) (S : FnScope N ps (defScope st))
    (hb : ∀ fd, Fun K x qual st f fd → Binds K fd ps [])
    (len : ∀ vs H Q E, sp vs H Q E → vs.length = ps.length)
    (body : ∀ (cdv : Value) (A : Around) (outer : List Env) (s : Shared) (H : Hp) (vs : List V) (Q : VK) (E : XK), Room k (A.deeper (envOfC qual (defScope st) s.heap.objs.size f cdv)) → sp vs H Q E →
      ∃ t, PSs (cxOf (L2.CX P w) P w K mg base N qual (defScope st) f cdv A outer s H E) (defBody st) t ∧ t { nx := fun _ H' => Q .non H', rt := Q } (start N vs) H) :
    FO P w K mg base (k + 1) f ps sp := by
  obtain ⟨fd, F⟩ := F
  exact ⟨fd, F.okX S len body, hb fd F⟩
theorem FO.imp {f : Addr} {ps : List Str} {k : Nat} {sp sp' : Sp} (F : FO P w K mg base k f ps sp) (h : ∀ vs H Q E, sp' vs H Q E → sp vs H Q E) : FO P w K mg base k f ps sp' := by
  obtain ⟨fd, F, b⟩ := F
  exact ⟨fd, F.imp h, b⟩
end
/-! operators, each by a name of its own -/
def nAdd : R2 := rI0 fun i j => .int (i + j)
def nSub : R2 := rI0 fun i j => .int (i - j)
def nMul : R2 := rI CMul fun i j => .int (i * j)
def nMod : R2 := rI (fun _ j => 0 < j) fun i j => .int (i % j)
def nDiv : R2 := rI (fun _ j => 0 < j ∧ j < 2 ^ 64) fun i j => .int (i / j)
def nPow : R2 := rI CPow fun i j => .int (i ^ j.toNat)
def nLt : R2 := rI0 fun i j => .bl (decide (i < j))
def nLe : R2 := rI0 fun i j => .bl (decide (i ≤ j))
def nGt : R2 := rI0 fun i j => .bl (decide (j < i))
def nGe : R2 := rI0 fun i j => .bl (decide (j ≤ i))
def nIsN : R2 := fun x y H Q => y = .non ∧ Q (.bl (decide (x = .non))) H
def nNotN : R2 := fun x y H Q => y = .non ∧ Q (.bl (!decide (x = .non))) H
section
variable {X : Cx}
theorem o_add : OpR X (binaryOp .Add) nAdd := op_add
theorem o_sub : OpR X (binaryOp .Sub) nSub := op_sub
theorem o_mul : OpR X (binaryOp .Mult) nMul := op_mul
theorem o_mod : OpR X (binaryOp .Mod) nMod := op_mod
theorem o_pow : OpR X (binaryOp .Pow) nPow := op_pow
theorem o_div : OpR X (binaryOp .FloorDiv) nDiv := by
  intro pins s σ H x y v u Q I rx ry h
  obtain ⟨i, j, e1, e2, ⟨h1, h2⟩, q⟩ := h
  exact op_fdivW pins s σ H x y v u Q I rx ry ⟨i, j, e1, e2, wide_div (b := 64) h1 (by omega) (by decide) (by decide), q⟩
theorem o_lt : OpR X (compareOp .Lt) nLt := op_lt
theorem o_le : OpR X (compareOp .LtE) nLe := op_le
theorem o_gt : OpR X (compareOp .Gt) nGt := op_gt
theorem o_ge : OpR X (compareOp .GtE) nGe := op_ge
theorem o_isN : OpR X (compareOp .Is) nIsN := op_isN
theorem o_notN : OpR X (compareOp .IsNot) nNotN := op_notN
end
/-- an if whose ways meet again: what is known there is said by a word of one's own -/
def tSeqC (t u : TS) : TS := tSeq t u
theorem pss_consC {X : Cx} {st : Stmt} {sts : List Stmt} {t u : TS} (h1 : PS X st t) (h2 : PSs X sts u) : PSs X (st :: sts) (tSeqC t u) := pss_cons h1 h2
theorem g_seqC {t u : TS} {D : Ends} {σ : L2.St} {H : Hp} (h : t { D with nx := u D } σ H) : tSeqC t u D σ H := h
theorem g_cut {t u : TS} {D : Ends} {σ : L2.St} {H : Hp} (I : L2.St → Hp → Prop) (h1 : ∀ N : L2.St → Hp → Prop, (∀ σ' H', I σ' H' → N σ' H') → t { D with nx := N } σ H) (h2 : ∀ σ' H', I σ' H' → u D σ' H') : tSeqC t u D σ H := h1 _ h2
/-! fields, one step each -/
def dFld (K : PySem.W.Frag) (f : Str) : V → Hp → VK → Prop := fun x H1 Q => ∃ a C dx fs v, x = .ref a ∧ H1 a = some (.ins C dx fs) ∧ Cls K C ∧ NoAttr K C f ∧ fs.lookup f = some v ∧ Q v H1
def dBl (x : V) (H : Hp) (R : Bool → Hp → Prop) : Prop := ∃ k, x = .bl k ∧ R k H
def dRng (vs : List V) (H1 : Hp) (R : It → Hp → Prop) : Prop := ∃ j : Int, vs = [.int j] ∧ -(2 ^ 62) ≤ j ∧ j < 2 ^ 62 ∧ R (Itr 0 j.toNat) H1
def dGet : V → V → Hp → VK → Prop := fun x y H2 Q => ∃ a v, x = .ref a ∧ DGet H2 a y (some v) ∧ Q v H2
def dIn : V → V → Hp → VK → Prop := fun y x H2 Q => ∃ a o, x = .ref a ∧ DGet H2 a y o ∧ Q (.bl o.isSome) H2
def dNotIn : V → V → Hp → VK → Prop := fun y x H2 Q => ∃ a o, x = .ref a ∧ DGet H2 a y o ∧ Q (.bl (!o.isSome)) H2
section
variable {K : PySem.W.Frag} {σ : L2.St} {H : Hp} {Q : VK} {D : Ends} {v x y : V} {i j : Int} {n : Nat} {ta tb te tc : TE} {t u : TS} {c c2 : TT} {tA tr : TA} {b : Bool}
theorem g_seq (h : t { D with nx := u D } σ H) : tSeq t u D σ H := h
theorem g_pr1 {a b c : L2.St → Hp → Prop} {r : VK} (h : a σ H) : Ends.nx { nx := a, rt := r, bk := b, ct := c } σ H := h
theorem g_pr2 {a b c : L2.St → Hp → Prop} {r : VK} (h : r v H) : Ends.rt { nx := a, rt := r, bk := b, ct := c } v H := h
theorem g_next (h : D.nx σ H) : tNext D σ H := h
theorem g_set (h : te σ H fun x H1 => D.nx (σ.set n (some x)) H1) : tAsg te (gName n) D σ H := h
theorem g_ret (h : te σ H D.rt) : tRet te D σ H := h
theorem g_retN (h : D.rt .non H) : tRetN D σ H := h
theorem g_drop (h : te σ H fun _ H1 => D.nx σ H1) : tDrop te D σ H := h
theorem g_if (h : c σ H fun b H1 => if b = true then t D σ H1 else u D σ H1) : tIfS c t u D σ H := h
theorem g_var (e : σ[n]? = some (some v)) (h : Q v H) : tVar n σ H Q := ⟨v, e, h⟩
theorem g_c (h : Q v H) : tC v σ H Q := h
theorem g_op {r : R2} (h : ta σ H fun x H1 => tb σ H1 fun y H2 => r x y H2 Q) : tOp r ta tb σ H Q := h
theorem g_un {r : V → Hp → VK → Prop} (h : ta σ H fun x H1 => r x H1 Q) : tUn r ta σ H Q := h
theorem g_neg (h : Q (.int (-i)) H) : rU (fun i => .int (-i)) (.int i) H Q := ⟨i, rfl, h⟩
theorem g_test {R : Bool → Hp → Prop} (h : te σ H fun x H' => dBl x H' R) : tTest te σ H R := h
theorem g_tB {R : Bool → Hp → Prop} (h : te σ H fun x H' => dBl x H' R) : tB te σ H R := h
theorem g_bl {R : Bool → Hp → Prop} (h : R b H) : dBl (.bl b) H R := ⟨b, rfl, h⟩
theorem g_not {R : Bool → Hp → Prop} (h : c σ H fun k H1 => R (!k) H1) : tNot c σ H R := h
theorem g_and {R : Bool → Hp → Prop} (h : c σ H fun k H1 => if k = true then c2 σ H1 R else R false H1) : tAnd c c2 σ H R := h
theorem g_or {R : Bool → Hp → Prop} (h : c σ H fun k H1 => if k = true then R true H1 else c2 σ H1 R) : tOr c c2 σ H R := h
theorem g_andV (h : ta σ H fun x H1 => dBl x H1 fun k H1 => if k = true then tb σ H1 Q else Q (.bl false) H1) : tAndV ta tb σ H Q := h
theorem g_orV (h : ta σ H fun x H1 => dBl x H1 fun k H1 => if k = true then Q (.bl true) H1 else tb σ H1 Q) : tOrV ta tb σ H Q := h
theorem g_notV (h : ta σ H fun x H1 => dBl x H1 fun k H1 => Q (.bl (!k)) H1) : tNotV ta σ H Q := h
theorem g_ifE (h : c σ H fun k H1 => if k = true then ta σ H1 Q else tb σ H1 Q) : tIf c ta tb σ H Q := h
theorem g_add (h : Q (.int (i + j)) H) : nAdd (.int i) (.int j) H Q := ⟨i, j, rfl, rfl, h⟩
theorem g_sub (h : Q (.int (i - j)) H) : nSub (.int i) (.int j) H Q := ⟨i, j, rfl, rfl, h⟩
theorem g_mul (k : CMul i j) (h : Q (.int (i * j)) H) : nMul (.int i) (.int j) H Q := ⟨i, j, rfl, rfl, k, h⟩
theorem g_mod (k : 0 < j) (h : Q (.int (i % j)) H) : nMod (.int i) (.int j) H Q := ⟨i, j, rfl, rfl, k, h⟩
theorem g_div (k : 0 < j ∧ j < 2 ^ 64) (h : Q (.int (i / j)) H) : nDiv (.int i) (.int j) H Q := ⟨i, j, rfl, rfl, k, h⟩
theorem g_pow (k : CPow i j) (h : Q (.int (i ^ j.toNat)) H) : nPow (.int i) (.int j) H Q := ⟨i, j, rfl, rfl, k, h⟩
theorem g_lt (h : Q (.bl (decide (i < j))) H) : nLt (.int i) (.int j) H Q := ⟨i, j, rfl, rfl, h⟩
theorem g_le (h : Q (.bl (decide (i ≤ j))) H) : nLe (.int i) (.int j) H Q := ⟨i, j, rfl, rfl, h⟩
theorem g_gt (h : Q (.bl (decide (j < i))) H) : nGt (.int i) (.int j) H Q := ⟨i, j, rfl, rfl, h⟩
theorem g_ge (h : Q (.bl (decide (j ≤ i))) H) : nGe (.int i) (.int j) H Q := ⟨i, j, rfl, rfl, h⟩
theorem g_eqI (h : Q (.bl (decide (i = j))) H) : rEq (.int i) (.int j) H Q := ⟨rfl, by
  rw [show decide (V.int i = V.int j) = decide (i = j) by simp]
  exact h⟩
theorem g_neI (h : Q (.bl (!decide (i = j))) H) : rNe (.int i) (.int j) H Q := ⟨rfl, by
  rw [show decide (V.int i = V.int j) = decide (i = j) by simp]
  exact h⟩
theorem g_neB {a b : Bool} (h : Q (.bl (!decide (a = b))) H) : rNe (.bl a) (.bl b) H Q := ⟨rfl, by
  rw [show decide (V.bl a = V.bl b) = decide (a = b) by simp]
  exact h⟩
theorem g_isN (h : Q (.bl (decide (x = .non))) H) : nIsN x .non H Q := ⟨rfl, h⟩
theorem g_notN (h : Q (.bl (!decide (x = .non))) H) : nNotN x .non H Q := ⟨rfl, h⟩
theorem g_fld0 {f : Str} (h : ta σ H fun x H1 => dFld K f x H1 Q) : tFld K ta f σ H Q := h
theorem g_fld {f : Str} {a C dx : Addr} {fs : List (Str × V)} (ho : H a = some (.ins C dx fs)) (hc : Cls K C) (hn : NoAttr K C f) (hl : fs.lookup f = some v) (h : Q v H) : dFld K f (.ref a) H Q := ⟨a, C, dx, fs, v, rfl, ho, hc, hn, hl, h⟩
theorem g_get0 (h : ta σ H fun x H1 => tb σ H1 fun y H2 => dGet x y H2 Q) : tDGet ta tb σ H Q := h
theorem g_get {a : Addr} {kvs : List (Key × V)} (ho : H a = some (.dK kvs)) (e : valV kvs (Sum.inl i) = some v) (h : Q v H) : dGet (.ref a) (.int i) H Q :=
  ⟨a, v, rfl, e ▸ DGet.k (k := Sum.inl i) ho, h⟩
theorem g_in0 (h : ta σ H fun y H1 => tb σ H1 fun x H2 => dIn y x H2 Q) : tDIn ta tb σ H Q := h
theorem g_in {a : Addr} {kvs : List (Key × V)} (ho : H a = some (.dK kvs)) (h : Q (.bl (valV kvs (Sum.inl i)).isSome) H) : dIn (.int i) (.ref a) H Q :=
  ⟨a, _, rfl, DGet.k (k := Sum.inl i) ho, h⟩
theorem g_nin0 (h : ta σ H fun y H1 => tb σ H1 fun x H2 => dNotIn y x H2 Q) : tDNotIn ta tb σ H Q := h
theorem g_nin {a : Addr} {kvs : List (Key × V)} (ho : H a = some (.dK kvs)) (h : Q (.bl (!(valV kvs (Sum.inl i)).isSome)) H) : dNotIn (.int i) (.ref a) H Q :=
  ⟨a, _, rfl, DGet.k (k := Sum.inl i) ho, h⟩
theorem g_nil {R : List V → Hp → Prop} (h : R [] H) : tNil σ H R := h
theorem g_cons {R : List V → Hp → Prop} (h : ta σ H fun x H1 => tr σ H1 fun xs H2 => R (x :: xs) H2) : tCons ta tr σ H R := h
theorem g_call {sp : Sp} {E : XK} (h : tA σ H fun vs H1 => sp vs H1 Q E) : tCall sp [] E tA σ H Q := by
  unfold tCall
  simpa using h
def dMeth (C : Addr) (m : Str) (sp : Sp) (E : XK) (σ : L2.St) (t : TA) : V → Hp → VK → Prop := fun x H1 Q => ∃ a dx fs, x = .ref a ∧ H1 a = some (.ins C dx fs) ∧ fs.lookup m = none ∧ t σ H1 fun vs H2 => sp (x :: vs) H2 Q E
theorem g_meth0 {C : Addr} {m : Str} {sp : Sp} {E : XK} (h : ta σ H fun x H1 => dMeth C m sp E σ tA x H1 Q) : tMeth C m sp [] E ta tA σ H Q := by
  unfold tMeth
  unfold dMeth at h
  simpa using h
theorem g_meth {C a dx : Addr} {fs : List (Str × V)} {m : Str} {sp : Sp} {E : XK} (ho : H a = some (.ins C dx fs)) (hl : fs.lookup m = none) (h : tA σ H fun vs H2 => sp (.ref a :: vs) H2 Q E) : dMeth C m sp E σ tA (.ref a) H Q :=
  ⟨a, dx, fs, rfl, ho, hl, h⟩
theorem g_callB {r : List V → Hp → VK → Prop} (h : tA σ H fun vs H1 => r vs H1 Q) : tCB r tA σ H Q := h
theorem g_tup0 (h : tA σ H fun xs H1 => xs.length ≤ sizeLine ∧ ∀ p, H1 p = none → Q (.ref p) (upd H1 p (.tup xs))) : tTup tA σ H Q := h
theorem g_lst0 (h : tA σ H fun xs H1 => xs.length ≤ sizeLine ∧ ∀ p, H1 p = none → Q (.ref p) (upd H1 p (.lst xs))) : tLst tA σ H Q := h
theorem g_for {wi : TI} {g : TG} (h : wi σ H fun J H1 => ∃ W : Nat → Nat → L2.St → Hp → Prop, (∃ m, W 0 m σ H1) ∧ ∀ i m σ H, W i m σ H →
  (J.stop i H ∧ D.nx σ H) ∨ (J.go i H ∧ ∃ N : L2.St → Hp → Prop, (∀ σ' H', N σ' H' → ∃ m', m' < m ∧ W (i + 1) m' σ' H') ∧ ∀ x H', J.yld i H x H' → g x σ H' fun σ2 H2 => t { D with nx := N, ct := N, bk := D.nx } σ2 H2)) : tFor wi g t D σ H := h
theorem g_rng1 {R : It → Hp → Prop} (h : tA σ H fun vs H1 => dRng vs H1 R) : iRng1 tA σ H R := h
theorem g_rng {R : It → Hp → Prop} (h1 : -(2 ^ 62) ≤ i) (h2 : i < 2 ^ 62) (h : R (Itr 0 i.toNat) H) : dRng [.int i] H R := ⟨i, rfl, h1, h2, h⟩
theorem g_name (f : L2.St → Hp → Prop) (h : f (σ.set n (some v)) H) : gName n v σ H f := h
theorem g_ite {A B : Prop} (h1 : b = true → A) (h2 : b = false → B) : if b = true then A else B := by
  cases b with
  | true => exact iteT (h1 rfl)
  | false => exact iteF (h2 rfl)
theorem g_iteT {A B : Prop} (e : b = true) (h : A) : if b = true then A else B := by rw [if_pos e]; exact h
theorem g_iteF {A B : Prop} (e : b = false) (h : B) : if b = true then A else B := by rw [if_neg (by rw [e]; exact Bool.false_ne_true)]; exact h
theorem g_body {W : Nat → L2.St → Hp → Prop} {m : Nat} (h : t { D with nx := fun σ' H' => ∃ m', m' < m ∧ W m' σ' H', ct := fun σ' H' => ∃ m', m' < m ∧ W m' σ' H', bk := D.nx } σ H) :
    ∃ N : L2.St → Hp → Prop, (∀ σ' H', N σ' H' → ∃ m', m' < m ∧ W m' σ' H') ∧ t { D with nx := N, ct := N, bk := D.nx } σ H := ⟨_, fun _ _ z => z, h⟩
theorem g_while (W : Nat → L2.St → Hp → Prop) (m : Nat) (h0 : W m σ H) (hs : ∀ m σ H, W m σ H → c σ H fun b H1 => if b = true then ∃ N : L2.St → Hp → Prop, (∀ σ' H', N σ' H' → ∃ m', m' < m ∧ W m' σ' H') ∧ t { D with nx := N, ct := N, bk := D.nx } σ H1 else D.nx σ H1) : tWhile c t D σ H := ⟨W, ⟨m, h0⟩, hs⟩
theorem g_ixL {p : Addr} {xs : List V} (hs : SqL K H p xs) (e : atI xs i = some v) (h : Q v H) : rIxL K (.ref p) (.int i) H Q := ⟨p, xs, i, v, rfl, rfl, hs, e, h⟩
theorem g_ixT {p : Addr} {xs : List V} (hs : SqT K H p xs) (e : atI xs i = some v) (h : Q v H) : rIxT K (.ref p) (.int i) H Q := ⟨p, xs, i, v, rfl, rfl, hs, e, h⟩
def nLen (K : PySem.W.Frag) : List V → Hp → VK → Prop := fun xs H Q => ∃ p ys, xs = [.ref p] ∧ (SqL K H p ys ∨ SqT K H p ys) ∧ Q (.int ys.length) H
theorem c_len {X : Cx} : CallR X (.builtin "len") (nLen X.K) := call_len_seq
theorem g_lenL {p : Addr} {xs : List V} (hs : SqL K H p xs) (h : Q (.int xs.length) H) : nLen K [.ref p] H Q := ⟨p, xs, rfl, .inl hs, h⟩
theorem g_lenT {p : Addr} {xs : List V} (hs : SqT K H p xs) (h : Q (.int xs.length) H) : nLen K [.ref p] H Q := ⟨p, xs, rfl, .inr hs, h⟩
def nLenD : List V → Hp → VK → Prop := fun xs H Q => ∃ a kvs, xs = [V.ref a] ∧ H a = some (.dK kvs) ∧ Q (.int kvs.length) H
theorem c_lenD {X : Cx} : CallR X (.builtin "len") nLenD := call_lenD
theorem g_lenD {p : Addr} {kvs : List (Key × V)} (hs : H p = some (.dK kvs)) (h : Q (.int kvs.length) H) : nLenD [.ref p] H Q := ⟨p, kvs, rfl, hs, h⟩
def nMax2 : List V → Hp → VK → Prop := fun xs H Q => ∃ i j, xs = [.int i, .int j] ∧ Q (.int (if j > i then j else i)) H
def nMin2 : List V → Hp → VK → Prop := fun xs H Q => ∃ i j, xs = [.int i, .int j] ∧ Q (.int (if j < i then j else i)) H
theorem c_max2 {X : Cx} (hc : X.calm = true) : CallR X (.builtin "max") nMax2 := call_max2 hc
theorem c_min2 {X : Cx} (hc : X.calm = true) : CallR X (.builtin "min") nMin2 := call_min2 hc
theorem g_max2 (h : Q (.int (max i j)) H) : nMax2 [.int i, .int j] H Q := ⟨i, j, rfl, by
  rw [show (if j > i then j else i) = max i j by rw [Int.max_def]; split <;> split <;> omega]
  exact h⟩
theorem g_min2 (h : Q (.int (min i j)) H) : nMin2 [.int i, .int j] H Q := ⟨i, j, rfl, by
  rw [show (if j < i then j else i) = min i j by rw [Int.min_def]; split <;> split <;> omega]
  exact h⟩
end
theorem g_isi {K : PySem.W.Frag} {H : Hp} {Q : VK} {x c : V} {t u : Value} {b : Bool} (ty : TyX K H x t) (cl : ClsV c u) (e : PySem.W.kitOne K t u = some b) (h : Q (.bl b) H) : rIsi K [x, c] H Q := ⟨x, c, t, u, b, rfl, cl, ty, e, h⟩
theorem pow_pos' {w : Int} (h : 0 < w) (n : Nat) : 0 < w ^ n := Int.pow_pos h
theorem atI_c0 {xs : List V} {v : V} (h : xs[0]? = some v) : atI xs 0 = some v := atI_nat (j := 0) h
theorem atI_c1 {xs : List V} {v : V} (h : xs[1]? = some v) : atI xs 1 = some v := atI_nat (j := 1) h
theorem atI_c2 {xs : List V} {v : V} (h : xs[2]? = some v) : atI xs 2 = some v := atI_nat (j := 2) h
/-- the cell at k of the script, or nought -/
def cellAt (ns : List Int) (k : Int) : Int := if k < 0 then 0 else ns.getD k.toNat 0
end Lk

namespace Lk
open PySem PySem.Spec PyProof.Rows L2
def top (i : Nat) : Stmt := PySem.Challenge.pw_skipladder_k01_a_block.main.body.getD i (.Pass ⟨0, 0, 0, 0⟩)
abbrev s_power : Stmt := top 1
abbrev N_power : List Str := ["width", "level", "found", "turn"]
theorem sc_power : FnScope N_power ["width", "level"] (defScope s_power) := ⟨rfl, rfl, rfl, by decide +kernel, rfl, by decide +kernel, by decide +kernel⟩
abbrev s_block : Stmt := top 2
abbrev N_block : List Str := ["width", "level", "number"]
theorem sc_block : FnScope N_block ["width", "level", "number"] (defScope s_block) := ⟨rfl, rfl, rfl, by decide +kernel, rfl, by decide +kernel, by decide +kernel⟩
abbrev s__law_cell_at : Stmt := top 5
abbrev N__law_cell_at : List Str := ["_law_script", "_law_k"]
theorem sc__law_cell_at : FnScope N__law_cell_at ["_law_script", "_law_k"] (defScope s__law_cell_at) := ⟨rfl, rfl, rfl, by decide +kernel, rfl, by decide +kernel, by decide +kernel⟩
abbrev s__law_whole : Stmt := top 4
abbrev N__law_whole : List Str := ["_law_found"]
theorem sc__law_whole : FnScope N__law_whole ["_law_found"] (defScope s__law_whole) := ⟨rfl, rfl, rfl, by decide +kernel, rfl, by decide +kernel, by decide +kernel⟩
abbrev s_law : Stmt := top 6
abbrev N_law : List Str := ["_law_script", "_law_width", "_law_level", "_law_size", "_law_turn", "_law_number", "_law_told", "_law_found"]
theorem sc_law : FnScope N_law ["_law_script"] (defScope s_law) := ⟨rfl, rfl, rfl, by decide +kernel, rfl, by decide +kernel, by decide +kernel⟩
structure Ads where
  power : Addr
  block : Addr
  _law_cell_at : Addr
  _law_whole : Addr
  law : Addr
/-- what the top has written -/
structure Txt (K : PySem.W.Frag) (mg : Str → Option Value) (A : Ads) : Prop where
  f_power : ∃ fd, Fun K "power" "power" s_power A.power fd
  g_power : mg "power" = some (.ref A.power)
  k_power : PySem.W.keepIn K (.ref A.power) = true
  f_block : ∃ fd, Fun K "block" "block" s_block A.block fd
  g_block : mg "block" = some (.ref A.block)
  k_block : PySem.W.keepIn K (.ref A.block) = true
  f__law_cell_at : ∃ fd, Fun K "_law_cell_at" "_law_cell_at" s__law_cell_at A._law_cell_at fd
  g__law_cell_at : mg "_law_cell_at" = some (.ref A._law_cell_at)
  k__law_cell_at : PySem.W.keepIn K (.ref A._law_cell_at) = true
  f__law_whole : ∃ fd, Fun K "_law_whole" "_law_whole" s__law_whole A._law_whole fd
  g__law_whole : mg "_law_whole" = some (.ref A._law_whole)
  k__law_whole : PySem.W.keepIn K (.ref A._law_whole) = true
  f_law : ∃ fd, Fun K "law" "law" s_law A.law fd
  g_law : mg "law" = some (.ref A.law)
  k_law : PySem.W.keepIn K (.ref A.law) = true
  z_bool : mg "bool" = none
  z_int : mg "int" = none
  z_isinstance : mg "isinstance" = none
  z_len : mg "len" = none
  z_max : mg "max" = none
  z_range : mg "range" = none
section
variable {K : PySem.W.Frag} {mg : Str → Option Value} {A : Ads}
theorem b_power : ∀ fd, Fun K "power" "power" s_power A.power fd → Binds K fd ["width", "level"] [] := fun _ F => F.binds fun _ _ _ _ _ _ us hl => match us, hl with | [_, _], _ => rfl
theorem b_block : ∀ fd, Fun K "block" "block" s_block A.block fd → Binds K fd ["width", "level", "number"] [] := fun _ F => F.binds fun _ _ _ _ _ _ us hl => match us, hl with | [_, _, _], _ => rfl
theorem b__law_cell_at : ∀ fd, Fun K "_law_cell_at" "_law_cell_at" s__law_cell_at A._law_cell_at fd → Binds K fd ["_law_script", "_law_k"] [] := fun _ F => F.binds fun _ _ _ _ _ _ us hl => match us, hl with | [_, _], _ => rfl
theorem b__law_whole : ∀ fd, Fun K "_law_whole" "_law_whole" s__law_whole A._law_whole fd → Binds K fd ["_law_found"] [] := fun _ F => F.binds fun _ _ _ _ _ _ us hl => match us, hl with | [_], _ => rfl
theorem b_law : ∀ fd, Fun K "law" "law" s_law A.law fd → Binds K fd ["_law_script"] [] := fun _ F => F.binds fun _ _ _ _ _ _ us hl => match us, hl with | [_], _ => rfl
end
end Lk
local macro_rules | `(tactic| walk_at "go1") => `(tactic| first
  | with_reducible refine Lk.g_pr1 ?_
  | with_reducible refine Lk.g_pr2 ?_
  | with_reducible refine Lk.g_seq ?_
  | with_reducible refine Lk.g_set ?_
  | with_reducible refine Lk.g_if ?_
  | with_reducible refine Lk.g_ret ?_
  | with_reducible refine Lk.g_drop ?_
  | with_reducible refine Lk.g_next ?_
  | ((with_reducible refine Lk.g_var (v := ?v) ?e ?_); (case e => rfl))
  | with_reducible refine Lk.g_c ?_
  | with_reducible refine Lk.g_op ?_
  | with_reducible refine Lk.g_test ?_
  | with_reducible refine Lk.g_bl ?_
  | with_reducible refine Lk.g_tB ?_
  | with_reducible refine Lk.g_add ?_
  | with_reducible refine Lk.g_sub ?_
  | ((with_reducible refine Lk.g_mod ?_ ?_); first | decide | omega | assumption)
  | ((with_reducible refine Lk.g_div ?_ ?_); first | decide | omega | assumption)
  | with_reducible refine Lk.g_lt ?_
  | with_reducible refine Lk.g_le ?_
  | with_reducible refine Lk.g_gt ?_
  | with_reducible refine Lk.g_ge ?_
  | with_reducible refine Lk.g_eqI ?_
  | with_reducible refine Lk.g_neI ?_
  | with_reducible refine Lk.g_neB ?_
  | with_reducible refine Lk.g_isN ?_
  | with_reducible refine Lk.g_notN ?_
  | with_reducible refine Lk.g_cons ?_
  | with_reducible refine Lk.g_nil ?_
  | with_reducible refine Lk.g_call ?_
  | with_reducible refine Lk.g_callB ?_
  | with_reducible refine Lk.g_not ?_
  | with_reducible refine Lk.g_and ?_
  | with_reducible refine Lk.g_or ?_
  | with_reducible refine Lk.g_andV ?_
  | with_reducible refine Lk.g_orV ?_
  | with_reducible refine Lk.g_notV ?_
  | with_reducible refine Lk.g_ifE ?_
  | with_reducible refine Lk.g_max2 ?_
  | with_reducible refine Lk.g_min2 ?_
  | with_reducible refine Lk.g_for ?_
  | with_reducible refine Lk.g_rng1 ?_
  | with_reducible refine Lk.g_name _ ?_
  | with_reducible refine Lk.g_un ?_
  | with_reducible refine Lk.g_neg ?_
  | with_reducible refine Lk.g_retN ?_)
local macro_rules | `(tactic| walk_at "go") => `(tactic| repeat walk_at "go1")

namespace Lk
open PySem PySem.Spec PyProof.Rows L2
section
variable {P : Program} {w : World} {K : PySem.W.Frag} {mg : Str → Option Value} {base : Heap} {A : Ads}
def sp_power : Sp := fun vs H Q _ => ∃ (w : Int) (l : Nat), vs = [.int w, .int (l : Int)] ∧ 2 ≤ w ∧ w ≤ 9 ∧ l ≤ 12 ∧ Q (.int (w ^ l)) H
theorem ok_power (T : Txt K mg A) : FO P w K mg base 2 A.power ["width", "level"] sp_power := by
  have S := sc_power
  refine FO.mk' T.f_power S b_power (fun vs H Q E h => by obtain ⟨_, _, rfl, _⟩ := h; rfl) (fun cdv Ar outer s H vs Q E hr h => ?_)
  have hu := hu_of hr
  obtain ⟨wd, l, rfl, h1, h2, h3, k⟩ := h
  refine ⟨_, (pss_cons (ps_set (i := 2) S.nd rfl (Or.inl rfl) pe_int)
  (pss_cons (ps_for (passes_of rfl) rfl (pi_range1 rfl T.z_range (pa_cons (pv 1) pa_nil)) (pg_name (i := 3) S.nd rfl (Or.inl rfl))
    (pss_one (ps_set (i := 2) S.nd rfl (Or.inl rfl) (pe_op o_mul (pv 2) (pv 0)))))
  (pss_one (ps_ret (pv 2))))), ?_⟩
  walk_at "go"
  refine g_rng (by omega) (by omega) ?_
  refine for_range (lo := 0) (fun i σ H' => H' = H ∧ ∃ v, σ = [some (.int wd), some (.int (l : Int)), some (.int (wd ^ i)), v]) ⟨rfl, none, by rw [Int.pow_zero]; rfl⟩ ?_ ?_
  · rintro i σ H' hi ⟨rfl, v, rfl⟩
    walk_at "go"
    refine g_mul (.inr (by omega)) ?_
    walk_at "go"
    exact ⟨rfl, _, by rw [Int.pow_succ]; rfl⟩
  · rintro σ H' ⟨rfl, v, rfl⟩
    walk_at "go"
    exact k

def sp_block : Sp := fun vs H Q _ => ∃ (w : Int) (l : Nat) (n : Int), vs = [.int w, .int (l : Int), .int n] ∧ 2 ≤ w ∧ w ≤ 9 ∧ l ≤ 12 ∧ Q (.int (n / w ^ l)) H
theorem pow_bound {w : Int} {l : Nat} (h1 : 2 ≤ w) (h2 : w ≤ 9) (h3 : l ≤ 12) : 0 < w ^ l ∧ w ^ l ≤ 282429536481 := by
  refine ⟨Int.pow_pos (by omega), ?_⟩
  obtain ⟨m, rfl⟩ : ∃ m : Nat, w = (m : Int) := ⟨w.toNat, by omega⟩
  have a : m ^ l ≤ 9 ^ l := Nat.pow_le_pow_left (by omega) l
  have b : 9 ^ l ≤ 9 ^ 12 := Nat.pow_le_pow_right (by decide) h3
  have c : 9 ^ 12 = 282429536481 := by decide
  rw [← Int.natCast_pow]
  omega
theorem ok_block (T : Txt K mg A) : FO P w K mg base 3 A.block ["width", "level", "number"] sp_block := by
  obtain ⟨fd_power, G_power, B_power⟩ := ok_power (P := P) (w := w) (base := base) T
  have S := sc_block
  refine FO.mk' T.f_block S b_block (fun vs H Q E h => by obtain ⟨_, _, _, rfl, _⟩ := h; rfl) (fun cdv Ar outer s H vs Q E hr h => ?_)
  have hu := hu_of hr
  obtain ⟨wd, l, n, rfl, h1, h2, h3, k⟩ := h
  refine ⟨_, (pss_one (ps_ret (pe_op o_div (pv 2) (pe_call G_power (hr.mono (by decide)) rfl T.g_power T.k_power B_power .nil passL (pa_cons (pv 0) (pa_cons (pv 1) pa_nil)))))), ?_⟩
  walk_at "go"
  refine ⟨wd, l, rfl, h1, h2, h3, ?_⟩
  have hp := pow_bound h1 h2 h3
  walk_at "go"
  exact k

def sp__law_cell_at (K : PySem.W.Frag) : Sp := fun vs H Q _ => ∃ (a : Addr) (k : Nat) (ns : List Int), vs = [.ref a, .int (k : Int)] ∧ SqL K H a (ns.map V.int) ∧ Q (.int (ns.getD k 0)) H
theorem ok__law_cell_at (T : Txt K mg A) : FO P w K mg base 2 A._law_cell_at ["_law_script", "_law_k"] (sp__law_cell_at K) := by
  have S := sc__law_cell_at
  refine FO.mk' T.f__law_cell_at S b__law_cell_at (fun vs H Q E h => by obtain ⟨_, _, _, rfl, _⟩ := h; rfl) (fun cdv Ar outer s H vs Q E hr h => ?_)
  have hu := hu_of hr
  obtain ⟨a, k, ns, rfl, hs, q⟩ := h
  refine ⟨_, (pss_cons (ps_if (pt_cmpR o_lt (pv 1) (pe_callB c_len (by rfl) T.z_len PySem.boot_len (pa_cons (pv 0) pa_nil)) (nomark _))
    (pss_one (ps_ret (pe_ix ix_list (pv 0) (pv 1) (fun _ _ => rfl))))
    pss_nil)
  (pss_one (ps_ret pe_int))), ?_⟩
  walk_at "go"
  refine g_lenL hs ?_
  walk_at "go"
  refine g_ite (fun e => ?_) (fun e => ?_)
  · have e' : k < ns.length := by
      have := of_decide_eq_true e
      rw [List.length_map] at this
      omega
    walk_at "go"
    refine g_ixL hs (atI_nat (j := k) (v := .int (ns.getD k 0)) ?_) ?_
    · rw [List.getElem?_map, List.getElem?_eq_getElem e', List.getD_eq_getElem?_getD, List.getElem?_eq_getElem e']
      rfl
    · walk_at "go"
      exact q
  · have e' : ¬ k < ns.length := fun z => by
      have := of_decide_eq_false e
      rw [List.length_map] at this
      omega
    walk_at "go"
    have e2 : ns.getD k 0 = 0 := by
      rw [List.getD_eq_getElem?_getD, List.getElem?_eq_none (by omega)]
      rfl
    rw [e2] at q
    exact q

def sp__law_whole : Sp := fun vs H Q _ => ∃ i : Int, vs = [.int i] ∧ Q (.bl true) H
theorem ok__law_whole (T : Txt K mg A) : FO P w K mg base 2 A._law_whole ["_law_found"] sp__law_whole := by
  have S := sc__law_whole
  refine FO.mk' T.f__law_whole S b__law_whole (fun vs H Q E h => by obtain ⟨_, rfl, _⟩ := h; rfl) (fun cdv Ar outer s H vs Q E hr h => ?_)
  have hu := hu_of hr
  obtain ⟨i, rfl, q⟩ := h
  refine ⟨_, (pss_one (ps_ret (pe_and (pe_callB call_isi (by rfl) T.z_isinstance PyProof.Rows.boot_isinstance (pa_cons (pv 0) (pa_cons (pe_bltn (v := .ty "int") rfl T.z_int PyProof.Rows.boot_int rfl) pa_nil))) (pe_one (pe_not (pe_callB call_isi (by rfl) T.z_isinstance PyProof.Rows.boot_isinstance (pa_cons (pv 0) (pa_cons (pe_bltn (v := .ty "bool") rfl T.z_bool PyProof.Rows.boot_bool rfl) pa_nil)))))))), ?_⟩
  walk_at "go"
  refine g_isi (.base (.int i)) (.ty _) (kit_ty (r := true) (by decide +kernel)) ?_
  walk_at "go"
  refine g_iteT rfl ?_
  walk_at "go"
  refine g_isi (.base (.int i)) (.ty _) (kit_ty (r := false) (by decide +kernel)) ?_
  walk_at "go"
  exact q

end
end Lk

namespace Lk
open PySem PySem.Spec PyProof.Rows L2
def spLaw (K : PySem.W.Frag) : Sp := fun vs H Q _ => ∃ (a : Addr) (ns : List Int), vs = [.ref a] ∧ SqL K H a (ns.map V.int) ∧ ns.length ≤ 63 ∧ ∀ H', Q (.bl true) H'
section
variable {P : Program} {w : World} {K : PySem.W.Frag} {mg : Str → Option Value} {base : Heap} {A : Ads}
theorem law_k01 {z n : Int} (h : 0 < z) : (n / z) * z ≤ n ∧ n < (n / z + 1) * z := by
  have a := Int.emod_add_mul_ediv n z
  have b := Int.emod_nonneg n (Int.ne_of_gt h)
  have c := Int.emod_lt_of_pos n h
  rw [Int.add_mul, Int.mul_comm (n / z) z]
  omega
theorem ok_law {f : Addr} {fd : FuncData} (F : Fun K "law" "law" s_law f fd) (T : Txt K mg A) : FnOk P w K mg base CX0 4 f fd ["_law_script"] (spLaw K) := by
  obtain ⟨fd_power, G_power, B_power⟩ := ok_power (P := P) (w := w) (base := base) T
  obtain ⟨fd_block, G_block, B_block⟩ := ok_block (P := P) (w := w) (base := base) T
  obtain ⟨fd__law_cell_at, G__law_cell_at, B__law_cell_at⟩ := ok__law_cell_at (P := P) (w := w) (base := base) T
  obtain ⟨fd__law_whole, G__law_whole, B__law_whole⟩ := ok__law_whole (P := P) (w := w) (base := base) T
  have S := sc_law
  refine F.ok S (fun vs H Q E h => by obtain ⟨_, _, rfl, _⟩ := h; rfl) (fun cdv Ar outer s H vs Q E hr h => ?_)
  obtain ⟨a, ns, rfl, hS, hlen, k⟩ := h
  refine ⟨_, (pss_cons (ps_set (i := 1) S.nd rfl (Or.inl rfl) (pe_op o_add pe_int (pe_op o_mod (pe_call G__law_cell_at (hr.mono (by decide)) rfl T.g__law_cell_at T.k__law_cell_at B__law_cell_at .nil passL (pa_cons (pv 0) (pa_cons pe_int pa_nil))) pe_int)))
  (pss_cons (ps_set (i := 2) S.nd rfl (Or.inl rfl) (pe_op o_mod (pe_call G__law_cell_at (hr.mono (by decide)) rfl T.g__law_cell_at T.k__law_cell_at B__law_cell_at .nil passL (pa_cons (pv 0) (pa_cons pe_int pa_nil))) pe_int))
  (pss_cons (ps_set (i := 3) S.nd rfl (Or.inl rfl) pe_int)
  (pss_cons (ps_for PassesOwn.never rfl (pi_range1 rfl T.z_range (pa_cons (pv 2) pa_nil)) (pg_name (i := 4) S.nd rfl (Or.inl rfl))
    (pss_one (ps_set (i := 3) S.nd rfl (Or.inl rfl) (pe_op o_mul (pv 3) (pv 1)))))
  (pss_cons (ps_set (i := 5) S.nd rfl (Or.inl rfl) (pe_op o_mod (pe_call G__law_cell_at (hr.mono (by decide)) rfl T.g__law_cell_at T.k__law_cell_at B__law_cell_at .nil passL (pa_cons (pv 0) (pa_cons pe_int pa_nil))) (pe_op o_pow pe_int pe_int)))
  (pss_consC (ps_if (pt_cmpR op_eq (pe_op o_mod (pe_call G__law_cell_at (hr.mono (by decide)) rfl T.g__law_cell_at T.k__law_cell_at B__law_cell_at .nil passL (pa_cons (pv 0) (pa_cons pe_int pa_nil))) pe_int) pe_int (nomark _))
    (pss_one (ps_set (i := 5) S.nd rfl (Or.inl rfl) (pe_callB (c_max2 rfl) (by rfl) T.z_max (by decide +kernel) (pa_cons pe_int (pa_cons (pe_op o_sub (pe_op o_add (pe_op o_mul (pe_op o_mod (pe_call G__law_cell_at (hr.mono (by decide)) rfl T.g__law_cell_at T.k__law_cell_at B__law_cell_at .nil passL (pa_cons (pv 0) (pa_cons pe_int pa_nil))) (pe_op o_pow pe_int pe_int)) (pv 3)) (pe_op o_mod (pe_op o_div (pe_call G__law_cell_at (hr.mono (by decide)) rfl T.g__law_cell_at T.k__law_cell_at B__law_cell_at .nil passL (pa_cons (pv 0) (pa_cons pe_int pa_nil))) pe_int) pe_int)) pe_int) pa_nil)))))
    pss_nil)
  (pss_cons (ps_set (i := 6) S.nd rfl (Or.inl rfl) (pe_call G_power (hr.mono (by decide)) rfl T.g_power T.k_power B_power .nil passL (pa_cons (pv 1) (pa_cons (pv 2) pa_nil))))
  (pss_cons (ps_set (i := 7) S.nd rfl (Or.inl rfl) (pe_call G_block (hr.mono (by decide)) rfl T.g_block T.k_block B_block .nil passL (pa_cons (pv 1) (pa_cons (pv 2) (pa_cons (pv 5) pa_nil)))))
  (pss_cons (ps_if (PW.pt (pw_or (pt_not (pt_val (pe_call G__law_whole (hr.mono (by decide)) rfl T.g__law_whole T.k__law_whole B__law_whole .nil passL (pa_cons (pv 6) pa_nil)))) (pw_or (pt_cmpR op_ne (pv 6) (pv 3) (nomark _)) (pw_or1 (pt_not (pt_val (pe_call G__law_whole (hr.mono (by decide)) rfl T.g__law_whole T.k__law_whole B__law_whole .nil passL (pa_cons (pv 7) pa_nil))))))))
    (pss_one (ps_ret pe_bl))
    pss_nil)
  (pss_one (ps_ret (pe_and (pe_cmpR o_le (pe_op o_mul (pv 7) (pv 3)) (pv 5) (nomark _)) (pe_one (pe_cmpR o_lt (pv 5) (pe_op o_mul (pe_op o_add (pv 7) pe_int) (pv 3)) (nomark _))))))))))))))), ?_⟩
  have cell : ∀ {H' : Hp} {Q : VK} {E : XK} (j : Nat), SqL K H' a (ns.map V.int) → Q (.int (ns.getD j 0)) H' → sp__law_cell_at K [.ref a, .int (j : Int)] H' Q E := fun j hs q => ⟨a, j, ns, rfl, hs, q⟩
  walk_at "go"
  refine cell 0 hS ?_
  walk_at "go"
  refine cell 1 hS ?_
  walk_at "go"
  generalize ew : 2 + ns.getD 0 0 % 8 = wd
  generalize el : ns.getD 1 0 % 13 = lv
  obtain ⟨l, rfl⟩ : ∃ l : Nat, lv = (l : Int) := ⟨lv.toNat, by omega⟩
  have w1 : 2 ≤ wd := by omega
  have w2 : wd ≤ 9 := by omega
  have l1 : l ≤ 12 := by omega
  have hp := pow_bound w1 w2 l1
  refine g_rng (by omega) (by omega) ?_
  refine for_range (lo := 0) (fun i σ H' => H' = H ∧ ∃ v, σ = [some (.ref a), some (.int wd), some (.int (l : Int)), some (.int (wd ^ i)), v, none, none, none]) ⟨rfl, none, by rw [Int.pow_zero]; rfl⟩ ?_ ?_
  · rintro i σ H' hi ⟨rfl, v, rfl⟩
    walk_at "go"
    refine g_mul (.inr (by omega)) ?_
    walk_at "go"
    exact ⟨rfl, _, by rw [Int.pow_succ]; rfl⟩
  · rintro σ H' ⟨rfl, v, rfl⟩
    walk_at "go"
    refine cell 2 hS ?_
    walk_at "go"
    refine g_pow ⟨by decide, by decide, by decide⟩ ?_
    refine g_mod (by decide) ?_
    walk_at "go"
    refine g_cut (fun σ' H2 => H2 = H' ∧ ∃ n : Int, σ' = [some (.ref a), some (.int wd), some (.int (l : Int)), some (.int (wd ^ l)), v, some (.int n), none, none]) (fun N hN => ?_) ?_
    · walk_at "go"
      refine cell 3 hS ?_
      walk_at "go"
      refine g_ite (fun _ => ?_) (fun _ => ?_)
      · walk_at "go"
        refine cell 2 hS ?_
        walk_at "go"
        refine g_pow ⟨by decide, by decide, by decide⟩ ?_
        refine g_mod (by decide) ?_
        walk_at "go"
        refine g_mul (.inr ?_) ?_
        · show -(2 ^ 64) < wd ^ l ∧ wd ^ l < 2 ^ 64
          omega
        walk_at "go"
        refine cell 3 hS ?_
        walk_at "go"
        exact hN _ _ ⟨rfl, _, rfl⟩
      · walk_at "go"
        exact hN _ _ ⟨rfl, _, rfl⟩
    · rintro σ H2 ⟨rfl, n, rfl⟩
      walk_at "go"
      refine ⟨wd, l, rfl, w1, w2, l1, ?_⟩
      walk_at "go"
      refine ⟨wd, l, n, rfl, w1, w2, l1, ?_⟩
      walk_at "go"
      refine ⟨_, rfl, ?_⟩
      walk_at "go"
      refine g_iteF rfl ?_
      walk_at "go"
      refine g_iteF (by simp) ?_
      walk_at "go"
      refine ⟨_, rfl, ?_⟩
      walk_at "go"
      refine g_iteF rfl ?_
      walk_at "go"
      obtain ⟨q1, q2⟩ := law_k01 (n := n) hp.1
      refine g_mul (.inr (by omega)) ?_
      walk_at "go"
      refine g_iteT (decide_eq_true q1) ?_
      walk_at "go"
      refine g_mul (.inr (by omega)) ?_
      walk_at "go"
      rw [decide_eq_true q2]
      exact k _
end
end Lk
namespace Lk
open PySem PySem.Spec PyProof.Rows L2
theorem all_mk {l : PySem.W.OpenLaw} {w : World} {K : PySem.W.Frag} {h : Heap} {mg : Str → Option Value} {fa f_power f_block f__law_cell_at f__law_whole f_law : Addr} (X : K.In h) (G : h.Ns mainGlobals mg) (hfa : mg "law" = some (.ref fa))
    {od0 an0 : Option Addr} {sl0 : Array (Option Value)} {oc0 kV0 dc0 pm0 cd0 ct0 : Value} {od1 an1 : Option Addr} {sl1 : Array (Option Value)} {oc1 kV1 dc1 pm1 cd1 ct1 : Value} {od2 an2 : Option Addr} {sl2 : Array (Option Value)} {oc2 kV2 dc2 pm2 cd2 ct2 : Value} {od3 an3 : Option Addr} {sl3 : Array (Option Value)} {oc3 kV3 dc3 pm3 cd3 ct3 : Value} {od4 an4 : Option Addr} {sl4 : Array (Option Value)} {oc4 kV4 dc4 pm4 cd4 ct4 : Value}
    (a0 : PySem.W.nsIn K mainGlobals "power" = some (some (.ref f_power)))
    (l0 : K.lookup f_power = some ⟨oc0, od0, .func (PySem.W.fnOf "power" "power" (defArgs s_power) (defBody s_power) (defScope s_power) .none kV0 dc0 pm0 an0 cd0 ct0), sl0⟩)
    (c0 : PySem.W.codeIn K cd0 "power" = true)
    (k0 : PySem.W.keepIn K (.ref f_power) = true)
    (a1 : PySem.W.nsIn K mainGlobals "block" = some (some (.ref f_block)))
    (l1 : K.lookup f_block = some ⟨oc1, od1, .func (PySem.W.fnOf "block" "block" (defArgs s_block) (defBody s_block) (defScope s_block) .none kV1 dc1 pm1 an1 cd1 ct1), sl1⟩)
    (c1 : PySem.W.codeIn K cd1 "block" = true)
    (k1 : PySem.W.keepIn K (.ref f_block) = true)
    (a2 : PySem.W.nsIn K mainGlobals "_law_cell_at" = some (some (.ref f__law_cell_at)))
    (l2 : K.lookup f__law_cell_at = some ⟨oc2, od2, .func (PySem.W.fnOf "_law_cell_at" "_law_cell_at" (defArgs s__law_cell_at) (defBody s__law_cell_at) (defScope s__law_cell_at) .none kV2 dc2 pm2 an2 cd2 ct2), sl2⟩)
    (c2 : PySem.W.codeIn K cd2 "_law_cell_at" = true)
    (k2 : PySem.W.keepIn K (.ref f__law_cell_at) = true)
    (a3 : PySem.W.nsIn K mainGlobals "_law_whole" = some (some (.ref f__law_whole)))
    (l3 : K.lookup f__law_whole = some ⟨oc3, od3, .func (PySem.W.fnOf "_law_whole" "_law_whole" (defArgs s__law_whole) (defBody s__law_whole) (defScope s__law_whole) .none kV3 dc3 pm3 an3 cd3 ct3), sl3⟩)
    (c3 : PySem.W.codeIn K cd3 "_law_whole" = true)
    (k3 : PySem.W.keepIn K (.ref f__law_whole) = true)
    (a4 : PySem.W.nsIn K mainGlobals "law" = some (some (.ref f_law)))
    (l4 : K.lookup f_law = some ⟨oc4, od4, .func (PySem.W.fnOf "law" "law" (defArgs s_law) (defBody s_law) (defScope s_law) .none kV4 dc4 pm4 an4 cd4 ct4), sl4⟩)
    (c4 : PySem.W.codeIn K cd4 "law" = true)
    (k4 : PySem.W.keepIn K (.ref f_law) = true)
    (z_bool : PySem.W.nsIn K mainGlobals "bool" = some none)
    (z_int : PySem.W.nsIn K mainGlobals "int" = some none)
    (z_isinstance : PySem.W.nsIn K mainGlobals "isinstance" = some none)
    (z_len : PySem.W.nsIn K mainGlobals "len" = some none)
    (z_max : PySem.W.nsIn K mainGlobals "max" = some none)
    (z_range : PySem.W.nsIn K mainGlobals "range" = some none)
    : ∃ fd : FuncData, (∀ (s : Shared) (v : Value), BindsTo s fd ⟨[v], []⟩ [("_law_script", v)]) ∧ ∀ base : Heap, K.In base → base.Ns mainGlobals mg → FnOk l.prog w K mg base CX0 4 fa fd ["_law_script"] (spLaw K) := by
  have e := hfa.symm.trans (PySem.W.mg_of X G a4)
  cases e
  have T : Txt K mg { power := f_power, block := f_block, _law_cell_at := f__law_cell_at, _law_whole := f__law_whole, law := fa } :=
    { f_power := ⟨_, fun_mk (st := s_power) l0 c0 k0⟩,
      g_power := PySem.W.mg_of X G a0,
      k_power := k0,
      f_block := ⟨_, fun_mk (st := s_block) l1 c1 k1⟩,
      g_block := PySem.W.mg_of X G a1,
      k_block := k1,
      f__law_cell_at := ⟨_, fun_mk (st := s__law_cell_at) l2 c2 k2⟩,
      g__law_cell_at := PySem.W.mg_of X G a2,
      k__law_cell_at := k2,
      f__law_whole := ⟨_, fun_mk (st := s__law_whole) l3 c3 k3⟩,
      g__law_whole := PySem.W.mg_of X G a3,
      k__law_whole := k3,
      f_law := ⟨_, fun_mk (st := s_law) l4 c4 k4⟩,
      g_law := PySem.W.mg_of X G a4,
      k_law := k4,
      z_bool := PySem.W.mg_none_of X G z_bool,
      z_int := PySem.W.mg_none_of X G z_int,
      z_isinstance := PySem.W.mg_none_of X G z_isinstance,
      z_len := PySem.W.mg_none_of X G z_len,
      z_max := PySem.W.mg_none_of X G z_max,
      z_range := PySem.W.mg_none_of X G z_range }
  exact ⟨_, fun s v => .of_eq rfl, fun base _ _ => ok_law (fun_mk (st := s_law) l4 c4 k4) T⟩
theorem walk {l : PySem.W.OpenLaw} {q : Program} {loose : List Str} {XP : (Str → Option Value) → Heap → Prop} {YP : World → Heap → Prop} {d : DefRec} {K : Params → PySem.W.Frag} (hn : l.most = some 63) (hdf : d.params.defaults = [])
    (hY : ∀ (w : World) (h : Heap), YP w h → (K w.params).In h)
    (F : ∀ (w : World) (mg : Str → Option Value) (fa : Addr) (h : Heap), (K w.params).In h → h.Ns mainGlobals mg → mg d.name = some (.ref fa) →
      ∃ fd : FuncData, (∀ (s : Shared) (u : Value), BindsTo s fd ⟨[u], []⟩ [("_law_script", u)]) ∧ ∀ base : Heap, (K w.params).In base → base.Ns mainGlobals mg → FnOk l.prog w (K w.params) mg base CX0 4 fa fd ["_law_script"] (spLaw (K w.params))) :
    PySem.W.WalkO q loose XP YP l.row.toRowW d [] (fun f vs => PySem.call f vs) :=
  L2.walk_of (n := 63) (k := 4) (x := "_law_script") (CX := fun _ => CX0) (sp := fun w => spLaw (K w.params)) hn (by decide) hdf ⟨rfl, by decide, by decide⟩ hY F (fun _ _ a ns hl _ hS => ⟨a, ns, rfl, hS, hl, fun _ => rfl⟩) fun _ _ _ _ _ z => z
end Lk
open PySem PySem.W PyProof.Rows
set_option maxRecDepth 100000 in
set_option maxHeartbeats 0 in
theorem PySem.Challenge.cw_skipladder_k01_a_block_holds : PySem.Challenge.rw_skipladder_k01_a_block.Holds := by
  w_on; o_law; k_head; (case hw => w_witness2)
  k_fill
  refine Lk.walk (l := PySem.Challenge.rw_skipladder_k01_a_block) rfl rfl (fun w h Y => PySem.W.kIn_of Y) ?F
  case F =>
    intro w mg fa h KX G hmg
    refine' Lk.all_mk KX G hmg ?a0 ?l0 ?c0 ?k0 ?a1 ?l1 ?c1 ?k1 ?a2 ?l2 ?c2 ?k2 ?a3 ?l3 ?c3 ?k3 ?a4 ?l4 ?c4 ?k4 ?z_bool ?z_int ?z_isinstance ?z_len ?z_max ?z_range
    (case a0 => k_is)
    (case l0 => k_is)
    (case c0 => k_is)
    (case k0 => k_is)
    (case a1 => k_is)
    (case l1 => k_is)
    (case c1 => k_is)
    (case k1 => k_is)
    (case a2 => k_is)
    (case l2 => k_is)
    (case c2 => k_is)
    (case k2 => k_is)
    (case a3 => k_is)
    (case l3 => k_is)
    (case c3 => k_is)
    (case k3 => k_is)
    (case a4 => k_is)
    (case l4 => k_is)
    (case c4 => k_is)
    (case k4 => k_is)
    (case z_bool => k_is)
    (case z_int => k_is)
    (case z_isinstance => k_is)
    (case z_len => k_is)
    (case z_max => k_is)
    (case z_range => k_is)
#print axioms PySem.Challenge.cw_skipladder_k01_a_block_holds

