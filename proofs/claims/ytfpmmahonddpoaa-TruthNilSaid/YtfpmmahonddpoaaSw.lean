/-
  Sx, its third part: the evaluator's step, and that it is sound.
-/
import Derived.Test.YtfpmmahonddpoaaSq
set_option linter.unusedVariables false
set_option linter.unusedSimpArgs false
namespace Go.Proofs.Ytfpmmahonddpoaa.Sx
open Go Go.RowKit

/-! ### Calls -/
def CallsTo (P : Program) (g : FuncId) (xs : List Value) (w : World) (R : Value → World → Prop) : Prop :=
  (∃ x w', (callFunc g ⟨xs⟩).run P w = .ok (.value x) w' ∧ R x w') ∨
  ((callFunc g ⟨xs⟩).run P w = .ok (.enter g ⟨xs⟩) w ∧ Calls P g ⟨xs⟩ w (fun e w' => ∃ x, e = .returned x ∧ R x w'))
def CallOK (P : Program) (g : FuncId) (vs : List Value) (h : List (Option Chunk)) (v : Value) (ms : List (Nat × Chunk)) (rh : List Nat) : Prop :=
  ∀ h₂ : List (Option Chunk), (∀ i ∈ rh, h₂[i]? = h[i]?) → (∀ m ∈ ms, h₂[m.1]? = h[m.1]?) → ∀ X ρ w xs, HOK X ρ h₂ w → All2 (Den (Fil h₂) ρ) vs xs →
    CallsTo P g xs w fun x w' => ∃ ρ', AgreeOn (Fil h₂) ρ ρ' ∧ HOK X ρ' (modH h₂ ms) w' ∧ Den (Fil (modH h₂ ms)) ρ' v x

theorem all2_den {X : Ctx} {ρ : Nat → Nat × Nat} {st st₂ : St} {a : Act} {w : World} (R : Rel X ρ st₂ a w) : ∀ (zs : List Operand) (qs : List Value), All2 (fun x v => EvTo x st v) zs qs → (∀ x ∈ zs, ∀ u, EvTo x st u → EvTo x st₂ u) →
    All2 (Den (Fil st₂.h) ρ) qs (zs.map a.eval)
  | [], [], _, _ => trivial
  | [], _ :: _, h, _ => h.elim
  | _ :: _, [], h, _ => h.elim
  | z :: zs, q :: qs, h, hm => ⟨(hm z (by simp) q h.1).den R, all2_den R zs qs h.2 (fun x hx => hm x (by simp [hx]))⟩
theorem all2_append {α β : Type} {p : α → β → Prop} : ∀ {a c : List α} {b d : List β}, All2 p a b → All2 p c d → All2 p (a ++ c) (b ++ d)
  | [], c, [], d, _, h => h
  | [], _, _ :: _, _, h, _ => h.elim
  | _ :: _, _, [], _, h, _ => h.elim
  | x :: a, c, y :: b, d, h, k => ⟨h.1, all2_append h.2 k⟩

def cap1 (v : Value) : Bool :=
  match v with
  | .func _ _ _ | .agg _ | .tuple _ => false
  | _ => true
theorem Den.caps {F : Nat → Prop} {ρ : Nat → Nat × Nat} {fn : Fn} {us cs : List Value} {x : Value} (h : Den F ρ (.func fn ⟨us⟩ ⟨cs⟩) x) (hu : us.all cap1 = true) (hc : cs.all cap1 = true) :
    x = .func fn ⟨us.map (den0 ρ)⟩ ⟨cs.map (den0 ρ)⟩ ∧ All2 (Den F ρ) us (us.map (den0 ρ)) ∧ All2 (Den F ρ) cs (cs.map (den0 ρ)) := by
  have e : ∀ r, den r (.func fn ⟨us⟩ ⟨cs⟩) = .func fn ⟨us.map (den0 r)⟩ ⟨cs.map (den0 r)⟩ := fun r => by simp [den, den2, den1]
  have key : ∀ (l : List Value), l.all cap1 = true → (∀ r, AgreeOn F ρ r → l.map (den0 r) = l.map (den0 ρ)) → All2 (Den F ρ) l (l.map (den0 ρ)) := by
    intro l
    induction l with
    | nil => intro _ _; exact trivial
    | cons v l ih =>
      intro hl hm
      simp only [List.all_cons, Bool.and_eq_true] at hl
      refine ⟨fun r hr => ?_, ih hl.2 fun r hr => ?_⟩
      · have := hm r hr
        simp only [List.map_cons, List.cons.injEq] at this
        rw [← this.1]
        cases v <;> first | rfl | (simp [cap1] at hl)
      · have := hm r hr
        simp only [List.map_cons, List.cons.injEq] at this
        exact this.2
  have h2 : ∀ r, AgreeOn F ρ r → us.map (den0 r) = us.map (den0 ρ) ∧ cs.map (den0 r) = cs.map (den0 ρ) := fun r hr => by
    have := (h r hr).trans h.self.symm
    rw [e, e] at this
    simpa using this
  exact ⟨h.self.symm.trans (e ρ), key us hu (fun r hr => (h2 r hr).1), key cs hc (fun r hr => (h2 r hr).2)⟩

section
variable {P : Program} {G : Tys} {o : Oper} {st : St}

theorem ok_call {f : Operand} {xs : Array Operand} {ts : Array TypeId} {g : FuncId} {us vs cs : List Value} {v : Value} {ms : List (Nat × Chunk)} {rh : List Nat} (ho : o.op = .call ⟨.value f, xs, ts⟩) (hf : EvTo f st (.func (.func g) ⟨us⟩ ⟨cs⟩)) (hu : us.all cap1 = true) (hc : cs.all cap1 = true)
    (hx : All2 (fun x v => EvTo x st v) xs.toList vs) (h : CallOK P g (us ++ vs ++ cs) st.h v ms rh) : OKs P o st v ms rh := fun st₂ hs hr hm X ρ a w R next Q hn => by
  obtain ⟨e1, d1, d2⟩ := ((hs f (by simp [ho, Op.operands, Call.operands]) _ hf).den R).caps hu hc
  have d3 := all2_den R xs.toList vs hx (fun x hx => hs x (by simp [ho, Op.operands, Call.operands]; right; simpa using hx))
  have hk := h st₂.h hr hm X ρ w _ R.heap (all2_append (all2_append d1 d3) d2)
  have hrun : (execOp a.eval o).run P w = (callFunc g ⟨us.map (den0 ρ) ++ xs.toList.map a.eval ++ cs.map (den0 ρ)⟩).run P w := by
    simp only [execOp, ho, resolve, e1, Deferred.ofValue, Sem.run_bind, Sem.run_pure, Result.andThen_ok, invoke]
    congr 2
    apply Array.toList_inj.1
    simp
  unfold Oper.wp
  rw [hrun]
  rcases hk with ⟨x, w', hr, ρ', ha, hh, hd⟩ | ⟨hr, hcl⟩
  · rw [hr]; exact hn ρ' x w' ⟨ha, hh, hd⟩
  · rw [hr]
    refine hcl.mono fun e w' ⟨x, he, ρ', ha, hh, hd⟩ => ?_
    subst he
    exact hn ρ' x w' ⟨ha, hh, hd⟩

/-! ### The step -/
def OpN (P : Program) (o : Oper) (st : St) (slot : Nat) (K : Value → List (Nat × Chunk) → List Nat → Prop) : Prop := ∃ v ms rh, OKs P o st v ms rh ∧ K v ms rh
/-- A callee all of whose outcomes are told by R. -/
def CallAll (P : Program) (g : FuncId) (vs : List Value) (h : List (Option Chunk)) (R : Value → List (Nat × Chunk) → Prop) : Prop :=
  ∀ X ρ w xs, HOK X ρ h w → All2 (Den (Fil h) ρ) vs xs → CallsTo P g xs w fun x w' => ∃ v ms ρ', R v ms ∧ AgreeOn (Fil h) ρ ρ' ∧ HOK X ρ' (modH h ms) w' ∧ Den (Fil (modH h ms)) ρ' v x
def CallN (q : Bool) (P : Program) (g : FuncId) (vs : List Value) (h : List (Option Chunk)) (slot : Nat) (K : Value → List (Nat × Chunk) → List Nat → Prop) : Prop :=
  (∃ v ms rh, CallOK P g vs h v ms rh ∧ K v ms rh) ∨ (q = true ∧ ∃ R, CallAll P g vs h R ∧ ∀ v ms, R v ms → K v ms [])
def LoadN (c : Chunk) (f : Nat) (agg : Bool) (n : Nat) (K : Value → Prop) : Prop := ∃ v, Reads c f agg n v ∧ K v
def StoreN (c : Chunk) (f n : Nat) (v : Value) (K : Chunk → Prop) : Prop := ∃ d, Writes c f n v d ∧ K d
def IdxN (a : Int) (n : Nat) (K : Nat → Nat → Prop) : Prop := ∃ j s, a = (j : Nat) ∧ j < n ∧ K j s
def BndN (lo hi : Option Value) (len cap : Nat) (K : Nat → Nat → Nat → Prop) : Prop := ∃ p q s, Bnd hi len cap q ∧ Bnd lo 0 q p ∧ K p q s
def BinIs (P : Program) (op : BinOp) (t : TypeId) (x y : Operand) (a b v : Value) : Prop := plain2 a = true ∧ plain2 b = true ∧ plain2 v = true ∧ ∀ w, (do eqGuard op t x y a b; binOp op t a b : Sem Value).run P w = .ok v w
def BinN (P : Program) (op : BinOp) (t : TypeId) (x y : Operand) (a b : Value) (K : Value → Prop) : Prop := ∃ v, BinIs P op t x y a b v ∧ K v
def UnN (P : Program) (op : UnOp) (a : Value) (K : Value → Prop) : Prop := ∃ v, (plain2 a = true ∧ plain2 v = true ∧ ∀ w, (Op.unary op a).run P w = .ok v w) ∧ K v
def ConvN (P : Program) (s d : TypeId) (a : Value) (K : Value → Prop) : Prop := ∃ v, (plain2 a = true ∧ plain2 v = true ∧ ∀ w, (convert s d a).run P w = .ok v w) ∧ K v
def BuiltN (P : Program) (b : Builtin) (ts : Array TypeId) (t : TypeId) (vs : List Value) (K : Value → Prop) : Prop := ∃ v, (vs.all plain2 = true ∧ plain2 v = true ∧ ∀ cs w, (builtin b ts t cs ⟨vs⟩).run P w = .ok (.value v) w) ∧ K v
def CopyN (ci : Chunk) (f : Nat) (cj : Chunk) (g m size : Nat) (K : Nat → Chunk → Prop) : Prop := ∃ n v d, n = m ∧ Reads cj g true (n * size) v ∧ flatB v (n * size) = true ∧ Writes ci f (n * size) v d ∧ K n d
def MakeN (a b : Int) (bytes size : Nat) (K : Nat → Nat → Prop) : Prop := ∃ n m : Nat, a = (n : Nat) ∧ b = (n : Nat) ∧ bytes * n ≤ 281474976710656 ∧ n ≤ 9223372036854775807 ∧ m = n * size ∧ K n m
def IdxS (s : ByteArray) (a : Int) (K : Value → Prop) : Prop := ∃ (j : Nat) (b : UInt8), a = (j : Nat) ∧ s[j]? = some b ∧ K (.int .u8 b.toNat)

def forceK (v : Value) (K : Value → Prop) : Prop :=
  match v with
  | .agg _ => False
  | .tuple _ => False
  | .bool b => K (.bool b)
  | .int k n => K (.int k n)
  | .float k n => K (.float k n)
  | .complex k a b => K (.complex k a b)
  | .string s => K (.string s)
  | .pointer a => K (.pointer a)
  | .slice a l c => K (.slice a l c)
  | .map r => K (.map r)
  | .chan r => K (.chan r)
  | .func f x y => K (.func f x y)
  | .nilFunc => K .nilFunc
  | .iface t v => K (.iface t v)
  | .nilIface => K .nilIface
theorem forceK_out {v : Value} {K : Value → Prop} (h : forceK v K) : v.oneCell' = true ∧ K v := by cases v <;> first | exact h.elim | exact ⟨rfl, h⟩
def cellsK (c : Chunk) : Nat → Nat → (List Value → Prop) → Prop
  | _, 0, K => K []
  | f, n + 1, K => forceK (c.f f) fun v => cellsK c (f + 1) n fun r => K (v :: r)
theorem cellsK_out {c : Chunk} : ∀ {n f : Nat} {K : List Value → Prop}, cellsK c f n K → ∃ l, l.length = n ∧ (∀ j, j < n → c.f (f + j) = l.getD j undef) ∧ K l
  | 0, f, K, h => ⟨[], rfl, fun j hj => absurd hj (by omega), h⟩
  | n + 1, f, K, h => by
    obtain ⟨_, h⟩ := forceK_out h
    obtain ⟨l, hl, hf, hk⟩ := cellsK_out (n := n) h
    refine ⟨_, by simp [hl], fun j hj => ?_, hk⟩
    cases j with
    | zero => rfl
    | succ j => rw [show f + (j + 1) = f + 1 + j from by omega, hf j (by omega)]; rfl
def findP : List (Nat × Nat × Value) → Nat → Nat → Option Value
  | [], _, _ => none
  | (o, m, v) :: r, f, n => match Nat.beq o f && Nat.beq m n with
    | true => some v
    | false => match Nat.ble (o + m) f || Nat.ble (f + n) o with
      | true => findP r f n
      | false => none
theorem findP_out : ∀ {ps : List (Nat × Nat × Value)} {f n : Nat} {v : Value}, findP ps f n = some v → ∀ j, j < n → cellOf ps (f + j) = cellIn v j
  | [], _, _, _, h, _, _ => by simp [findP] at h
  | (o, m, u) :: r, f, n, v, h, j, hj => by
    simp only [findP] at h
    rw [cellOf_cons]
    cases h1 : Nat.beq o f && Nat.beq m n with
    | true =>
      rw [h1] at h
      simp only [Bool.and_eq_true] at h1
      have e1 := Nat.eq_of_beq_eq_true h1.1
      have e2 := Nat.eq_of_beq_eq_true h1.2
      simp only [Option.some.injEq] at h
      subst e1 e2 h
      rw [if_pos (by omega)]
      congr 1; omega
    | false =>
      rw [h1] at h
      cases h2 : Nat.ble (o + m) f || Nat.ble (f + n) o with
      | true =>
        rw [h2] at h
        simp only [Bool.or_eq_true, Nat.ble_eq] at h2
        rw [if_neg (by omega)]
        exact findP_out h j hj
      | false => rw [h2] at h; cases h
def dropK : List Value → Nat → (List Value → Prop) → Prop
  | l, 0, K => K l
  | [], _ + 1, K => K []
  | _ :: r, n + 1, K => dropK r n K
theorem dropK_out : ∀ {l : List Value} {n : Nat} {K : List Value → Prop}, dropK l n K → K (l.drop n)
  | [], 0, K, h => h
  | _ :: _, 0, K, h => h
  | [], n + 1, K, h => by simpa [dropK] using h
  | _ :: r, n + 1, K, h => by simpa using dropK_out (l := r) (n := n) (K := K) h
/-- The piece whose tail is asked for. -/
def findT : List (Nat × Nat × Value) → Nat → Nat → Option (Array Value × Nat)
  | [], _, _ => none
  | (o, m, v) :: r, f, n => match Nat.ble o f && Nat.beq (o + m) (f + n) with
    | true => match v with
      | .agg cs => some (cs, f - o)
      | _ => none
    | false => match Nat.ble (o + m) f || Nat.ble (f + n) o with
      | true => findT r f n
      | false => none
theorem findT_out : ∀ {ps : List (Nat × Nat × Value)} {f n k : Nat} {cs : Array Value}, findT ps f n = some (cs, k) → ∀ j, j < n → cellOf ps (f + j) = cs.toList.getD (k + j) undef
  | [], _, _, _, _, h, _, _ => by simp [findT] at h
  | (o, m, u) :: r, f, n, k, cs, h, j, hj => by
    simp only [findT] at h
    rw [cellOf_cons]
    cases h1 : Nat.ble o f && Nat.beq (o + m) (f + n) with
    | true =>
      rw [h1] at h
      simp only [Bool.and_eq_true, Nat.ble_eq] at h1
      have e2 := Nat.eq_of_beq_eq_true h1.2
      simp only at h
      split at h
      · simp only [Option.some.injEq, Prod.mk.injEq] at h
        obtain ⟨rfl, rfl⟩ := h
        rw [if_pos (by omega)]
        simp only [cellIn]
        congr 1; omega
      · cases h
    | false =>
      rw [h1] at h
      cases h2 : Nat.ble (o + m) f || Nat.ble (f + n) o with
      | true =>
        rw [h2] at h
        simp only [Bool.or_eq_true, Nat.ble_eq] at h2
        rw [if_neg (by omega)]
        exact findT_out h j hj
      | false => rw [h2] at h; cases h
def loadK (c : Chunk) (f s : Nat) (agg : Bool) (n : Nat) (K : Value → Prop) : Prop :=
  match s with
  | 0 => match Nat.ble (f + n) c.n with
    | false => False
    | true => match agg with
      | false => match Nat.beq n 1 with
        | true => forceK (c.f f) K
        | false => False
      | true => match findP c.ps f n with
        | some (.agg cs) => N (Obl (flatB (.agg cs) n = true) (K (.agg cs)))
        | _ => match findT c.ps f n with
          | some (⟨l⟩, k) => dropK l k fun l' => N (Obl (flatB (.agg ⟨l'⟩) n = true) (K (.agg ⟨l'⟩)))
          | none => cellsK c f n fun l => K (.agg ⟨l⟩)
  | _ => N (LoadN c f agg n K)
theorem loadK_out {c : Chunk} {f s : Nat} {agg : Bool} {n : Nat} {K : Value → Prop} (h : loadK c f s agg n K) : ∃ v, Reads c f agg n v ∧ K v := by
  unfold loadK at h
  split at h
  · cases hb : Nat.ble (f + n) c.n with
    | false => rw [hb] at h; exact h.elim
    | true =>
      rw [hb] at h
      have hb := Nat.le_of_ble_eq_true hb
      cases agg with
      | false =>
        simp only at h
        cases hn : Nat.beq n 1 with
        | false => rw [hn] at h; exact h.elim
        | true =>
          rw [hn] at h
          have hn := Nat.eq_of_beq_eq_true hn
          obtain ⟨h1, h⟩ := forceK_out h
          exact ⟨_, ⟨by omega, h1, rfl⟩, h⟩
      | true =>
        simp only at h
        split at h
        · rename_i cs hp
          obtain ⟨hf, h⟩ := h.out
          simp only [flatB, Bool.and_eq_true] at hf
          refine ⟨_, ⟨hb, cs, rfl, Nat.eq_of_beq_eq_true hf.1, fun j hj => ?_⟩, h⟩
          exact findP_out hp j hj
        · split at h
          · rename_i l k hp
            have h := dropK_out (K := fun l' => N (Obl (flatB (.agg ⟨l'⟩) n = true) (K (.agg ⟨l'⟩)))) h
            obtain ⟨hf, h⟩ := h.out
            simp only [flatB, Bool.and_eq_true] at hf
            refine ⟨_, ⟨hb, ⟨l.drop k⟩, rfl, Nat.eq_of_beq_eq_true hf.1, fun j hj => ?_⟩, h⟩
            rw [show c.f (f + j) = _ from findT_out hp j hj]
            simp [List.getD_eq_getElem?_getD]
          · obtain ⟨l, hl, hf, hk⟩ := cellsK_out h
            exact ⟨_, ⟨hb, ⟨l⟩, rfl, hl, hf⟩, hk⟩
  · exact h.out
def pruneK : List (Nat × Nat × Value) → Nat → Nat → (List (Nat × Nat × Value) → Prop) → Prop
  | [], _, _, K => K []
  | (o, m, v) :: r, f, n, K => match Nat.ble f o && Nat.ble (o + m) (f + n) with
    | true => pruneK r f n K
    | false => pruneK r f n fun r' => K ((o, m, v) :: r')
theorem pruneK_out {f n : Nat} : ∀ {ps : List (Nat × Nat × Value)} {K : List (Nat × Nat × Value) → Prop}, pruneK ps f n K → ∃ qs, (∀ j, ¬ (f ≤ j ∧ j < f + n) → cellOf qs j = cellOf ps j) ∧ K qs
  | [], K, h => ⟨[], fun _ _ => rfl, h⟩
  | (o, m, v) :: r, K, h => by
    unfold pruneK at h
    cases hb : Nat.ble f o && Nat.ble (o + m) (f + n) with
    | true =>
      rw [hb] at h
      simp only [Bool.and_eq_true, Nat.ble_eq] at hb
      obtain ⟨qs, hq, hk⟩ := pruneK_out h
      exact ⟨qs, fun j hj => by rw [hq j hj, cellOf_cons, if_neg (by omega)], hk⟩
    | false =>
      rw [hb] at h
      obtain ⟨qs, hq, hk⟩ := pruneK_out h
      exact ⟨_, fun j hj => by rw [cellOf_cons, cellOf_cons, hq j hj], hk⟩
def storeK (c : Chunk) (f s n : Nat) (v : Value) (K : Chunk → Prop) : Prop :=
  match s with
  | 0 => match c.own && Nat.ble (f + n) c.n with
    | false => False
    | true => pruneK c.ps f n fun ps => K ⟨true, c.n, (f, n, v) :: ps⟩
  | _ => N (StoreN c f n v K)
theorem storeK_out {c : Chunk} {f s n : Nat} {v : Value} {K : Chunk → Prop} (h : storeK c f s n v K) : ∃ d, Writes c f n v d ∧ K d := by
  unfold storeK at h
  split at h
  · cases hb : c.own && Nat.ble (f + n) c.n with
    | false => rw [hb] at h; exact h.elim
    | true =>
      rw [hb] at h
      simp only [Bool.and_eq_true, Nat.ble_eq] at hb
      obtain ⟨qs, hq, hk⟩ := pruneK_out h
      refine ⟨⟨true, c.n, (f, n, v) :: qs⟩, ⟨hb.1, hb.2, rfl, fun j hj => ?_⟩, hk⟩
      show cellOf ((f, n, v) :: qs) j = _
      rw [cellOf_cons]
      by_cases hc : f ≤ j ∧ j < f + n
      · rw [if_pos hc, if_pos hc]
      · rw [if_neg hc, if_neg hc, hq j hc]; rfl
  · exact h.out
def flatK (v : Value) (n : Nat) (A : Prop) : Prop :=
  match v with
  | .agg cs => N (Obl (flatB (.agg cs) n = true) A)
  | .tuple _ => False
  | _ => match Nat.beq 1 n with
    | true => A
    | false => False
theorem flatK_out {v : Value} {n : Nat} {A : Prop} (h : flatK v n A) : flatB v n = true ∧ A := by
  unfold flatK at h
  split at h
  · exact h.out
  · exact h.elim
  · rename_i h1 h2
    cases hb : Nat.beq 1 n with
    | false => rw [hb] at h; exact h.elim
    | true =>
      rw [hb] at h
      refine ⟨?_, h⟩
      cases v <;> first | exact hb | exact absurd rfl (h1 _) | exact absurd rfl (h2 _)
def nthL {α : Type} : List α → Nat → Option α
  | [], _ => none
  | x :: _, 0 => some x
  | _ :: r, n + 1 => nthL r n
theorem nthL_eq {α : Type} : ∀ (l : List α) (n : Nat), nthL l n = l[n]?
  | [], _ => rfl
  | _ :: _, 0 => rfl
  | _ :: r, n + 1 => by simpa [nthL] using nthL_eq r n
def litL : List Nat := [0, 1, 2, 3, 4, 5, 6, 7, 8, 9, 10, 11, 12, 13, 14, 15, 16, 17, 18, 19, 20, 21, 22, 23, 24, 25, 26, 27, 28, 29, 30, 31, 32, 33, 34, 35, 36, 37, 38, 39, 40, 41, 42, 43, 44, 45, 46, 47, 48, 49, 50, 51, 52, 53, 54, 55, 56, 57, 58, 59, 60, 61, 62, 63, 64, 65, 66, 67, 68, 69, 70, 71, 72, 73, 74, 75, 76, 77, 78, 79, 80, 81, 82, 83, 84, 85, 86, 87, 88, 89, 90, 91, 92, 93, 94, 95, 96, 97, 98, 99]
def litK (n : Nat) (K : Nat → Prop) : Prop :=
  match nthL litL n with
  | some k => K k
  | none => K n
theorem litK_out {n : Nat} {K : Nat → Prop} (h : litK n K) : K n := by
  unfold litK at h
  rw [nthL_eq, show litL = List.range 100 from rfl] at h
  split at h
  · rename_i k hk
    have := List.getElem?_eq_some_iff.1 hk
    obtain ⟨hl, e⟩ := this
    simp at e
    subst e; exact h
  · exact h

def addrK (f s : Nat) (K : Nat → Prop) : Prop :=
  match s with
  | 0 => litK f K
  | _ => K f
theorem addrK_out {f s : Nat} {K : Nat → Prop} (h : addrK f s K) : K f := by
  unfold addrK at h
  split at h
  · exact litK_out h
  · exact h
def mulK (j s : Nat) (K : Nat → Prop) : Prop :=
  match s with
  | 1 => K j
  | _ => K (j * s)
theorem mulK_out {j s : Nat} {K : Nat → Prop} (h : mulK j s K) : K (j * s) := by
  unfold mulK at h
  split at h
  · rw [Nat.mul_one]; exact h
  · exact h
def plusK (f x : Nat) (K : Nat → Prop) : Prop :=
  match f with
  | 0 => K x
  | _ => K (f + x)
theorem plusK_out {f x : Nat} {K : Nat → Prop} (h : plusK f x K) : K (f + x) := by
  unfold plusK at h
  split at h
  · rw [Nat.zero_add]; exact h
  · exact h
def elemK (f j z s : Nat) (K : Nat → Prop) : Prop := mulK j z fun m => plusK f m fun g => addrK g s K
theorem elemK_out {f j z s : Nat} {K : Nat → Prop} (h : elemK f j z s K) : K (f + j * z) := addrK_out (plusK_out (K := fun g => addrK g s K) (mulK_out (K := fun m => plusK f m fun g => addrK g s K) h))
def listK : List Value → (List Value → Prop) → Prop
  | [], K => K []
  | v :: r, K => listK r fun r' => K (v :: r')
theorem listK_out : ∀ {l : List Value} {K : List Value → Prop}, listK l K → K l
  | [], _, h => h
  | v :: r, K, h => listK_out (l := r) (K := fun r' => K (v :: r')) h
def takeK : List Value → Nat → Nat → (List Value → Prop) → Prop
  | _, 0, 0, K => K []
  | [], _, _, K => K []
  | v :: r, 0, n + 1, K => takeK r 0 n fun r' => K (v :: r')
  | _ :: r, f + 1, n, K => takeK r f n K
theorem takeK_out : ∀ {l : List Value} {f n : Nat} {K : List Value → Prop}, takeK l f n K → K ((l.drop f).take n)
  | [], 0, 0, _, h => by simpa [takeK] using h
  | _ :: _, 0, 0, _, h => by simpa [takeK] using h
  | [], f + 1, n, _, h => by simpa [takeK] using h
  | [], 0, n + 1, _, h => by simpa [takeK] using h
  | v :: r, 0, n + 1, K, h => by simpa using takeK_out (l := r) (f := 0) (n := n) (K := fun r' => K (v :: r')) h
  | _ :: r, f + 1, n, K, h => by simpa using takeK_out (l := r) (f := f) (n := n) (K := K) (by cases n <;> exact h)
def partK (cs : Array Value) (f : Nat) (agg : Bool) (n : Nat) (K : Value → Prop) : Prop :=
  match agg with
  | true => takeK cs.toList f n fun l => K (.agg ⟨l⟩)
  | false => match nthL cs.toList f with
    | some v => forceK v K
    | none => False
theorem partK_out {cs : Array Value} {f : Nat} {agg : Bool} {n : Nat} {K : Value → Prop} (h : partK cs f agg n K) : ∃ v, PartOf cs f agg n v ∧ K v := by
  cases agg with
  | true => exact ⟨_, ⟨_, rfl, rfl⟩, takeK_out (K := fun l => K (.agg ⟨l⟩)) h⟩
  | false =>
    simp only [partK, nthL_eq] at h
    cases hv : cs.toList[f]? with
    | none => rw [hv] at h; exact h.elim
    | some v =>
      rw [hv] at h
      obtain ⟨h1, h⟩ := forceK_out h
      exact ⟨v, ⟨h1, hv⟩, h⟩

def partsK : List (Nat × Operand) → St → (List (Nat × Value) → Prop) → Prop
  | [], _, K => K []
  | (i, x) :: r, st, K => evalS x st fun v => partsK r st fun vs => K ((i, v) :: vs)
theorem partsK_out : ∀ {ps : List (Nat × Operand)} {K : List (Nat × Value) → Prop}, partsK ps st K → ∃ vs, PartsTo st ps vs ∧ K vs
  | [], K, h => ⟨[], rfl, h⟩
  | (i, x) :: r, K, h => by
    obtain ⟨v, hv, h⟩ := evalS_out h
    obtain ⟨vs, hvs, h⟩ := partsK_out h
    exact ⟨_, ⟨v, vs, rfl, hv, hvs⟩, h⟩
def buildK (G : Tys) (d : TypeDesc) (z : Value) (vs : List (Nat × Value)) (K : Value → Prop) : Prop :=
  match plain2 z with
  | false => False
  | true => match d with
    | .struct fs => placesK G fs.toList fun pl => match fillL (fun i => nthL pl i) (cellsL z) vs with
      | some out => listK out fun l => K (.agg ⟨l⟩)
      | none => False
    | .array _ e => lookT G e fun ei _ => match fillL (fun i => some (i * ei.size, ei.size)) (cellsL z) vs with
      | some out => listK out fun l => K (.agg ⟨l⟩)
      | none => False
    | _ => False
def kindEq (a b : IntKind) : Bool := decide (a = b)
def binK (P : Program) (G : Tys) (op : BinOp) (t : TypeId) (x y : Operand) (a b : Value) (K : Value → Prop) : Prop :=
  match a, b with
  | .int k m, .int k' n => match op with
    | .shl => N (Obl (0 ≤ n) (K (.int k (k.wrap (m * 2 ^ sh n k)))))
    | .shr => N (Obl (0 ≤ n) (K (.int k (m.fdiv (2 ^ sh n k)))))
    | op => match kindEq k k' with
      | false => False
      | true => match op with
        | .quo => N (Obl (n ≠ 0) (K (.int k (k.wrap (m.tdiv n)))))
        | .rem => N (Obl (n ≠ 0) (K (.int k (m.tmod n))))
        | op => match binR op k m n with
          | some (_, v) => K v
          | none => False
  | .bool p, .bool q => lookT G t fun _ d => match d with
    | .bool => match op with
      | .eql => K (.bool (p == q))
      | .neq => K (.bool (p != q))
      | _ => False
    | _ => False
  | .pointer (some ⟨_, _, some _⟩), .pointer none => lookT G t fun _ d => match d with
    | .pointer _ => match op with
      | .eql => K (.bool false)
      | .neq => K (.bool true)
      | _ => False
    | _ => False
  | .pointer none, .pointer none => lookT G t fun _ d => match d with
    | .pointer _ => match op with
      | .eql => K (.bool true)
      | .neq => K (.bool false)
      | _ => False
    | _ => False
  | _, _ => N (BinN P op t x y a b K)
def unK (P : Program) (op : UnOp) (a : Value) (K : Value → Prop) : Prop :=
  match op, a with
  | .not, .bool b => K (.bool (!b))
  | .neg, .int k n => K (.int k (k.wrap (0 - n)))
  | _, _ => N (UnN P op a K)
def convK (P : Program) (G : Tys) (s d : TypeId) (a : Value) (K : Value → Prop) : Prop :=
  match a with
  | .int _ n => lookT G s fun _ _ => lookT G d fun _ dd => match dd with
    | .int k' => K (.int k' (k'.wrap n))
    | _ => N (ConvN P s d a K)
  | _ => N (ConvN P s d a K)
def idxK (y : Operand) (a : Int) (n s : Nat) (K : Nat → Nat → Prop) : Prop :=
  match y with
  | .const (.int _ (.ofNat m)) => match Nat.ble (m + 1) n with
    | true => K m s
    | false => False
  | _ => N (IdxN a n K)
def optK (x : Option Operand) (st : St) (K : Option Value → Prop) : Prop :=
  match x with
  | none => K none
  | some x => evalS x st fun v => match v with
    | .int k n => K (some (.int k n))
    | _ => False
def builtK (P : Program) (G : Tys) (b : Builtin) (xs : List Operand) (ts : Array TypeId) (t : TypeId) (vs : List Value) (K : Value → Prop) : Prop :=
  match b, vs, xs, ts.toList with
  | .len, [.slice _ l _], [_], [u] => lookT G u fun _ d => match d with
    | .slice _ => K (.int .i64 l)
    | _ => False
  | b, vs, _, _ => N (BuiltN P b ts t vs K)

def stepS (P : Program) (G : Tys) (o : Oper) (st : St) (slot : Nat) (K : Value → List (Nat × Chunk) → List Nat → Prop) : Prop :=
  match o.op with
  | .move x => evalS x st fun v => K v [] []
  | .assign x => evalS x st fun v => K v [] []
  | .pick c x y => evalS c st fun cv => match cv with
    | .bool t => N (Fork t (evalS x st fun v => K v [] []) (evalS y st fun v => K v [] []))
    | _ => False
  | .alloc t => lookT G t fun i _ => match i.zero with
    | some z => match plain2 z && flatB z i.size with
      | true => litK i.size fun n => K (.pointer (some ⟨slot, 0, some 0⟩)) [(slot, ⟨true, n, [(0, n, z)]⟩)] []
      | false => False
    | none => False
  | .box t x => evalS x st fun v => lookT G t fun i _ => litK i.size fun n => flatK v n (K (.pointer (some ⟨slot, 0, some 0⟩)) [(slot, ⟨true, n, [(0, n, v)]⟩)] [])
  | .load t x => evalS x st fun p => match p with
    | .pointer (some ⟨i, f, some s⟩) => getH st.h i fun c => lookT G t fun ti d => litK ti.size fun n => loadK c f s (isAggD d) n fun v => K v [] [i]
    | _ => False
  | .store t x y => evalS x st fun p => evalS y st fun v => match p with
    | .pointer (some ⟨i, f, some s⟩) => getH st.h i fun c => lookT G t fun ti _ => litK ti.size fun n => flatK v n (storeK c f s n v fun d => K undef [(i, d)] [])
    | _ => False
  | .nilCheck x => evalS x st fun p => match p with
    | .pointer (some ⟨i, f, some s⟩) => K (.pointer (some ⟨i, f, some s⟩)) [] []
    | .func (.func g) u v => K (.func (.func g) u v) [] []
    | _ => False
  | .fieldAddr t x k => evalS x st fun p => match p with
    | .pointer (some ⟨i, f, some s⟩) => lookT G t fun _ d => match d with
      | .struct fs => match nthL fs.toList k with
        | some ⟨_, ft, off, _, _, _, _⟩ => lookT G ft fun fi _ => match Nat.beq fi.size 0 with
          | false => addrK (f + off) s fun g => K (.pointer (some ⟨i, g, some s⟩)) [] []
          | true => False
        | none => False
      | _ => False
    | _ => False
  | .field t x k => evalS x st fun p => match p with
    | .agg cs => lookT G t fun _ d => match d with
      | .struct fs => match nthL fs.toList k with
        | some ⟨_, ft, off, _, _, _, _⟩ => lookT G ft fun fi fd => partK cs off (isAggD fd) fi.size fun v => K v [] []
        | none => False
      | _ => False
    | _ => False
  | .build t ps => partsK ps.toList st fun vs => lookT G t fun i d => match i.zero with
    | some z => buildK G d z vs fun v => K v [] []
    | none => False
  | .binOp op t x y _ => evalS x st fun a => evalS y st fun b => binK P G op t x y a b fun v => K v [] []
  | .unOp op _ x => evalS x st fun a => unK P op a fun v => K v [] []
  | .convert s d x => evalS x st fun a => convK P G s d a fun v => K v [] []
  | .extract x k => evalS x st fun p => match p with
    | .tuple vs => match nthL vs.toList k with
      | some (.agg cs) => K (.agg cs) [] []
      | some v => forceK v fun v => K v [] []
      | none => False
    | _ => False
  | .indexAddr t x y => evalS x st fun p => evalS y st fun q => match q with
    | .int _ a => match p with
      | .pointer (some ⟨i, f, some s⟩) => lookT G t fun _ d => match d with
        | .array n e => lookT G e fun ei _ => idxK y a n s fun j s' => elemK f j ei.size s' fun g => K (.pointer (some ⟨i, g, some s'⟩)) [] []
        | _ => False
      | .slice (some ⟨i, f, some s⟩) l _ => lookT G t fun _ d => match d with
        | .slice e => lookT G e fun ei _ => N (IdxN a l fun j s' => elemK f j ei.size s' fun g => K (.pointer (some ⟨i, g, some s'⟩)) [] [])
        | _ => False
      | _ => False
    | _ => False
  | .index t x y => evalS x st fun p => evalS y st fun q => match q with
    | .int _ a => match p with
      | .agg cs => lookT G t fun _ d => match d with
        | .array n e => lookT G e fun ei ed => idxK y a n 0 fun j _ => partK cs (j * ei.size) (isAggD ed) ei.size fun v => K v [] []
        | _ => False
      | .string s => lookT G t fun _ d => match d with
        | .string => N (IdxS s a fun v => K v [] [])
        | _ => False
      | _ => False
    | _ => False
  | .slice t x lo hi none => evalS x st fun p => optK lo st fun vl => optK hi st fun vh => match p with
    | .slice (some ⟨i, f, some s⟩) l c => lookT G t fun _ d => match d with
      | .slice e => lookT G e fun ei _ => N (BndN vl vh l c fun p q s' => K (.slice (some ⟨i, f + (if c = p then 0 else p * ei.size), some s'⟩) (q - p) (c - p)) [] [])
      | _ => False
    | .pointer (some ⟨i, f, some s⟩) => lookT G t fun _ d => match d with
      | .array n e => lookT G e fun ei _ => N (BndN vl vh n n fun p q s' => K (.slice (some ⟨i, f + (if n = p then 0 else p * ei.size), some s'⟩) (q - p) (n - p)) [] [])
      | _ => False
    | .string s => lookT G t fun _ d => match d with
      | .string => N (BndN vl vh s.size s.size fun p q _ => K (.string (s.extract p q)) [] [])
      | _ => False
    | _ => False
  | .makeFunc (.func g) xs ys => evalL xs.toList st fun us => evalL ys.toList st fun cs => match us.all cap1 && cs.all cap1 with
    | true => K (.func (.func g) ⟨us⟩ ⟨cs⟩) [] []
    | false => False
  | .call ⟨.value f, xs, ts⟩ => evalS f st fun fv => match fv with
    | .func (.func g) ⟨us⟩ ⟨cs⟩ => match us.all cap1 && cs.all cap1 with
      | true => evalL xs.toList st fun vs => listK (us ++ vs ++ cs) fun l => N (CallN false P g l st.h slot K)
      | false => False
    | _ => False
  | .call ⟨.builtin .copy, ⟨[x, y]⟩, ⟨[tx, _]⟩⟩ => evalS x st fun p => evalS y st fun q => match p, q with
    | .slice (some ⟨i, f, some _⟩) l _, .slice (some ⟨j, g, some _⟩) m _ => lookT G tx fun _ d => match d with
      | .slice e => lookT G e fun ei _ => getH st.h i fun ci => getH st.h j fun cj => N (CopyN ci f cj g (Nat.min m l) ei.size fun n d => K (.int .i64 n) [(i, d)] [j])
      | _ => False
    | _, _ => False
  | .call ⟨.builtin b, xs, ts⟩ => evalL xs.toList st fun vs => builtK P G b xs.toList ts o.type vs fun v => K v [] []
  | .buildSlice t n ps => partsK ps.toList st fun vs => lookT G t fun _ d => match d with
    | .slice e => lookT G e fun ei _ => match ei.zero with
      | some z => match plain2 z && flatB z ei.size && Nat.ble 1 (n * ei.size) && Nat.ble (n * ei.size) 16777216 with
        | true => match fillL (fun i => some (i * ei.size, ei.size)) (segL (n * ei.size) (repZ ei.size z)) vs with
          | some out => match Nat.beq out.length (n * ei.size) with
            | true => listK out fun l => litK (n * ei.size) fun m => K (.slice (some ⟨slot, 0, some 0⟩) n n) [(slot, ⟨true, m, [(0, m, .agg ⟨l⟩)]⟩)] []
            | false => False
          | none => False
        | false => False
      | none => False
    | _ => False
  | .makeSlice t x y => evalS x st fun p => evalS y st fun q => match p with
    | .int _ a => match q with
      | .int _ b => lookT G t fun _ d => match d with
        | .slice e => lookT G e fun ei _ => match ei.zero with
          | some z => match plain2 z && flatB z ei.size && Nat.ble 1 ei.size with
            | true => litK ei.size fun sz => N (MakeN a b ei.bytes sz fun n m => K (.slice (some ⟨slot, 0, some 0⟩) n n) [(slot, ⟨true, m, [(0, m, .agg ⟨segL m (repZ sz z)⟩)]⟩)] [])
            | false => False
          | none => False
        | _ => False
      | _ => False
    | _ => False
  | _ => N (OpN P o st slot K)
end
section
variable {P : Program} {G : Tys} {o : Oper} {st : St}

theorem binR_true {op : BinOp} {k : IntKind} {a b : Int} {p : Prop} {v : Value} (h1 : op ≠ .quo) (h2 : op ≠ .rem) (h : binR op k a b = some (p, v)) : p := by
  cases op <;> simp only [binR, Option.some.injEq, Prod.mk.injEq, reduceCtorEq] at h <;> first | (obtain ⟨rfl, _⟩ := h; trivial) | exact absurd rfl h1 | exact absurd rfl h2
theorem bin_out {op : BinOp} {t u : TypeId} {x y : Operand} {a b : Value} {K : Value → Prop} (hG : TysOK P G) (ho : o.op = .binOp op t x y u) (hx : EvTo x st a) (hy : EvTo y st b) (h : binK P G op t x y a b K) : ∃ v, OKs P o st v [] [] ∧ K v := by
  unfold binK at h
  split at h
  · rename_i k m k' n
    split at h
    · obtain ⟨h0, h⟩ := h.out; exact ⟨_, ok_shl ho hx hy h0, h⟩
    · obtain ⟨h0, h⟩ := h.out; exact ⟨_, ok_shr ho hx hy h0, h⟩
    · cases hk : kindEq k k' with
      | false => rw [hk] at h; exact h.elim
      | true =>
        rw [hk] at h
        have e : k = k' := of_decide_eq_true hk
        subst e
        simp only at h
        split at h
        · obtain ⟨h0, h⟩ := h.out; exact ⟨_, ok_bin ho hx hy rfl h0, h⟩
        · obtain ⟨h0, h⟩ := h.out; exact ⟨_, ok_bin ho hx hy rfl h0, h⟩
        · rename_i h3 h4
          split at h
          · rename_i p v hb
            exact ⟨v, ok_bin ho hx hy hb (binR_true (fun e => h3 e) (fun e => h4 e) hb), h⟩
          · exact h.elim
  · obtain ⟨i, d, h1, h2, h⟩ := lookT_out hG h
    split at h
    · split at h
      · exact ⟨_, ok_boolEq (eq := true) ho hx hy h2, h⟩
      · exact ⟨_, ok_boolEq (eq := false) ho hx hy h2, h⟩
      · exact h.elim
    · exact h.elim
  · obtain ⟨i, d, h1, h2, h⟩ := lookT_out hG h
    split at h
    · split at h
      · exact ⟨_, ok_ptrNil (eq := true) ho hx hy h2, h⟩
      · exact ⟨_, ok_ptrNil (eq := false) ho hx hy h2, h⟩
      · exact h.elim
    · exact h.elim
  · obtain ⟨i, d, h1, h2, h⟩ := lookT_out hG h
    split at h
    · split at h
      · exact ⟨_, ok_nilNil (eq := true) ho hx hy h2, h⟩
      · exact ⟨_, ok_nilNil (eq := false) ho hx hy h2, h⟩
      · exact h.elim
    · exact h.elim
  · obtain ⟨v, ⟨h1, h2, h3, h4⟩, h⟩ := h.out
    exact ⟨v, ok_plain2 ho hx hy h1 h2 h4 h3, h⟩
theorem un_out {op : UnOp} {t : TypeId} {x : Operand} {a : Value} {K : Value → Prop} (ho : o.op = .unOp op t x) (hx : EvTo x st a) (h : unK P op a K) : ∃ v, OKs P o st v [] [] ∧ K v := by
  unfold unK at h
  split at h
  · exact ⟨_, ok_un ho hx rfl (fun _ => rfl) rfl, h⟩
  · exact ⟨_, ok_un ho hx rfl (fun _ => rfl) rfl, h⟩
  · obtain ⟨v, ⟨h1, h2, h3⟩, h⟩ := h.out
    exact ⟨v, ok_un ho hx h1 h3 h2, h⟩
theorem conv_out {s d : TypeId} {x : Operand} {a : Value} {K : Value → Prop} (hG : TysOK P G) (ho : o.op = .convert s d x) (hx : EvTo x st a) (h : convK P G s d a K) : ∃ v, OKs P o st v [] [] ∧ K v := by
  unfold convK at h
  split at h
  · obtain ⟨_, _, _, h1, h⟩ := lookT_out hG h
    obtain ⟨_, _, _, h2, h⟩ := lookT_out hG h
    split at h
    · exact ⟨_, ok_conv ho hx rfl (fun w => run_convInt h1 h2 w) rfl, h⟩
    · obtain ⟨v, ⟨q1, q2, q3⟩, h⟩ := h.out
      exact ⟨v, ok_conv ho hx q1 q3 q2, h⟩
  · obtain ⟨v, ⟨h1, h2, h3⟩, h⟩ := h.out
    exact ⟨v, ok_conv ho hx h1 h3 h2, h⟩
theorem idx_out {y : Operand} {k : IntKind} {a : Int} {n s : Nat} {K : Nat → Nat → Prop} (hy : EvTo y st (.int k a)) (h : idxK y a n s K) : ∃ j s', a = (j : Nat) ∧ j < n ∧ K j s' := by
  unfold idxK at h
  split at h
  · rename_i k' m
    obtain ⟨e, _⟩ := hy
    simp only [Value.int.injEq] at e
    cases hb : Nat.ble (m + 1) n with
    | true => rw [hb] at h; exact ⟨m, s, e.2, Nat.le_of_ble_eq_true hb, h⟩
    | false => rw [hb] at h; exact h.elim
  · exact h.out
theorem opt_out {x : Option Operand} {K : Option Value → Prop} (h : optK x st K) : ∃ v, OptTo st x v ∧ K v := by
  cases x with
  | none => exact ⟨none, rfl, h⟩
  | some x =>
    obtain ⟨v, hv, h⟩ := evalS_out (x := x) h
    cases v with
    | int k n => exact ⟨_, ⟨k, n, rfl, hv⟩, h⟩
    | _ => exact h.elim
theorem build_out {t : TypeId} {ps : Array (Nat × Operand)} {vs : List (Nat × Value)} {ti : TypeInfo} {d : TypeDesc} {z : Value} {K : Value → Prop} (hG : TysOK P G) (ho : o.op = .build t ps) (hx : PartsTo st ps.toList vs) (h1 : P.info? t = some ti) (hz : ti.zero = some z) (h2 : P.underlying t = some d)
    (h : buildK G d z vs K) : ∃ v, OKs P o st v [] [] ∧ K v := by
  unfold buildK at h
  cases hp : plain2 z with
  | false => rw [hp] at h; exact h.elim
  | true =>
    rw [hp] at h
    simp only at h
    split at h
    · obtain ⟨pl, h3, h⟩ := placesK_out hG h
      split at h
      · rename_i out hout
        have e : (fun i => nthL pl i) = (fun (i : Nat) => pl[i]?) := funext fun i => nthL_eq pl i
        rw [e] at hout
        exact ⟨_, ok_build ho hx h1 hz hp h2 h3 hout, listK_out (K := fun l => K (.agg ⟨l⟩)) h⟩
      · exact h.elim
    · obtain ⟨ei, _, h3, _, h⟩ := lookT_out hG h
      split at h
      · rename_i out hout
        exact ⟨_, ok_buildA ho hx h1 hz hp h2 h3 hout, listK_out (K := fun l => K (.agg ⟨l⟩)) h⟩
      · exact h.elim
    · exact h.elim
theorem built_out {b : Builtin} {xs : Array Operand} {ts : Array TypeId} {vs : List Value} {K : Value → Prop} (hG : TysOK P G) (ho : o.op = .call ⟨.builtin b, xs, ts⟩) (hx : All2 (fun x v => EvTo x st v) xs.toList vs) (h : builtK P G b xs.toList ts o.type vs K) : ∃ v, OKs P o st v [] [] ∧ K v := by
  unfold builtK at h
  split at h
  · rename_i a l c q u e1 e2
    obtain ⟨i, d, h1, h2, h⟩ := lookT_out hG h
    split at h
    · have e1' : xs = #[q] := by apply Array.toList_inj.1; simpa using e1
      have e2' : ts = #[u] := by apply Array.toList_inj.1; simpa using e2
      subst e1' e2'
      exact ⟨_, ok_lenS ho hx.1 h2, h⟩
    · exact h.elim
  · obtain ⟨v, ⟨h1, h2, h3⟩, h⟩ := h.out
    exact ⟨v, ok_builtin ho hx h1 h3 h2, h⟩

theorem stepS_out {slot : Nat} {K : Value → List (Nat × Chunk) → List Nat → Prop} (hG : TysOK P G) (hs : st.h[slot]? = some none) (h : stepS P G o st slot K) : ∃ v ms rh, OKs P o st v ms rh ∧ K v ms rh := by
  unfold stepS at h
  split at h
  · rename_i x ho; obtain ⟨v, hv, h⟩ := evalS_out h; exact ⟨_, _, _, ok_move ho hv, h⟩
  · rename_i x ho; obtain ⟨v, hv, h⟩ := evalS_out h; exact ⟨_, _, _, ok_assign ho hv, h⟩
  · rename_i c x y ho
    obtain ⟨v, hv, h⟩ := evalS_out h
    split at h
    · rename_i t
      have h := h.out
      cases t with
      | true => obtain ⟨u, hu, h⟩ := evalS_out (h.1 rfl); exact ⟨_, _, _, ok_pick (t := true) ho hv hu, h⟩
      | false => obtain ⟨u, hu, h⟩ := evalS_out (h.2 rfl); exact ⟨_, _, _, ok_pick (t := false) ho hv hu, h⟩
    · exact h.elim
  · rename_i t ho
    obtain ⟨i, d, h1, h2, h⟩ := lookT_out hG h
    split at h
    · rename_i z hz
      cases hb : plain2 z && flatB z i.size with
      | true =>
        rw [hb] at h
        simp only [Bool.and_eq_true] at hb
        have h := litK_out (K := fun n => K (mkp slot) [(slot, ⟨true, n, [(0, n, z)]⟩)] []) h
        exact ⟨_, _, _, ok_alloc ho h1 hz hb.1 hs hb.2, h⟩
      | false => rw [hb] at h; exact h.elim
    · exact h.elim
  · rename_i t x ho
    obtain ⟨v, hv, h⟩ := evalS_out h
    obtain ⟨i, d, h1, h2, h⟩ := lookT_out hG h
    have h := litK_out (K := fun n => flatK v n (K (mkp slot) [(slot, ⟨true, n, [(0, n, v)]⟩)] [])) h
    obtain ⟨hf, h⟩ := flatK_out h
    exact ⟨_, _, _, ok_box ho hv hs hf, h⟩
  · rename_i t x ho
    obtain ⟨v, hv, h⟩ := evalS_out h
    split at h
    · obtain ⟨c, hc, h⟩ := getH_out h
      obtain ⟨i, d, h1, h2, h⟩ := lookT_out hG h
      have h := litK_out (K := fun n => loadK c _ _ (isAggD d) n _) h
      obtain ⟨u, hu, h⟩ := loadK_out h
      exact ⟨_, _, _, ok_load ho hv hc h1 h2 hu, h⟩
    · exact h.elim
  · rename_i t x y ho
    obtain ⟨v, hv, h⟩ := evalS_out h
    obtain ⟨u, hu, h⟩ := evalS_out h
    split at h
    · obtain ⟨c, hc, h⟩ := getH_out h
      obtain ⟨i, d, h1, h2, h⟩ := lookT_out hG h
      have h := litK_out (K := fun n => flatK u n (storeK c _ _ n u _)) h
      obtain ⟨hf, h⟩ := flatK_out h
      obtain ⟨e, he, h⟩ := storeK_out h
      exact ⟨_, _, _, ok_store ho hv hu hc h1 hf he, h⟩
    · exact h.elim
  · rename_i x ho
    obtain ⟨v, hv, h⟩ := evalS_out h
    split at h
    · exact ⟨_, _, _, ok_nilCheck ho hv, h⟩
    · exact ⟨_, _, _, ok_nilCheckF ho hv, h⟩
    · exact h.elim
  · rename_i t x k ho
    obtain ⟨v, hv, h⟩ := evalS_out h
    split at h
    · obtain ⟨i, d, h1, h2, h⟩ := lookT_out hG h
      split at h
      · rw [nthL_eq] at h
        split at h
        · rename_i hf
          obtain ⟨fi, fd, h3, h4, h⟩ := lookT_out hG h
          cases hb : Nat.beq fi.size 0 with
          | false => rw [hb] at h; exact ⟨_, _, _, ok_fieldAddr ho hv h2 hf h3 hb, addrK_out (K := fun g => K (.pointer (some ⟨_, g, some _⟩)) [] []) h⟩
          | true => rw [hb] at h; exact h.elim
        · exact h.elim
      · exact h.elim
    · exact h.elim
  · rename_i t x k ho
    obtain ⟨v, hv, h⟩ := evalS_out h
    split at h
    · obtain ⟨i, d, h1, h2, h⟩ := lookT_out hG h
      split at h
      · rw [nthL_eq] at h
        split at h
        · rename_i hf
          obtain ⟨fi, fd, h3, h4, h⟩ := lookT_out hG h
          obtain ⟨u, hu, h⟩ := partK_out h
          exact ⟨_, _, _, ok_field ho hv h2 hf h3 h4 hu, h⟩
        · exact h.elim
      · exact h.elim
    · exact h.elim
  · rename_i t ps ho
    obtain ⟨vs, hv, h⟩ := partsK_out h
    obtain ⟨i, d, h1, h2, h⟩ := lookT_out hG h
    split at h
    · rename_i z hz
      obtain ⟨v, h3, h⟩ := build_out hG ho hv h1 hz h2 h
      exact ⟨_, _, _, h3, h⟩
    · exact h.elim
  · rename_i op t x y u ho
    obtain ⟨a, ha, h⟩ := evalS_out h
    obtain ⟨b, hb, h⟩ := evalS_out h
    obtain ⟨v, h3, h⟩ := bin_out hG ho ha hb h
    exact ⟨_, _, _, h3, h⟩
  · rename_i op t x ho
    obtain ⟨a, ha, h⟩ := evalS_out h
    obtain ⟨v, h3, h⟩ := un_out ho ha h
    exact ⟨_, _, _, h3, h⟩
  · rename_i s d x ho
    obtain ⟨a, ha, h⟩ := evalS_out h
    obtain ⟨v, h3, h⟩ := conv_out hG ho ha h
    exact ⟨_, _, _, h3, h⟩
  · rename_i x k ho
    obtain ⟨v, hv, h⟩ := evalS_out h
    split at h
    · rw [nthL_eq] at h
      split at h
      · rename_i hu; exact ⟨_, _, _, ok_extract ho hv hu rfl, h⟩
      · rename_i u hne hu
        obtain ⟨h1, h⟩ := forceK_out h
        exact ⟨_, _, _, ok_extract ho hv hu (by cases u <;> first | rfl | (simp [Value.oneCell'] at h1)), h⟩
      · exact h.elim
    · exact h.elim
  · rename_i t x y ho
    obtain ⟨v, hv, h⟩ := evalS_out h
    obtain ⟨u, hu, h⟩ := evalS_out h
    split at h
    · split at h
      · obtain ⟨i, d, h1, h2, h⟩ := lookT_out hG h
        split at h
        · obtain ⟨ei, ed, h3, h4, h⟩ := lookT_out hG h
          obtain ⟨j, s', e, hj, h'⟩ := idx_out hu h
          subst e
          exact ⟨_, _, _, ok_elemA ho hv hu h2 h3 (by omega) (by omega), by simpa using elemK_out (K := fun g => K (.pointer (some ⟨_, g, some _⟩)) [] []) h'⟩
        · exact h.elim
      · obtain ⟨i, d, h1, h2, h⟩ := lookT_out hG h
        split at h
        · obtain ⟨ei, ed, h3, h4, h⟩ := lookT_out hG h
          obtain ⟨j, s', e, hj, h'⟩ := h.out
          subst e
          exact ⟨_, _, _, ok_elemS ho hv hu h2 h3 (by omega) (by omega), by simpa using elemK_out (K := fun g => K (.pointer (some ⟨_, g, some _⟩)) [] []) h'⟩
        · exact h.elim
      · exact h.elim
    · exact h.elim
  · rename_i t x y ho
    obtain ⟨v, hv, h⟩ := evalS_out h
    obtain ⟨u, hu, h⟩ := evalS_out h
    split at h
    · split at h
      · obtain ⟨i, d, h1, h2, h⟩ := lookT_out hG h
        split at h
        · obtain ⟨ei, ed, h3, h4, h⟩ := lookT_out hG h
          obtain ⟨j, s', e, hj, h⟩ := idx_out hu h
          obtain ⟨r, hr, h'⟩ := partK_out h
          subst e
          exact ⟨_, _, _, ok_indexV ho hv hu h2 h3 h4 hj hr, h'⟩
        · exact h.elim
      · obtain ⟨i, d, h1, h2, h⟩ := lookT_out hG h
        split at h
        · obtain ⟨j, b, e, hb, h'⟩ := h.out
          subst e
          exact ⟨_, _, _, ok_indexS ho hv hu h2 hb, h'⟩
        · exact h.elim
      · exact h.elim
    · exact h.elim
  · rename_i t x lo hi ho
    obtain ⟨v, hv, h⟩ := evalS_out h
    obtain ⟨vl, hl, h⟩ := opt_out h
    obtain ⟨vh, hh, h⟩ := opt_out h
    split at h
    · obtain ⟨i, d, h1, h2, h⟩ := lookT_out hG h
      split at h
      · obtain ⟨ei, ed, h3, h4, h⟩ := lookT_out hG h
        obtain ⟨p, q, s', hq, hp, h⟩ := h.out
        exact ⟨_, _, _, ok_sliceS ho hv hl hh h2 h3 hq hp, h⟩
      · exact h.elim
    · obtain ⟨i, d, h1, h2, h⟩ := lookT_out hG h
      split at h
      · obtain ⟨ei, ed, h3, h4, h⟩ := lookT_out hG h
        obtain ⟨p, q, s', hq, hp, h⟩ := h.out
        exact ⟨_, _, _, ok_sliceA ho hv hl hh h2 h3 hq hp, h⟩
      · exact h.elim
    · obtain ⟨i, d, h1, h2, h⟩ := lookT_out hG h
      split at h
      · obtain ⟨p, q, s', hq, hp, h⟩ := h.out
        exact ⟨_, _, _, ok_sliceStr ho hv hl hh h2 hq hp, h⟩
      · exact h.elim
    · exact h.elim
  · rename_i g xs ys ho
    obtain ⟨us, hu, h⟩ := evalL_out h
    obtain ⟨cs, hc, h⟩ := evalL_out h
    cases hb : us.all cap1 && cs.all cap1 with
    | true =>
      rw [hb] at h
      simp only [Bool.and_eq_true] at hb
      exact ⟨_, _, _, ok_makeFunc ho hu hc hb.1 hb.2, h⟩
    | false => rw [hb] at h; exact h.elim
  · rename_i f xs ts ho
    obtain ⟨v, hv, h⟩ := evalS_out h
    split at h
    · rename_i g us cs
      cases hb : us.all cap1 && cs.all cap1 with
      | true =>
        rw [hb] at h
        simp only [Bool.and_eq_true] at hb
        obtain ⟨vs, hx, h⟩ := evalL_out h
        have h := listK_out (K := fun l => N (CallN false P g l st.h slot K)) h
        rcases h.out with ⟨u, ms, rh, h1, h⟩ | ⟨hq, _⟩
        · exact ⟨_, _, _, ok_call ho hv hb.1 hb.2 hx h1, h⟩
        · cases hq
      | false => rw [hb] at h; exact h.elim
    · exact h.elim
  · rename_i x y tx ty ho
    obtain ⟨v, hv, h⟩ := evalS_out h
    obtain ⟨u, hu, h⟩ := evalS_out h
    split at h
    · obtain ⟨i, d, h1, h2, h⟩ := lookT_out hG h
      split at h
      · obtain ⟨ei, ed, h3, h4, h⟩ := lookT_out hG h
        obtain ⟨ci, hci, h⟩ := getH_out h
        obtain ⟨cj, hcj, h⟩ := getH_out h
        obtain ⟨n, z, dd, hn, hr, hf, hw, h⟩ := h.out
        exact ⟨_, _, _, ok_copy ho hv hu h2 h3 hci hcj hn hr hf hw, h⟩
      · exact h.elim
    · exact h.elim
  · rename_i b xs ts hne ho
    obtain ⟨vs, hv, h⟩ := evalL_out h
    obtain ⟨u, h1, h⟩ := built_out hG ho hv h
    exact ⟨_, _, _, h1, h⟩
  · rename_i t n ps ho
    obtain ⟨vs, hx, h⟩ := partsK_out h
    obtain ⟨i, d, h1, h2, h⟩ := lookT_out hG h
    split at h
    · obtain ⟨ei, ed, h3, h4, h⟩ := lookT_out hG h
      split at h
      · rename_i z hz
        cases hb : plain2 z && flatB z ei.size && Nat.ble 1 (n * ei.size) && Nat.ble (n * ei.size) 16777216 with
        | false => rw [hb] at h; exact h.elim
        | true =>
          rw [hb] at h
          simp only [Bool.and_eq_true, Nat.ble_eq] at hb
          simp only at h
          split at h
          · rename_i out hout
            cases hl : Nat.beq out.length (n * ei.size) with
            | false => rw [hl] at h; exact h.elim
            | true =>
              rw [hl] at h
              have h := listK_out (K := fun l => litK (n * ei.size) fun m => K (.slice (some ⟨slot, 0, some 0⟩) n n) [(slot, ⟨true, m, [(0, m, .agg ⟨l⟩)]⟩)] []) h
              have h := litK_out (K := fun m => K (.slice (some ⟨slot, 0, some 0⟩) n n) [(slot, ⟨true, m, [(0, m, .agg ⟨out⟩)]⟩)] []) h
              exact ⟨_, _, _, ok_buildSlice ho hx h2 h3 hz hb.1.1.1 hb.1.1.2 hb.1.2 hb.2 hout (Nat.eq_of_beq_eq_true hl) hs, h⟩
          · exact h.elim
      · exact h.elim
    · exact h.elim
  · rename_i t x y ho
    obtain ⟨p, hp, h⟩ := evalS_out h
    obtain ⟨q, hq, h⟩ := evalS_out h
    split at h
    · split at h
      · obtain ⟨i, d, h1, h2, h⟩ := lookT_out hG h
        split at h
        · obtain ⟨ei, ed, h3, h4, h⟩ := lookT_out hG h
          split at h
          · rename_i z hz
            cases hb : plain2 z && flatB z ei.size && Nat.ble 1 ei.size with
            | false => rw [hb] at h; exact h.elim
            | true =>
              rw [hb] at h
              simp only [Bool.and_eq_true, Nat.ble_eq] at hb
              obtain ⟨n, m, rfl, rfl, hb1, hb2, rfl, h⟩ := N.out (litK_out (K := fun sz => N (MakeN _ _ ei.bytes sz fun n m => K (.slice (some ⟨slot, 0, some 0⟩) n n) [(slot, ⟨true, m, [(0, m, .agg ⟨segL m (repZ sz z)⟩)]⟩)] [])) h)
              exact ⟨_, _, _, ok_makeSlice ho hp hq h2 h3 hz hb.1.1 hb.1.2 hb.2 hb1 hb2 hs, h⟩
          · exact h.elim
        · exact h.elim
      · exact h.elim
    · exact h.elim
  · exact h.out
end
end Go.Proofs.Ytfpmmahonddpoaa.Sx
