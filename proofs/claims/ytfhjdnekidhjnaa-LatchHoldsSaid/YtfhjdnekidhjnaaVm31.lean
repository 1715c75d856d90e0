/-
  What calls and code come to, in the model: 'OK', 'COK', 'LOK'. A machine that asks for what it cannot see: 'opsP', 'codeP', 'fnP'.
-/
import Derived.Test.YtfhjdnekidhjnaaVm28
import Derived.LoopNIn
set_option linter.unusedVariables false
set_option linter.unusedSimpArgs false
namespace Go.Vm

/-- The fences that calls and rounds have. -/
def FW (F : Fence) : Prop := F = Fence.wide ∨ ∃ l, F = Fence.wide.inRound l

theorem FW.ok {F : Fence} (h : FW F) : FOK F := by
  rcases h with rfl | ⟨l, rfl⟩ <;> exact ⟨fun _ => trivial, rfl⟩

/-- A call comes to a value and a heap. -/
def OK (c : Cfg) (fv : V) (args : List V) (H : Heap) (v : V) (H' : Heap) : Prop :=
  ∀ (n : Nat) (ρ : Map) (w : World) (ufv : Value) (uargs : List Value), Rel ρ H w → VR ρ fv ufv → VRL ρ args uargs → Goes Fence.wide n c.P ufv uargs w (Back ρ H w v H')

theorem FW.call {c : Cfg} {call : CallF} {F : Fence} (hF : FW F) (h : ∀ fv args H v H', call fv args H = some (v, H') → OK c fv args H v H') : CallOK c call F := by
  have hw : CallOK c call Fence.wide := fun n fv args H v H' hc ρ w ufv uargs hr h1 h2 => h fv args H v H' hc n ρ w ufv uargs hr h1 h2
  rcases hF with rfl | ⟨l, rfl⟩
  · exact hw
  · exact callOK_round l hw

theorem ok_of_callOK {c : Cfg} {call : CallF} (h : CallOK c call Fence.wide) {fv : V} {args : List V} {H : Heap} {v : V} {H' : Heap} (hc : call fv args H = some (v, H')) : OK c fv args H v H' :=
  fun n ρ w ufv uargs hr h1 h2 => h n fv args H v H' hc ρ w ufv uargs hr h1 h2

def Ends (B : Nat) (ρ : Map) (H : Heap) (w : World) (e : Ex) (st' : St) (H' : Heap) (Q : Exit → Act → World → Prop) : Prop :=
  ∀ ρ' w' a', Rel ρ' H' w' → SR ρ' st' a'.tmps → Marks B ρ' H' w' a'.defers → Step ρ H w ρ' H' w' → Q (exit? e) a' w'

/-- A piece of code comes to an end, a state and a heap. -/
def COK (c : Cfg) (rd : Option Nat) (code : Code) (st : St) (H : Heap) (e : Ex) (st' : St) (H' : Heap) : Prop :=
  ∀ (F : Fence), FW F → ∀ (B n : Nat) (ρ : Map) (w : World) (a : Act) (Q : Exit → Act → World → Prop), Rel ρ H w → SR ρ st a.tmps → Marks B ρ H w a.defers → RdOK F ρ rd → B ≤ w.heap.size →
    Ends B ρ H w e st' H' Q → code.wpIn F n c.P Q a w

/-- A loop at a round's begin. -/
def LW (F : Fence) (n : Nat) (P : Program) (c0 : Code) (Q : Exit → Act → World → Prop) (a : Act) (w : World) : Prop :=
  ∀ (b : Frame) (k : List Item) (cs : List Frame), b.roundOf = F.round → F.fn b.fn → F.room (cs.length + 1 + n) →
    ∃ e a' w', Q e a' w' ∧ ArrivesIn (Machine.fenced P F) P (lone (b.atR a (.code c0 :: .inLoop c0 :: k)) cs w) b k cs e a' w'

theorem wpIn_of_LW {F : Fence} {n : Nat} {P : Program} {c0 : Code} {Q : Exit → Act → World → Prop} {a : Act} {w : World} (h : LW F n P c0 Q a w) : (Code.loop c0).wpIn F n P Q a w := by
  intro b k cs hro hb hr
  obtain ⟨e, a', w', hq, harr⟩ := h b k cs hro hb hr
  exact ⟨e, a', w', hq, .of_steps (.one (fenced_calm hb hr rfl) stepR_loop) harr⟩

theorem LW_of {F : Fence} {n : Nat} {P : Program} {c0 : Code} {Q : Exit → Act → World → Prop} {a : Act} {w : World} (h : c0.wpIn F n P (Exit.then (LW F n P c0 Q) Q) a w) : LW F n P c0 Q a w := by
  intro b k cs hro hb hr
  obtain ⟨e, a₁, w₁, hq, harr⟩ := h b (.inLoop c0 :: k) cs hro hb hr
  cases e with
  | normal =>
    obtain ⟨e₂, a₂, w₂, hq₂, harr₂⟩ := hq b k cs hro hb hr
    exact ⟨e₂, a₂, w₂, hq₂, .of_steps (StepsIn.trans harr (.one (fenced_calm hb hr rfl) stepR_inLoop)) harr₂⟩
  | exit id => exact ⟨_, a₁, w₁, hq, .pass (x := .inLoop c0) rfl (fun _ _ => .inl (by simp)) harr⟩
  | goto l => exact ⟨_, a₁, w₁, hq, .pass (x := .inLoop c0) rfl (fun _ _ => .inl (by simp)) harr⟩
  | ret => exact ⟨_, a₁, w₁, hq, .pass (x := .inLoop c0) rfl (fun _ _ => .inl (by simp)) harr⟩
  | panic ch => exact ⟨_, a₁, w₁, hq, .pass (x := .inLoop c0) rfl (fun _ _ => .inl (by simp)) harr⟩
  | outgrown => exact ⟨_, a₁, w₁, hq, .pass (x := .inLoop c0) rfl (fun _ _ => .inl (by simp)) harr⟩

/-- A loop of a body comes to an end, a state and a heap. -/
def LOK (c : Cfg) (rd : Option Nat) (c0 : Code) (st : St) (H : Heap) (e : Ex) (st' : St) (H' : Heap) : Prop :=
  ∀ (F : Fence), FW F → ∀ (B n : Nat) (ρ : Map) (w : World) (a : Act) (Q : Exit → Act → World → Prop), Rel ρ H w → SR ρ st a.tmps → Marks B ρ H w a.defers → RdOK F ρ rd → B ≤ w.heap.size →
    Ends B ρ H w e st' H' Q → LW F n c.P c0 Q a w

theorem LOK.exit {c : Cfg} {rd : Option Nat} {c0 : Code} {st : St} {H : Heap} {e : Ex} {st1 : St} {H1 : Heap} (h : COK c rd c0 st H e st1 H1) (he : isNormal e = false) : LOK c rd c0 st H e st1 H1 := by
  intro F hF B n ρ w a Q hr hs hm hrd hB hE
  refine LW_of (h F hF B n ρ w a _ hr hs hm hrd hB ?_)
  intro ρ' w' a' h1 h2 h3 h4
  have := hE ρ' w' a' h1 h2 h3 h4
  cases e with
  | normal => cases he
  | exit id => exact this
  | ret => exact this

theorem LOK.step {c : Cfg} {rd : Option Nat} {c0 : Code} {st : St} {H : Heap} {e : Ex} {st1 st2 : St} {H1 H2 : Heap} (h : COK c rd c0 st H .normal st1 H1) (h' : LOK c rd c0 st1 H1 e st2 H2) : LOK c rd c0 st H e st2 H2 := by
  intro F hF B n ρ w a Q hr hs hm hrd hB hE
  refine LW_of (h F hF B n ρ w a _ hr hs hm hrd hB ?_)
  intro ρ' w' a' h1 h2 h3 h4
  refine h' F hF B n ρ' w' a' Q h1 h2 h3 (hrd.mono h4.le) (Nat.le_trans hB h4.size) ?_
  intro ρ2 w2 a2 k1 k2 k3 k4
  exact hE ρ2 w2 a2 k1 k2 k3 (h4.trans k4)

/-! ### The machine that asks -/

/-- Answers: 'c': it is computed; 't', 'f': which way; 'a': it is asked for; 'v', 'r': what an operation or a call comes to; 'l': what a loop comes to; 'k': what a piece of code comes to. -/
inductive Ans where
  | c
  | t
  | f
  | a
  | v (x : V)
  | r (x : V) (H : Heap)
  | l (e : Ex) (st : St) (H : Heap)
  | k (e : Ex) (st : St) (H : Heap)

structure CT where
  fv : V
  args : List V
  H : Heap
  v : V
  H' : Heap

abbrev KO := V → Heap → List CT → List Ans → Prop

/-- What is asked for bounds, and what comes of it. -/
def opQ (c : Cfg) (o : Oper) (st : St) (H : Heap) (K : V → Heap → Prop) : Prop :=
  match o.op with
  | .indexAddr t x y => match ev st x, ev st y, c.P.underlying t with
    | some (.sl es (some p) n), some (.int _ i), some (.slice e) => if (slE es (esOf c.P e) = true ∨ n = 0) ∧ 0 < esOf c.P e then
        (0 ≤ i ∧ i < n) ∧ K (.ptr (some (p.1, p.2 + i.toNat * esOf c.P e))) H else False
    | some (.ptr (some p)), some (.int _ i), some (.array n e) => (0 < esOf c.P e ∧ 0 ≤ i ∧ i < n) ∧ K (.ptr (some (p.1, p.2 + i.toNat * esOf c.P e))) H
    | _, _, _ => False
  | .slice t x lo hi mx => match ev st x, c.P.underlying t, bnd st lo 0, mx with
    | some (.sl es p n), some (.slice e), some i, none => match bnd st hi n with
      | some j => if ((slE es (esOf c.P e) || p.isNone) && decide (0 < esOf c.P e) && decide (esOf c.P e < 4294967296)) = true then
          (0 ≤ i ∧ i ≤ j ∧ j ≤ lim p es n) ∧ K (.sl (shE es i.toNat) (slP lo p (i.toNat * esOf c.P e)) (j.toNat - i.toNat)) H else False
      | none => False
    | some (.sl es p n), some (.slice e), some i, some m => match hi, bnd st hi n, ev st m with
      | some _, some j, some (.int _ mm) => if ((slE es (esOf c.P e) || p.isNone) && decide (0 < esOf c.P e)) = true then
          (0 ≤ i ∧ i ≤ j ∧ j ≤ mm ∧ mm ≤ lim p es n) ∧ K .undef H else False
      | _, _, _ => False
    | some (.ptr (some a)), some (.array n e), some i, none => match bnd st hi n with
      | some j => if 0 < esOf c.P e ∧ esOf c.P e < 4294967296 then
          (0 ≤ i ∧ i ≤ j ∧ j ≤ n) ∧ K (.sl (esOf c.P e + 4294967296) (some (a.1, a.2 + i.toNat * esOf c.P e)) (j.toNat - i.toNat)) H else False
      | none => False
    | some (.str s), some .string, some i, none => match bnd st hi s.size with
      | some j => (0 ≤ i ∧ i ≤ j ∧ j ≤ s.size) ∧ K (.str (s.extract i.toNat j.toNat)) H
      | none => False
    | _, _, _, _ => False
  | .store t x y => match ev st x, ev st y with
    | some (.ptr (some p)), some v => if v.cells.length = esOf c.P t ∧ 0 < esOf c.P t then match H[p.1]? with
        | some (.cells true cs) => (p.2 + v.cells.length ≤ cs.length ∧ ones v.cells = true) ∧ K .undef (H.set p.1 (.cells true (setR cs p.2 v.cells)))
        | _ => False
      else False
    | _, _ => False
  | .binOp op _ x y _ => match op, ev st x, ev st y with
    | .quo, some (.int k a), some (.int k' b) => k = k' ∧ b ≠ 0 ∧ K (.int k (k.wrap (a.tdiv b))) H
    | .rem, some (.int k a), some (.int k' b) => k = k' ∧ b ≠ 0 ∧ K (.int k (a.tmod b)) H
    | .shl, some (.int k a), some (.int _ b) => 0 ≤ b ∧ K (.int k (k.wrap (a * 2 ^ min b.toNat k.bits))) H
    | .shr, some (.int k a), some (.int _ b) => 0 ≤ b ∧ K (.int k (a.fdiv (2 ^ min b.toNat k.bits))) H
    | .add, some (.str a), some (.str b) => ((a.size + b.size : Nat) : Int) ≤ IntKind.i64.max ∧ K (.str (a ++ b)) H
    | _, _, _ => False
  | .makeSlice t x y => match c.P.underlying t, ev st x, ev st y with
    | some (.slice e), some (.int _ n), some (.int _ m) => match zeroL c.P e with
      | some z => if esOf c.P e < 8589934592 then (0 ≤ n ∧ n ≤ m ∧ m * bytesOf c.P e ≤ 140737488355328 ∧ m ≤ 9223372036854775807 ∧ 0 < esOf c.P e) ∧ K (.sl (esOf c.P e) (some (H.length, 0)) n.toNat) (newH H (rep n.toNat z)) else False
      | none => False
    | _, _, _ => False
  | _ => False

def opP (c : Cfg) (o : Oper) (st : St) (H : Heap) (acc : List CT) (os : List Ans) (K : KO) : Prop :=
  match os with
  | .c :: os => match opX c noCall o st H ret2 with
    | some r => K r.1 r.2 acc os
    | none => False
  | .a :: os => opQ c o st H fun v H => K v H acc os
  | .t :: os => match o.op with
    | .pick x a b => match ev st x, ev st a, ev st b with
      | some (.bool t), some p, some _ => t = true ∧ K p H acc os
      | _, _, _ => False
    | _ => False
  | .f :: os => match o.op with
    | .pick x a b => match ev st x, ev st a, ev st b with
      | some (.bool t), some _, some q => t = false ∧ K q H acc os
      | _, _, _ => False
    | _ => False
  | .v u :: os => match o.op with
    | .load t x => match ev st x with
      | some (.ptr (some a)) => loadT c.P t H a.1 a.2 some = some u ∧ K u H acc os
      | _ => False
    | _ => opX c noCall o st H ret2 = some (u, H) ∧ K u H acc os
  | .r u H' :: os => match o.op with
    | .call cl => match cl.callee with
      | .value f => match ev st f, evs st cl.args.toList with
        | some fv, some args => OK c fv args H u H' ∧ match callView c.P o.type u some with
          | some u' => K u' H' (⟨fv, args, H, u, H'⟩ :: acc) os
          | none => False
        | _, _ => False
      | _ => opX c noCall o st H ret2 = some (u, H') ∧ K u H' acc os
    | _ => opX c noCall o st H ret2 = some (u, H') ∧ K u H' acc os
  | _ => False

def opsP (c : Cfg) (ops : Array Oper) : List Nat → St → Heap → List CT → List Ans → (St → Heap → List CT → List Ans → Prop) → Prop
  | [], st, H, acc, os, K => K st H acc os
  | i :: is, st, H, acc, os, K =>
    match ops[i]? with
    | none => False
    | some o => match o.guard with
      | none => opP c o st H acc os fun v H acc os => opsP c ops is (putT st o.dst v) H acc os K
      | some (j, want) => match (ops[j]?).bind (·.dst) with
        | none => False
        | some g => match st[g]? with
          | some (.bool b) => match os with
            | .c :: os => match b == want with
              | true => opP c o (st.set g (.bool want)) H acc os fun v H acc os => opsP c ops is (putT (st.set g (.bool want)) o.dst v) H acc os K
              | false => opsP c ops is (putT (st.set g (.bool (!want))) o.dst (.tup [])) H acc os K
            | .t :: os => b = want ∧ opP c o (st.set g (.bool want)) H acc os fun v H acc os => opsP c ops is (putT (st.set g (.bool want)) o.dst v) H acc os K
            | .f :: os => b = (!want) ∧ opsP c ops is (putT (st.set g (.bool (!want))) o.dst (.tup [])) H acc os K
            | _ => False
          | some (.tup []) => opsP c ops is (putT st o.dst (.tup [])) H acc os K
          | _ => False

def opAP (c : Cfg) (s : Nat) (o : Oper) (st : St) (H : Heap) (acc : List CT) (os : List Ans) (K : KO) : Prop :=
  if isA o then match newX c o st with
    | some (cs, mk) => match os with
      | .c :: os => K (mk s) (H.set s (.cells true cs)) acc os
      | _ => False
    | none => False
  else opP c o st H acc os K

def opsDP (c : Cfg) (ops : Array Oper) : List Nat → Nat → St → Heap → List Tr → List CT → List Ans → (St → Heap → List Tr → List CT → List Ans → Prop) → Prop
  | [], _, st, H, tr, acc, os, K => K st H tr acc os
  | i :: is, s, st, H, tr, acc, os, K =>
    match ops[i]? with
    | none => False
    | some o => match o.guard with
      | none => opAP c s o st H acc os fun v H' acc os => opsDP c ops is (slot' s o) (putT st o.dst v) H' (tr ++ [⟨v, H, addrOf o st, s⟩]) acc os K
      | some (j, want) => match (ops[j]?).bind (·.dst) with
        | none => False
        | some g => match st[g]? with
          | some (.bool b) => match os with
            | .c :: os => match b == want with
              | true => opAP c s o (st.set g (.bool want)) H acc os fun v H' acc os => opsDP c ops is (slot' s o) (putT (st.set g (.bool want)) o.dst v) H' (tr ++ [⟨v, H, addrOf o (st.set g (.bool want)), s⟩]) acc os K
              | false => opsDP c ops is (slot' s o) (putT (st.set g (.bool (!want))) o.dst (.tup [])) H (tr ++ [⟨.tup [], H, none, s⟩]) acc os K
            | .t :: os => b = want ∧ opAP c s o (st.set g (.bool want)) H acc os fun v H' acc os => opsDP c ops is (slot' s o) (putT (st.set g (.bool want)) o.dst v) H' (tr ++ [⟨v, H, addrOf o (st.set g (.bool want)), s⟩]) acc os K
            | .f :: os => b = (!want) ∧ opsDP c ops is (slot' s o) (putT (st.set g (.bool (!want))) o.dst (.tup [])) H (tr ++ [⟨.tup [], H, none, s⟩]) acc os K
            | _ => False
          | some (.tup []) => opsDP c ops is (slot' s o) (putT st o.dst (.tup [])) H (tr ++ [⟨.tup [], H, none, s⟩]) acc os K
          | _ => False

def dupFree : List CT → Bool
  | [] => true
  | t :: ts => ts.all (fun u => u.H.length != t.H.length) && dupFree ts

def drawP (c : Cfg) (ops : Array Oper) (st : St) (H : Heap) (os : List Ans) (K : St → Heap → List Ans → Prop) : Prop :=
  if drawOk c.P ops then
    opsDP c ops (ordOf c.P ops) H.length st (H ++ List.replicate (numA c.P ops) .dead) [] [] os fun st H' tr acc os =>
      dupFree acc = true ∧ chkAll c.P ops (masksOf ops.toList []) (ordOf c.P ops) (H.length + numA c.P ops) tr H' ops.size ops.size = true ∧ K st H' os
  else False

abbrev KC := Ex → St → Heap → List Ans → Prop

def seqP (go : St → Heap → List Ans → Prop) (K : KC) : KC
  | .normal, st, H, os => go st H os
  | .exit id, st, H, os => K (.exit id) st H os
  | .ret, st, H, os => K .ret st H os

def blockP (id : Nat) (K : KC) : KC
  | .normal, st, H, os => K .normal st H os
  | .exit i, st, H, os => if i = id then K .normal st H os else K (.exit i) st H os
  | .ret, st, H, os => K .ret st H os

def iterP (body : St → Heap → List Ans → KC → Prop) : Nat → St → Heap → List Ans → KC → Prop
  | 0, _, _, _, _ => False
  | n + 1, st, H, os, K => body st H os (seqP (fun st H os => iterP body n st H os K) K)

def codeP (c : Cfg) (n : Nat) (rd : Option Nat) : Code → St → Heap → List Ans → KC → Prop
  | .skip, st, H, os, K => K .normal st H os
  | .region _ ops draw, st, H, os, K =>
    if draw then drawP c ops st H os (K .normal)
    else opsP c ops (List.range ops.size) st H [] os fun st H acc os => dupFree acc = true ∧ K .normal st H os
  | .seq a b, st, H, os, K => match os with
    | .k e st' H' :: os => COK c rd (.seq a b) st H e st' H' ∧ K e st' H' os
    | os => codeP c n rd a st H os (seqP (fun st H os => codeP c n rd b st H os K) K)
  | .cond x a b, st, H, os, K => match ev st x with
    | some (.bool t) => match os with
      | .c :: os => match t with
        | true => codeP c n rd a st H os K
        | false => codeP c n rd b st H os K
      | .t :: os => t = true ∧ codeP c n rd a st H os K
      | .f :: os => t = false ∧ codeP c n rd b st H os K
      | _ => False
    | _ => False
  | .block id a, st, H, os, K => codeP c n rd a st H os (blockP id K)
  | .loop a, st, H, os, K => match os with
    | .l e st' H' :: os => LOK c rd a st H e st' H' ∧ K e st' H' os
    | .a :: os => iterP (codeP c n rd a) n st H os K
    | _ => False
  | .scope a, st, H, os, K => codeP c n rd a st H os K
  | .label _, st, H, os, K => K .normal st H os
  | .exit id, st, H, os, K => K (.exit id) st H os
  | .ret, st, H, os, K => K .ret st H os
  | .rangeFunc x params assign body, st, H, os, K => match ev st x with
    | some (.fn g cs) => match os with
      | .r v H2 :: os => (isLoop H rd && hasBody c.P g) = true ∧ OK c (.fn g cs) [.yld H.length] (H ++ [.loop { fid := 0, state := .ready, pending := none, st := st, params := params, assign := assign, body := body }]) v H2 ∧
        match H2[H.length]? with
        | some (.loop l) => l.state ≠ .busy ∧ match l.pending with
          | none => K .normal st (H2.set H.length .dead) os
          | some (.exit id) => K (.exit id) st (H2.set H.length .dead) os
          | some .ret => K .ret st (H2.set H.length .dead) os
          | _ => False
        | _ => False
      | _ => False
    | _ => False
  | _, _, _, _, _ => False

/-- What is behind a function's body. -/
def endP (P : Program) (rs : List ResultVar) (K : V → Heap → Prop) : KC
  | .exit _, _, _, _ => False
  | .normal, st, H, _ => match resX P st H rs some with
    | some vs => K (oneOf vs) H
    | none => False
  | .ret, st, H, _ => match resX P st H rs some with
    | some vs => K (oneOf vs) H
    | none => False

def fnP (c : Cfg) (n : Nat) (f : FuncId) (cs args : List V) (H : Heap) (os : List Ans) (K : V → Heap → Prop) : Prop :=
  match c.P.funcs[f]? with
  | none => False
  | some fn => match fn.body with
    | none => False
    | some body => if fn.name == "runtime.NumGoroutine" then False else
      codeP c n none body (args ++ cs ++ List.replicate (fn.ntmps - (args ++ cs).length) (.tup [])) H os (endP c.P fn.results.toList K)

/-- A round. -/
def yldP (c : Cfg) (n : Nat) (l : Nat) (args : List V) (H : Heap) (os : List Ans) (K : V → Heap → Prop) : Prop :=
  match H[l]? with
  | some (.loop r) => if r.state = .ready ∧ args.length = r.params.size then
      codeP c n (some l) r.assign (setParams r.st r.params.toList args) H os fun e st1 H1 os => match e with
        | .normal => match H1[l]? with
          | some (.loop r1) => if r1.state = .ready then
              codeP c n (some l) r.body st1 (H1.set l (.loop { r1 with state := .busy })) os fun e st2 H2 _ => match H2[l]? with
                | some (.loop r2) => K (.bool (isNormal e)) (H2.set l (.loop { r2 with state := endOf e, pending := e.code }))
                | _ => False
            else False
          | _ => False
        | _ => False
    else False
  | _ => False

end Go.Vm
