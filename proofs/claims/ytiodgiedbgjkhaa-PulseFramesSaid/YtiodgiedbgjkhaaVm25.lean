/-
  The small machine with calls in the same style as the rest: what is behind a call is handed to it. And with it, a list of answers: whichever way a branch goes is asked of the list, as long as it has any. What it comes to, the small machine comes to ('callK_ok').
-/
import Derived.Test.YtiodgiedbgjkhaaVm24
set_option linter.unusedVariables false
set_option linter.unusedSimpArgs false
namespace Go.Vm

def noCall : CallF := fun _ _ _ => none

section
variable {R : Type}

theorem opX_then {R' : Type} {c : Cfg} {call : CallF} {o : Oper} {st : St} {H : Heap} {K : V → Heap → Option R'} {g : R' → Option R} : (opX c call o st H K).bind g = opX c call o st H fun v H => (K v H).bind g := by
  rw [opX_split, @opX_split _ c call o st H (fun v H => (K v H).bind g), Option.bind_assoc]

theorem opsX_then {R' : Type} {c : Cfg} {call : CallF} {ops : Array Oper} {g : R' → Option R} : ∀ {is : List Nat} {st : St} {H : Heap} {K : St → Heap → Option R'}, (opsX c call ops is st H K).bind g = opsX c call ops is st H fun st H => (K st H).bind g
  | [], _, _, _ => rfl
  | i :: is, st, H, K => by
    unfold opsX
    split
    · rfl
    · split
      · rw [opX_then]; simp only [opsX_then (is := is)]
      · split
        · rfl
        · split
          · split
            · rw [opX_then]; simp only [opsX_then (is := is)]
            · rw [opsX_then (is := is)]
          · rw [opsX_then (is := is)]
          · rfl

theorem opsD_then {R' : Type} {c : Cfg} {call : CallF} {ops : Array Oper} {g : R' → Option R} : ∀ {is : List Nat} {s : Nat} {st : St} {H : Heap} {tr : List Tr} {K : St → Heap → List Tr → Option R'},
    (opsD c call ops is s st H tr K).bind g = opsD c call ops is s st H tr fun st H tr => (K st H tr).bind g
  | [], _, _, _, _, _ => rfl
  | i :: is, s, st, H, tr, K => by
    have ha : ∀ {s : Nat} {o : Oper} {st : St} {H : Heap} {K : V → Heap → Option R'}, (opA c call s o st H K).bind g = opA c call s o st H fun v H => (K v H).bind g := by
      intro s o st H K
      unfold opA
      split
      · split <;> rfl
      · exact opX_then
    unfold opsD
    split
    · rfl
    · split
      · rw [ha]; simp only [opsD_then (is := is)]
      · split
        · rfl
        · split
          · split
            · rw [ha]; simp only [opsD_then (is := is)]
            · rw [opsD_then (is := is)]
          · rw [opsD_then (is := is)]
          · rfl

theorem iter_then {R' : Type} {g : R' → Option R} {b : St → Heap → (Ex → St → Heap → Option R') → Option R'} {b' : St → Heap → (Ex → St → Heap → Option R) → Option R}
    (h : ∀ st H K, (b st H K).bind g = b' st H fun e st H => (K e st H).bind g) : ∀ {n : Nat} {st : St} {H : Heap} {K : Ex → St → Heap → Option R'}, (iterX b n st H K).bind g = iterX b' n st H fun e st H => (K e st H).bind g
  | 0, _, _, _ => rfl
  | n + 1, st, H, K => by
    unfold iterX
    rw [h]
    congr 1
    funext e st H
    cases e with
    | normal => exact iter_then h
    | _ => rfl

theorem codeX_then {R' : Type} {c : Cfg} {call : CallF} {f : FuncId} {n : Nat} {rd : Option Nat} {g : R' → Option R} : ∀ {code : Code} {st : St} {H : Heap} {K : Ex → St → Heap → Option R'},
    (codeX c call f n rd code st H K).bind g = codeX c call f n rd code st H fun e st H => (K e st H).bind g := by
  intro code
  induction code with
  | region id ops draw =>
    intro st H K
    unfold codeX
    split
    · unfold drawX
      split
      · rw [opsD_then]
        congr 1
        funext st H tr
        split <;> rfl
      · rfl
    · exact opsX_then
  | seq a b iha ihb =>
    intro st H K
    unfold codeX
    rw [iha]
    congr 1
    funext e st H
    cases e with
    | normal => exact ihb
    | _ => rfl
  | cond x a b iha ihb =>
    intro st H K
    unfold codeX
    split
    · split
      · exact iha
      · exact ihb
    · rfl
  | block id a ih =>
    intro st H K
    unfold codeX
    rw [ih]
    congr 1
    funext e st H
    cases e with
    | exit i => simp only; split <;> rfl
    | _ => rfl
  | loop a ih =>
    intro st H K
    unfold codeX
    exact iter_then (b := codeX c call f n rd a) (b' := codeX c call f n rd a) fun st H K => ih
  | rangeFunc x params assign body =>
    intro st H K
    unfold codeX
    split
    · split
      · rw [Option.bind_assoc]
        congr 1
        funext r
        split
        · split
          · rfl
          · split <;> rfl
        · rfl
      · rfl
    · rfl
  | _ => intro st H K; first | rfl | (unfold codeX; rfl)

theorem resX_then {R' : Type} {P : Program} {st : St} {H : Heap} {g : R' → Option R} : ∀ {rs : List ResultVar} {K : List V → Option R'}, (resX P st H rs K).bind g = resX P st H rs fun vs => (K vs).bind g
  | [], _ => rfl
  | .tmp t :: rs, K => by
    unfold resX
    split
    · exact resX_then
    · rfl
  | .cell a t :: rs, K => by
    unfold resX
    split
    · rename_i p hp
      cases p with
      | none => rfl
      | some q =>
        simp only [Option.bind_some]
        rw [loadT_split, loadT_split _ _ _ _ _ (fun v => resX P st H rs fun vs => (K (v :: vs)).bind g), Option.bind_assoc]
        congr 1
        funext v
        exact resX_then
    · rfl

end

abbrev KV (R : Type) := V → Heap → List Bool → Option R
abbrev KS (R : Type) := St → Heap → List Bool → Option R
abbrev KE (R : Type) := Ex → St → Heap → List Bool → Option R
abbrev CallK (R : Type) := V → List V → Heap → List Bool → KV R → Option R

section
variable {R : Type}

/-- A branch: as the list says, or both. -/
def brK (t : Bool) (os : List Bool) (A B : List Bool → Option R) : Option R :=
  match os with
  | [] => if t = true then A [] else B []
  | true :: os => if t = true then A os else none
  | false :: os => if t = true then none else B os

def opK (c : Cfg) (call : CallK R) (o : Oper) (st : St) (H : Heap) (os : List Bool) (K : KV R) : Option R :=
  match o.op with
  | .call cl => match cl.callee with
    | .value f => match ev st f, evs st cl.args.toList with
      | some fv, some args => call fv args H os fun v H' os => callView c.P o.type v fun v => K v H' os
      | _, _ => none
    | _ => opX c noCall o st H fun v H => K v H os
  | .pick x a b => match ev st x, ev st a, ev st b with
    | some (.bool t), some (.bool p), some (.bool q) => K (.bool (cond t p q)) H os
    | some (.bool t), some p, some q => brK t os (K p H) (K q H)
    | _, _, _ => none
  | _ => opX c noCall o st H fun v H => K v H os

def opsK (c : Cfg) (call : CallK R) (ops : Array Oper) : List Nat → St → Heap → List Bool → KS R → Option R
  | [], st, H, os, K => K st H os
  | i :: is, st, H, os, K =>
    match ops[i]? with
    | none => none
    | some o => match o.guard with
      | none => opK c call o st H os fun v H os => opsK c call ops is (putT st o.dst v) H os K
      | some (j, want) => match (ops[j]?).bind (·.dst) with
        | none => none
        | some g => match st[g]? with
          | some (.bool b) => brK (b == want) os
            (fun os => opK c call o (st.set g (.bool want)) H os fun v H os => opsK c call ops is (putT (st.set g (.bool want)) o.dst v) H os K)
            (fun os => opsK c call ops is (putT (st.set g (.bool (!want))) o.dst (.tup [])) H os K)
          | some (.tup []) => opsK c call ops is (putT st o.dst (.tup [])) H os K
          | _ => none

def opAK (c : Cfg) (call : CallK R) (s : Nat) (o : Oper) (st : St) (H : Heap) (os : List Bool) (K : KV R) : Option R :=
  if isA o then match newX c o st with
    | some (cs, mk) => K (mk s) (H.set s (.cells true cs)) os
    | none => none
  else opK c call o st H os K

def opsDK (c : Cfg) (call : CallK R) (ops : Array Oper) : List Nat → Nat → St → Heap → List Tr → List Bool → (St → Heap → List Tr → List Bool → Option R) → Option R
  | [], _, st, H, tr, os, K => K st H tr os
  | i :: is, s, st, H, tr, os, K =>
    match ops[i]? with
    | none => none
    | some o => match o.guard with
      | none => opAK c call s o st H os fun v H' os => opsDK c call ops is (slot' s o) (putT st o.dst v) H' (tr ++ [⟨v, H, addrOf o st, s⟩]) os K
      | some (j, want) => match (ops[j]?).bind (·.dst) with
        | none => none
        | some g => match st[g]? with
          | some (.bool b) => brK (b == want) os
            (fun os => opAK c call s o (st.set g (.bool want)) H os fun v H' os => opsDK c call ops is (slot' s o) (putT (st.set g (.bool want)) o.dst v) H' (tr ++ [⟨v, H, addrOf o (st.set g (.bool want)), s⟩]) os K)
            (fun os => opsDK c call ops is (slot' s o) (putT (st.set g (.bool (!want))) o.dst (.tup [])) H (tr ++ [⟨.tup [], H, none, s⟩]) os K)
          | some (.tup []) => opsDK c call ops is (slot' s o) (putT st o.dst (.tup [])) H (tr ++ [⟨.tup [], H, none, s⟩]) os K
          | _ => none

def drawK (c : Cfg) (call : CallK R) (ops : Array Oper) (st : St) (H : Heap) (os : List Bool) (K : KS R) : Option R :=
  if drawOk c.P ops then
    opsDK c call ops (ordOf c.P ops) H.length st (H ++ List.replicate (numA c.P ops) .dead) [] os fun st H' tr os =>
      if chkAll c.P ops (masksOf ops.toList []) (ordOf c.P ops) (H.length + numA c.P ops) tr H' ops.size ops.size then K st H' os else none
  else none

/-- What is behind the first of two codes. -/
def seqK (go : KS R) (K : KE R) : KE R
  | .normal, st, H, os => go st H os
  | .exit id, st, H, os => K (.exit id) st H os
  | .ret, st, H, os => K .ret st H os

def blockK (id : Nat) (K : KE R) : KE R
  | .normal, st, H, os => K .normal st H os
  | .exit i, st, H, os => if i = id then K .normal st H os else K (.exit i) st H os
  | .ret, st, H, os => K .ret st H os

def iterK (body : St → Heap → List Bool → KE R → Option R) : Nat → St → Heap → List Bool → KE R → Option R
  | 0, _, _, _, _ => none
  | n + 1, st, H, os, K => body st H os (seqK (fun st H os => iterK body n st H os K) K)

/-- The first region of a code. -/
def rid : Code → Option Nat
  | .region id _ _ => some id
  | .seq a b => match rid a with
    | some i => some i
    | none => rid b
  | .block _ a => rid a
  | .loop a => rid a
  | _ => none

/-- Loops that are told by a summary: of a function, by the number of the loop's first region. -/
abbrev LoopK (R : Type) := Nat → Option (St → Heap → List Bool → KE R → Option R)

def noLp : LoopK R := fun _ => none

def codeK (c : Cfg) (lp : LoopK R) (call : CallK R) (f : FuncId) (n : Nat) (rd : Option Nat) : Code → St → Heap → List Bool → KE R → Option R
  | .skip, st, H, os, K => K .normal st H os
  | .region id ops draw, st, H, os, K =>
    if draw then drawK c call ops (masked c f id st) H os (K .normal)
    else opsK c call ops (List.range ops.size) (masked c f id st) H os (K .normal)
  | .seq a b, st, H, os, K => codeK c lp call f n rd a st H os (seqK (fun st H os => codeK c lp call f n rd b st H os K) K)
  | .cond x a b, st, H, os, K => match ev st x with
    | some (.bool t) => brK t os (fun os => codeK c lp call f n rd a st H os K) (fun os => codeK c lp call f n rd b st H os K)
    | _ => none
  | .block id a, st, H, os, K => codeK c lp call f n rd a st H os (blockK id K)
  | .loop a, st, H, os, K => match (rid a).bind lp with
    | some S => S st H os K
    | none => iterK (codeK c lp call f n rd a) n st H os K
  | .exit id, st, H, os, K => K (.exit id) st H os
  | .ret, st, H, os, K => K .ret st H os
  | .rangeFunc x params assign body, st, H, os, K =>
    match ev st x with
    | some (.fn g cs) => if (isLoop H rd && hasBody c.P g) = true then
      call (.fn g cs) [.yld H.length] (H ++ [.loop { fid := f, state := .ready, pending := none, st := st, params := params, assign := assign, body := body }]) os fun _ H2 os =>
      match H2[H.length]? with
      | some (.loop l) => if l.state = .busy then none else
        match l.pending with
        | none => K .normal st (H2.set H.length .dead) os
        | some (.exit id) => K (.exit id) st (H2.set H.length .dead) os
        | some .ret => K .ret st (H2.set H.length .dead) os
        | _ => none
      | _ => none
      else none
    | _ => none
  | _, _, _, _, _ => none

/-- What is behind a function's body. -/
def endK (P : Program) (rs : List ResultVar) (K : KV R) : KE R
  | .exit _, _, _, _ => none
  | .normal, st, H, os => resX P st H rs fun vs => K (oneOf vs) H os
  | .ret, st, H, os => resX P st H rs fun vs => K (oneOf vs) H os

/-- What is behind a round's body. -/
def roundK (l : Nat) (K : KV R) (e : Ex) (_st : St) (H2 : Heap) (os : List Bool) : Option R :=
  match H2[l]? with
  | some (.loop r2) => K (.bool (isNormal e)) (H2.set l (.loop { r2 with state := endOf e, pending := e.code })) os
  | _ => none

/-- What is behind what a round begins with. -/
def assignK (l : Nat) (go : St → Heap → List Bool → Option R) : KE R
  | .normal, st1, H1, os => match H1[l]? with
    | some (.loop r1) => if r1.state = .ready then go st1 (H1.set l (.loop { r1 with state := .busy })) os else none
    | _ => none
  | _, _, _, _ => none

def callK (c : Cfg) : Nat → CallK R
  | 0, _, _, _, _, _ => none
  | k + 1, .fn f cs, args, H, os, K =>
    match c.P.funcs[f]? with
    | none => none
    | some fn => match fn.body with
      | none => none
      | some body => if fn.name == "runtime.NumGoroutine" then none else
        if c.iso.contains f then
          (if plains args && plains cs then
            codeK c noLp (callK c k) f (k + 1) none body (args ++ cs ++ List.replicate (fn.ntmps - (args ++ cs).length) (.tup [])) [] os (endK c.P fn.results.toList fun v _ os => if v.plain then K v H os else none)
          else none)
        else
        codeK c noLp (callK c k) f (k + 1) none body (args ++ cs ++ List.replicate (fn.ntmps - (args ++ cs).length) (.tup [])) H os (endK c.P fn.results.toList K)
  | k + 1, .yld l, args, H, os, K =>
    match H[l]? with
    | some (.loop r) => if r.state = .ready ∧ args.length = r.params.size then
        codeK c noLp (callK c k) r.fid (k + 1) (some l) r.assign (setParams r.st r.params.toList args) H os
          (assignK l fun st1 H1 os => codeK c noLp (callK c k) r.fid (k + 1) (some l) r.body st1 H1 os (roundK l K))
      else none
    | _ => none
  | _ + 1, _, _, _, _, _ => none

/-! ### What it comes to -/

/-- Calls in that style are the small machine's. -/
def Snd (call : CallF) (ck : CallK R) : Prop := ∀ fv args H os K r, ck fv args H os K = some r → ∃ v H' os', call fv args H = some (v, H') ∧ K v H' os' = some r

theorem brK_some {t : Bool} {os : List Bool} {A B : List Bool → Option R} {r : R} (h : brK t os A B = some r) : (t = true ∧ ∃ os', A os' = some r) ∨ (t = false ∧ ∃ os', B os' = some r) := by
  unfold brK at h
  split at h
  · split at h
    · rename_i ht; exact .inl ⟨ht, _, h⟩
    · rename_i ht; exact .inr ⟨by simpa using ht, _, h⟩
  · split at h
    · rename_i ht; exact .inl ⟨ht, _, h⟩
    · cases h
  · split at h
    · cases h
    · rename_i ht; exact .inr ⟨by simpa using ht, _, h⟩

theorem opX_noCall {R' : Type} {c : Cfg} {call call' : CallF} {o : Oper} {st : St} {H : Heap} {K : V → Heap → Option R'} (h : isCall o = false) : opX c call o st H K = opX c call' o st H K := by
  unfold opX
  cases ho : o.op <;> first | rfl | skip
  rename_i cl
  cases hcl : cl.callee with
  | value f => simp [isCall, ho, hcl] at h
  | builtin b => cases b <;> simp only [hcl]
  | invoke x m => simp only [hcl]

theorem opK_ok {c : Cfg} {call : CallF} {ck : CallK R} (hc : Snd call ck) {o : Oper} {st : St} {H : Heap} {os : List Bool} {K : KV R} {r : R} (h : opK c ck o st H os K = some r) :
    ∃ v H' os', opX c call o st H ret2 = some (v, H') ∧ K v H' os' = some r := by
  have plain : isCall o = false → opX c noCall o st H (fun v H => K v H os) = some r → ∃ v H' os', opX c call o st H ret2 = some (v, H') ∧ K v H' os' = some r := by
    intro hi h
    rw [opX_split] at h
    obtain ⟨x, h1, h2⟩ := Option.bind_eq_some_iff.1 h
    rw [opX_noCall (call' := call) hi] at h1
    exact ⟨x.1, x.2, os, h1, h2⟩
  unfold opK at h
  split at h
  · rename_i cl ho
    split at h
    · rename_i f hf
      split at h
      · rename_i fv args h1 h2
        obtain ⟨v, H', os', k1, k2⟩ := hc _ _ _ _ _ _ h
        rw [callView_split] at k2
        obtain ⟨u, k3, k4⟩ := Option.bind_eq_some_iff.1 k2
        refine ⟨u, H', os', ?_, k4⟩
        unfold opX
        simp only [ho, hf, h1, h2, k1, Option.bind_some]
        rw [callView_split, k3]
        rfl
      · cases h
    · rename_i hno
      refine plain ?_ h
      unfold isCall
      rw [ho]
      cases hcc : cl.callee with
      | value f => exact absurd hcc (hno f)
      | builtin b => simp only [hcc]
      | invoke x m => simp only [hcc]
  · rename_i x a b ho
    split at h
    · rename_i t p q h1 h2 h3
      refine ⟨_, H, os, ?_, h⟩
      unfold opX
      simp only [ho, h1, h2, h3]
    · rename_i t p q hno h1 h2 h3
      rcases brK_some h with ⟨ht, os', h⟩ | ⟨ht, os', h⟩
      · refine ⟨p, H, os', ?_, h⟩
        unfold opX
        simp only [ho, h1, h2, h3, ht]
        cases p <;> cases q <;> first | rfl | (exact absurd rfl (fun _ => hno _ _ _ h1 h2 h3))
      · refine ⟨q, H, os', ?_, h⟩
        unfold opX
        simp only [ho, h1, h2, h3, ht]
        cases p <;> cases q <;> first | rfl | (exact absurd rfl (fun _ => hno _ _ _ h1 h2 h3))
    · cases h
  · rename_i hno1 hno2
    refine plain ?_ h
    unfold isCall
    split
    · rename_i cl ho; exact absurd ho (hno1 cl)
    · rfl

theorem beq_want {b want : Bool} (h : (b == want) = false) : b = !want := by cases b <;> cases want <;> simp_all

theorem opsK_ok {c : Cfg} {call : CallF} {ck : CallK R} (hc : Snd call ck) {ops : Array Oper} : ∀ {is : List Nat} {st : St} {H : Heap} {os : List Bool} {K : KS R} {r : R}, opsK c ck ops is st H os K = some r →
    ∃ st' H' os', opsX c call ops is st H (fun st H => some (st, H)) = some (st', H') ∧ K st' H' os' = some r
  | [], st, H, os, K, r, h => ⟨st, H, os, rfl, h⟩
  | i :: is, st, H, os, K, r, h => by
    unfold opsK at h
    unfold opsX
    split at h
    · cases h
    · rename_i o ho
      simp only [ho]
      split at h
      · rename_i hg
        obtain ⟨v, H1, os1, k1, k2⟩ := opK_ok hc h
        obtain ⟨st', H', os', k3, k4⟩ := opsK_ok hc k2
        refine ⟨st', H', os', ?_, k4⟩
        simp only [hg]
        rw [opX_split, k1]
        exact k3
      · rename_i j want hg
        simp only [hg]
        split at h
        · cases h
        · rename_i g hj
          simp only [hj]
          split at h
          · rename_i b hb
            simp only [hb]
            rcases brK_some h with ⟨ht, os1, h⟩ | ⟨ht, os1, h⟩
            · rw [if_pos (by simpa using ht)]
              obtain ⟨v, H1, os2, k1, k2⟩ := opK_ok hc h
              obtain ⟨st', H', os', k3, k4⟩ := opsK_ok hc k2
              refine ⟨st', H', os', ?_, k4⟩
              rw [opX_split, k1]
              exact k3
            · rw [if_neg (by simpa using ht)]
              exact opsK_ok hc h
          · rename_i hb
            simp only [hb]
            exact opsK_ok hc h
          · cases h

theorem opAK_ok {c : Cfg} {call : CallF} {ck : CallK R} (hc : Snd call ck) {s : Nat} {o : Oper} {st : St} {H : Heap} {os : List Bool} {K : KV R} {r : R} (h : opAK c ck s o st H os K = some r) :
    ∃ v H' os', opA c call s o st H ret2 = some (v, H') ∧ K v H' os' = some r := by
  unfold opAK at h
  unfold opA
  split at h
  · rename_i ha
    rw [if_pos ha]
    split at h
    · rename_i cs mk hn
      exact ⟨_, _, os, by simp only [hn], h⟩
    · cases h
  · rename_i ha
    rw [if_neg ha]
    exact opK_ok hc h

theorem opsDK_ok {c : Cfg} {call : CallF} {ck : CallK R} (hc : Snd call ck) {ops : Array Oper} : ∀ {is : List Nat} {s : Nat} {st : St} {H : Heap} {tr : List Tr} {os : List Bool} {K : St → Heap → List Tr → List Bool → Option R} {r : R}, opsDK c ck ops is s st H tr os K = some r →
    ∃ st' H' tr' os', opsD c call ops is s st H tr (fun st H tr => some (st, H, tr)) = some (st', H', tr') ∧ K st' H' tr' os' = some r
  | [], s, st, H, tr, os, K, r, h => ⟨st, H, tr, os, rfl, h⟩
  | i :: is, s, st, H, tr, os, K, r, h => by
    unfold opsDK at h
    unfold opsD
    split at h
    · cases h
    · rename_i o ho
      simp only [ho]
      split at h
      · rename_i hg
        obtain ⟨v, H1, os1, k1, k2⟩ := opAK_ok hc h
        obtain ⟨st', H', tr', os', k3, k4⟩ := opsDK_ok hc k2
        refine ⟨st', H', tr', os', ?_, k4⟩
        simp only [hg]
        rw [opA_split, k1]
        exact k3
      · rename_i j want hg
        simp only [hg]
        split at h
        · cases h
        · rename_i g hj
          simp only [hj]
          split at h
          · rename_i b hb
            simp only [hb]
            rcases brK_some h with ⟨ht, os1, h⟩ | ⟨ht, os1, h⟩
            · rw [if_pos (by simpa using ht)]
              obtain ⟨v, H1, os2, k1, k2⟩ := opAK_ok hc h
              obtain ⟨st', H', tr', os', k3, k4⟩ := opsDK_ok hc k2
              refine ⟨st', H', tr', os', ?_, k4⟩
              rw [opA_split, k1]
              exact k3
            · rw [if_neg (by simpa using ht)]
              exact opsDK_ok hc h
          · rename_i hb
            simp only [hb]
            exact opsDK_ok hc h
          · cases h

abbrev ret3 : Ex → St → Heap → Option (Ex × St × Heap) := fun e st H => some (e, st, H)

theorem codeX_run {c : Cfg} {call : CallF} {f : FuncId} {n : Nat} {rd : Option Nat} {code : Code} {st : St} {H : Heap} {e : Ex} {st' : St} {H' : Heap} (h : codeX c call f n rd code st H ret3 = some (e, st', H')) (K : Ex → St → Heap → Option R) :
    codeX c call f n rd code st H K = K e st' H' := by
  have := @codeX_then R _ c call f n rd (fun x => K x.1 x.2.1 x.2.2) code st H ret3
  rw [h] at this
  exact this.symm

/-- A summary of a loop is what the loop comes to. -/
def LoopOK (c : Cfg) (call : CallF) (f : FuncId) (n : Nat) (rd : Option Nat) (a : Code) (S : St → Heap → List Bool → KE R → Option R) : Prop :=
  ∀ st H os K r, S st H os K = some r → ∃ e st' H' os', codeX c call f n rd (.loop a) st H ret3 = some (e, st', H') ∧ K e st' H' os' = some r

def LoopsOK (c : Cfg) (lp : LoopK R) (call : CallF) (f : FuncId) (n : Nat) (rd : Option Nat) : Code → Prop
  | .seq a b => LoopsOK c lp call f n rd a ∧ LoopsOK c lp call f n rd b
  | .cond _ a b => LoopsOK c lp call f n rd a ∧ LoopsOK c lp call f n rd b
  | .block _ a => LoopsOK c lp call f n rd a
  | .loop a => match (rid a).bind lp with
    | some S => LoopOK c call f n rd a S
    | none => LoopsOK c lp call f n rd a
  | _ => True

theorem loopsOK_no {c : Cfg} {call : CallF} {f : FuncId} {n : Nat} {rd : Option Nat} : ∀ (code : Code), LoopsOK (R := R) c noLp call f n rd code := by
  intro code
  induction code with
  | seq a b iha ihb => exact ⟨iha, ihb⟩
  | cond x a b iha ihb => exact ⟨iha, ihb⟩
  | block id a ih => exact ih
  | loop a ih =>
    unfold LoopsOK
    have : (rid a).bind (noLp : LoopK R) = none := by cases rid a <;> rfl
    rw [this]
    exact ih
  | _ => exact trivial

theorem codeK_ok {c : Cfg} {lp : LoopK R} {call : CallF} {ck : CallK R} (hc : Snd call ck) {f : FuncId} {n : Nat} {rd : Option Nat} : ∀ {code : Code} {st : St} {H : Heap} {os : List Bool} {K : KE R} {r : R}, LoopsOK c lp call f n rd code → codeK c lp ck f n rd code st H os K = some r →
    ∃ e st' H' os', codeX c call f n rd code st H ret3 = some (e, st', H') ∧ K e st' H' os' = some r := by
  intro code
  induction code with
  | region id ops draw =>
    intro st H os K r hl h
    unfold codeK at h
    unfold codeX
    cases draw with
    | true =>
      simp only [if_true] at h ⊢
      unfold drawK at h
      unfold drawX
      split at h
      · rename_i hd
        rw [if_pos hd]
        obtain ⟨st', H', tr', os', k1, k2⟩ := opsDK_ok hc h
        split at k2
        · rename_i hch
          refine ⟨.normal, st', H', os', ?_, k2⟩
          have := @opsD_then (Ex × St × Heap) _ c call ops (fun x => if chkAll c.P ops (masksOf ops.toList []) (ordOf c.P ops) (H.length + numA c.P ops) x.2.2 x.2.1 ops.size ops.size then ret3 .normal x.1 x.2.1 else none) (ordOf c.P ops) H.length (masked c f id st) (H ++ List.replicate (numA c.P ops) .dead) [] (fun st H tr => some (st, H, tr))
          rw [k1] at this
          simp only [Option.bind_some, hch, if_true] at this
          exact this.symm
        · cases k2
      · cases h
    | false =>
      simp only [Bool.false_eq_true, if_false] at h ⊢
      obtain ⟨st', H', os', k1, k2⟩ := opsK_ok hc h
      refine ⟨.normal, st', H', os', ?_, k2⟩
      have := @opsX_then (Ex × St × Heap) _ c call ops (fun x => ret3 .normal x.1 x.2) (List.range ops.size) (masked c f id st) H (fun st H => some (st, H))
      rw [k1] at this
      exact this.symm
  | seq a b iha ihb =>
    intro st H os K r hl h
    unfold codeK at h
    unfold codeX
    obtain ⟨e, st1, H1, os1, k1, k2⟩ := iha hl.1 h
    rw [codeX_run k1]
    cases e with
    | normal => exact ihb hl.2 k2
    | exit id => exact ⟨_, _, _, _, rfl, k2⟩
    | ret => exact ⟨_, _, _, _, rfl, k2⟩
  | cond x a b iha ihb =>
    intro st H os K r hl h
    unfold codeK at h
    unfold codeX
    split at h
    · rename_i t ht
      simp only [ht]
      rcases brK_some h with ⟨hb, os', h⟩ | ⟨hb, os', h⟩
      · rw [if_pos hb]; exact iha hl.1 h
      · rw [if_neg (by simp [hb])]; exact ihb hl.2 h
    · cases h
  | block id a ih =>
    intro st H os K r hl h
    unfold codeK at h
    unfold codeX
    obtain ⟨e, st1, H1, os1, k1, k2⟩ := ih hl h
    rw [codeX_run k1]
    cases e with
    | normal => exact ⟨_, _, _, _, rfl, k2⟩
    | exit i =>
      simp only [blockK] at k2
      by_cases hi : i = id
      · rw [if_pos hi] at k2; exact ⟨.normal, st1, H1, os1, by simp [hi], k2⟩
      · rw [if_neg hi] at k2; exact ⟨.exit i, st1, H1, os1, by simp [hi], k2⟩
    | ret => exact ⟨_, _, _, _, rfl, k2⟩
  | loop a ih =>
    intro st H os K r hl h
    unfold LoopsOK at hl
    unfold codeK at h
    cases hp : (rid a).bind lp with
    | some S =>
      rw [hp] at hl h
      exact hl st H os K r h
    | none =>
      rw [hp] at hl h
      simp only at hl h
      unfold codeX
      have key : ∀ (m : Nat) {st : St} {H : Heap} {os : List Bool}, iterK (codeK c lp ck f n rd a) m st H os K = some r → ∃ e st' H' os', iterX (codeX c call f n rd a) m st H ret3 = some (e, st', H') ∧ K e st' H' os' = some r := by
        intro m
        induction m with
        | zero => intro st H os h; cases h
        | succ m ihm =>
          intro st H os h
          unfold iterK at h
          unfold iterX
          obtain ⟨e, st1, H1, os1, k1, k2⟩ := ih hl h
          rw [codeX_run k1]
          cases e with
          | normal => exact ihm k2
          | exit id => exact ⟨_, _, _, _, rfl, k2⟩
          | ret => exact ⟨_, _, _, _, rfl, k2⟩
      exact key n h
  | rangeFunc x params assign body =>
    intro st H os K r hl h
    unfold codeK at h
    unfold codeX
    split at h
    · rename_i g cs hx
      simp only [hx]
      split at h
      · rename_i hlp
        rw [if_pos hlp]
        obtain ⟨v, H2, os2, k1, k2⟩ := hc _ _ _ _ _ _ h
        rw [k1]
        simp only [Option.bind_some]
        split at k2
        · rename_i l hl2
          simp only [hl2]
          split at k2
          · cases k2
          · rename_i hb
            rw [if_neg hb]
            split at k2
            · rename_i hp; simp only [hp]; exact ⟨_, _, _, _, rfl, k2⟩
            · rename_i id hp; simp only [hp]; exact ⟨_, _, _, _, rfl, k2⟩
            · rename_i hp; simp only [hp]; exact ⟨_, _, _, _, rfl, k2⟩
            · cases k2
        · cases k2
      · cases h
    · cases h
  | skip => intro st H os K r hl h; exact ⟨_, _, _, _, rfl, h⟩
  | exit id => intro st H os K r hl h; exact ⟨_, _, _, _, rfl, h⟩
  | ret => intro st H os K r hl h; exact ⟨_, _, _, _, rfl, h⟩
  | _ => intro st H os K r hl h; simp [codeK] at h

theorem endK_ok {P : Program} {rs : List ResultVar} {K : KV R} {e : Ex} {st : St} {H : Heap} {os : List Bool} {r : R} (h : endK P rs K e st H os = some r) :
    (∀ id, e ≠ .exit id) ∧ ∃ vs, resX P st H rs some = some vs ∧ K (oneOf vs) H os = some r := by
  cases e with
  | exit id => cases h
  | normal =>
    refine ⟨fun id => by simp, ?_⟩
    simp only [endK] at h
    have := @resX_then R _ P st H (fun vs => K (oneOf vs) H os) rs some
    rw [show (fun vs => (some vs).bind fun vs => K (oneOf vs) H os) = fun vs => K (oneOf vs) H os from rfl, h] at this
    exact Option.bind_eq_some_iff.1 this
  | ret =>
    refine ⟨fun id => by simp, ?_⟩
    simp only [endK] at h
    have := @resX_then R _ P st H (fun vs => K (oneOf vs) H os) rs some
    rw [show (fun vs => (some vs).bind fun vs => K (oneOf vs) H os) = fun vs => K (oneOf vs) H os from rfl, h] at this
    exact Option.bind_eq_some_iff.1 this

theorem resX_run {P : Program} {rs : List ResultVar} {st : St} {H : Heap} {vs : List V} (h : resX P st H rs some = some vs) {R' : Type} (K : List V → Option R') : resX P st H rs K = K vs := by
  have := @resX_then R' _ P st H K rs some
  rw [h] at this
  exact this.symm

/-- Calls, in either style. -/
theorem callK_ok (c : Cfg) : ∀ k, Snd (R := R) (callX c k) (callK c k)
  | 0, fv, args, H, os, K, r, h => by cases fv <;> cases h
  | k + 1, fv, args, H, os, K, r, h => by
    have ih := callK_ok c k
    cases fv with
    | fn f cs =>
      unfold callK at h
      unfold callX
      split at h
      · cases h
      · rename_i fn hfn
        simp only [hfn]
        split at h
        · cases h
        · rename_i body hb
          simp only [hb]
          split at h
          · cases h
          · rename_i hng
            rw [if_neg hng]
            split at h
            · rename_i hiso
              rw [if_pos hiso]
              split at h
              · rename_i hpl
                rw [if_pos hpl]
                obtain ⟨e, st', H', os', k1, k2⟩ := codeK_ok ih (loopsOK_no _) h
                obtain ⟨k3, vs, k4, k5⟩ := endK_ok k2
                split at k5
                · rename_i hp
                  refine ⟨oneOf vs, H, os', ?_, k5⟩
                  rw [codeX_run k1]
                  cases e with
                  | exit id => exact absurd rfl (k3 id)
                  | normal => simp only [resX_run k4, Option.bind_some, hp, if_true]
                  | ret => simp only [resX_run k4, Option.bind_some, hp, if_true]
                · cases k5
              · cases h
            · rename_i hiso
              rw [if_neg hiso]
              obtain ⟨e, st', H', os', k1, k2⟩ := codeK_ok ih (loopsOK_no _) h
              obtain ⟨k3, vs, k4, k5⟩ := endK_ok k2
              refine ⟨oneOf vs, H', os', ?_, k5⟩
              rw [codeX_run k1]
              cases e with
              | exit id => exact absurd rfl (k3 id)
              | normal => simp only [resX_run k4]
              | ret => simp only [resX_run k4]
    | yld l =>
      unfold callK at h
      unfold callX
      split at h
      · rename_i rr hr
        simp only [hr]
        split at h
        · rename_i hc
          rw [if_pos hc]
          obtain ⟨e, st', H', os', k1, k2⟩ := codeK_ok ih (loopsOK_no _) h
          rw [codeX_run k1]
          cases e with
          | normal =>
            simp only [assignK] at k2 ⊢
            split at k2
            · rename_i r1 h1
              simp only [h1]
              split at k2
              · rename_i h2
                rw [if_pos h2]
                obtain ⟨e2, st2, H2, os2, j1, j2⟩ := codeK_ok ih (loopsOK_no _) k2
                rw [codeX_run j1]
                unfold roundK at j2
                split at j2
                · rename_i r2 h3
                  simp only [h3]
                  exact ⟨_, _, os2, rfl, j2⟩
                · cases j2
              · cases k2
            · cases k2
          | exit id => cases k2
          | ret => cases k2
        · cases h
      · cases h
    | _ => cases h

end
end Go.Vm
