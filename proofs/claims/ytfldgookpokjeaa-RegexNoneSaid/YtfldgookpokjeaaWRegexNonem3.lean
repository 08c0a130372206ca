import Derived.Test.YtfldgookpokjeaaWRegexNonem2
set_option linter.unusedSimpArgs false
set_option linter.unusedVariables false
namespace Go.Xe
noncomputable section
abbrev O:=Option SV
abbrev KF:=Fr→HW→Rs
abbrev KX:=Nat→Fr→HW→Rs
abbrev K0:=HW→Rs
abbrev K1:=O→K0
abbrev K2:=O→K1
abbrev K3:=O→K2
abbrev K4:=O→K3
abbrev K5:=O→K4
abbrev K6:=O→K5
abbrev K7:=O→K6
abbrev K8:=O→K7
abbrev K9:=O→K8
abbrev K10:=O→K9
def sub(c:Code):List Nat→Code
 | []=>c
 |i::p=>match c with
  | .seq a b=>sub (bif Nat.beq i 0 then a else b) p
  | .cond _ a b=>sub (bif Nat.beq i 0 then a else b) p
  | .block _ a=>sub a p
  | .loop a=>sub a p
  | .rangeFunc _ _ a c=>sub (bif Nat.beq i 0 then a else c) p
  |c=>c
def bk(id:Nat)(kn:Fr→HW→Rs)(ke:Nat→Fr→HW→Rs):Nat→Fr→HW→Rs:=fun i F h=>bif Nat.beq i id then kn F h else ke i F h
def lp{α:Type}(body:(α→HW→Rs)→α→HW→Rs)(n:Nat):α→HW→Rs:=Nat.rec (motive:=fun _=>α→HW→Rs) (fun _ _=>none) (fun _ ih s h=>body ih s h) n
def bs(l:List Nat):ByteArray:=⟨(l.map fun n=>UInt8.ofNat n).toArray⟩
section
variable{P:Program}{C:YC}{N:Nat}{ord:Nat→Hint}{lf:Nat}{c a b:Code}{KN KR:Fr→HW→Rs}{KE:Nat→Fr→HW→Rs}
theorem cSeq(hc:c= .seq a b){A B:Fr→HW→Rs}(hb:∀F h,evY P C N ord lf b F h KN KR KE=B F h)(ha:∀F h,evY P C N ord lf a F h B KR KE=A F h)(F:Fr)(h:HW):evY P C N ord lf c F h KN KR KE=A F h:=by
 subst hc
 have:(fun F h=>evY P C N ord lf b F h KN KR KE)=B:=funext fun F=>funext fun h=>hb F h
 show evY P C N ord lf a F h (fun F h=>evY P C N ord lf b F h KN KR KE) KR KE=A F h;rw[this];exact ha F h
theorem cBlock{id:Nat}(hc:c= .block id a){A:Fr→HW→Rs}(ha:∀F h,evY P C N ord lf a F h KN KR (bk id KN KE)=A F h)(F:Fr)(h:HW):evY P C N ord lf c F h KN KR KE=A F h:=by
 subst hc;exact ha F h
theorem cCond{x:Operand}(hc:c= .cond x a b){A B:Fr→HW→Rs}(ha:∀F h,evY P C N ord lf a F h KN KR KE=A F h)(hb:∀F h,evY P C N ord lf b F h KN KR KE=B F h)(F:Fr)(h:HW):
 evY P C N ord lf c F h KN KR KE=yl h.ng F x fun y=>yIf y (A F h) (B F h):=by
 subst hc;show(yl h.ng F x fun y=>yIf y (evY P C N ord lf a F h KN KR KE) (evY P C N ord lf b F h KN KR KE))=_;rw[ha,hb]
theorem cLoop{α:Type}{g:Fr→α}{body:(α→HW→Rs)→α→HW→Rs}(hc:c= .loop a)(hb:∀(k:α→HW→Rs) F h,evY P C N ord lf a F h (fun F h=>k (g F) h) KR KE=body k (g F) h)(F:Fr)(h:HW):
 evY P C N ord lf c F h KN KR KE=lp body lf (g F) h:=by
 subst hc;show yLoop (fun F h k=>evY P C N ord lf a F h k KR KE) lf F h=lp body lf (g F) h
 have:∀n F h,yLoop (fun F h k=>evY P C N ord lf a F h k KR KE) n F h=lp body n (g F) h:=by
  intro n
  induction n with
  |zero=>intro F h;rfl
  |succ n ih=>
   intro F h;show evY P C N ord lf a F h (yLoop (fun F h k=>evY P C N ord lf a F h k KR KE) n) KR KE=body (lp body n) (g F) h;have e:yLoop (fun F h k=>evY P C N ord lf a F h k KR KE) n=fun F h=>lp body n (g F) h:=funext fun F=>funext fun h=>ih F h
   rw[e];exact hb _ F h
 exact this lf F h
abbrev subX(x:XF P)(p:List Nat):Code:=sub (x.fn.body.getD .skip) p
abbrev evX(x:XF P)(C:YC)(lf:Nat)(p:List Nat):=evY P C x.fn.ntmps x.ord lf (subX x p)
theorem fnX{x:XF P}{args:List SV}{h:HW}{K:Fr→HW→Rs}{R:Rs}(hk:yFin P x.fn=K)(e:evX x C lf [] (frOf args) h K K (fun _ _ _=>none)=R):yFn P x C lf args h=R:=by
 subst hk;exact e
abbrev evZX(x:XF P)(C:YC)(lf:Nat)(p:List Nat):=evZ P C x.fn.ntmps x.ord x.f none lf (subX x p)
def bkZ(id:Nat)(kn:KZ)(ke:Nat→KZ):Nat→KZ:=fun i L F h=>bif Nat.beq i id then kn L F h else ke i L F h
theorem zPlain{x:XF P}{p:List Nat}(hc:plainC (subX x p)=true){kn kr:KZ}{ke:Nat→KZ}{A:KZ}(e:∀L F h,evX x C lf p F h (kn L) (kr L) (fun i=>ke i L)=A L F h)(L:List Nat)(F:Fr)(h:HW):evZX x C lf p L F h kn kr ke=A L F h:=
 (evZ_plain hc).trans (e L F h)
section
variable{me:FuncId}{ZN ZR:KZ}{ZE:Nat→KZ}
theorem zSeq(hc:c= .seq a b){A B:KZ}(hb:∀L F h,evZ P C N ord me none lf b L F h ZN ZR ZE=B L F h)(ha:∀L F h,evZ P C N ord me none lf a L F h B ZR ZE=A L F h)(L:List Nat)(F:Fr)(h:HW):evZ P C N ord me none lf c L F h ZN ZR ZE=A L F h:=by
 subst hc
 have:(fun L F h=>evZ P C N ord me none lf b L F h ZN ZR ZE)=B:=funext fun L=>funext fun F=>funext fun h=>hb L F h
 show evZ P C N ord me none lf a L F h (fun L F h=>evZ P C N ord me none lf b L F h ZN ZR ZE) ZR ZE=A L F h;rw[this];exact ha L F h
theorem zBlock{id:Nat}(hc:c= .block id a){A:KZ}(ha:∀L F h,evZ P C N ord me none lf a L F h ZN ZR (bkZ id ZN ZE)=A L F h)(L:List Nat)(F:Fr)(h:HW):evZ P C N ord me none lf c L F h ZN ZR ZE=A L F h:=by
 subst hc;exact ha L F h
theorem zRange{g:Operand}{ps:Array Tmp}{us es:List Nat}{rb:Bool}(hc:c= .rangeFunc g ps a b)(hu:keepOf ord N b=us)(hr:retC b=rb)(he:exC b=es)(L:List Nat)(F:Fr)(h:HW):
 evZ P C N ord me none lf c L F h ZN ZR ZE=yl h.ng F g fun y=>rangeT C ord me none N ps a b y L (layT (us.map fun t=>(t,F t))) h (fun L h=>ZN L F h) (bif rb then(fun L h=>ZR L F h) else noT) (es.map fun i=>(i,fun L h=>ZE i L F h)):=by
 subst hc hu hr he;rfl
end
theorem fnZ{x:XF P}{args:List SV}{h:HW}{K:KZ}{R:Rs}(hk:zFin P x.fn=K)(e:evZX x C lf [] [] (frOf args) h K K (fun _ _ _ _=>none)=R):yFnZ P x C lf args h=noPan R:=by
 subst hk;unfold yFnZ;exact congrArg noPan e
end
structure YX (P:Program) where
 x:XF P
 s:YC→Nat→List SV→HW→Rs
 eq:∀C lf args h r,s C lf args h=some r→Nat.ble args.length x.fn.ntmps=true∧(yFn P x C lf args h=some r∨yFnZ P x C lf args h=some r)
def Y0{P:Program}(x:XF P)(s:YC→Nat→HW→Rs)(e:∀C lf h,yFn P x C lf [] h=s C lf h)(hn:Nat.ble 0 x.fn.ntmps=true):YX P:=⟨x,fun C lf args h=>match args with
 | []=>s C lf h
 |_=>none,fun C lf args h r he=>by
 rcases args with _|⟨_,_⟩<;>first|(cases he;done)|exact⟨hn,.inl ((e ..).trans he)⟩⟩
def Y1{P:Program}(x:XF P)(s:YC→Nat→SV→HW→Rs)(e:∀C lf a0 h,yFn P x C lf [a0] h=s C lf a0 h)(hn:Nat.ble 1 x.fn.ntmps=true):YX P:=⟨x,fun C lf args h=>match args with
 | [a0]=>s C lf a0 h
 |_=>none,fun C lf args h r he=>by
 rcases args with _|⟨a0,_|⟨_,_⟩⟩<;>first|(cases he;done)|exact⟨hn,.inl ((e ..).trans he)⟩⟩
def Y2{P:Program}(x:XF P)(s:YC→Nat→SV→SV→HW→Rs)(e:∀C lf a0 a1 h,yFn P x C lf [a0,a1] h=s C lf a0 a1 h)(hn:Nat.ble 2 x.fn.ntmps=true):YX P:=⟨x,fun C lf args h=>match args with
 | [a0,a1]=>s C lf a0 a1 h
 |_=>none,fun C lf args h r he=>by
 rcases args with _|⟨a0,_|⟨a1,_|⟨_,_⟩⟩⟩<;>first|(cases he;done)|exact⟨hn,.inl ((e ..).trans he)⟩⟩
def Y3{P:Program}(x:XF P)(s:YC→Nat→SV→SV→SV→HW→Rs)(e:∀C lf a0 a1 a2 h,yFn P x C lf [a0,a1,a2] h=s C lf a0 a1 a2 h)(hn:Nat.ble 3 x.fn.ntmps=true):YX P:=⟨x,fun C lf args h=>match args with
 | [a0,a1,a2]=>s C lf a0 a1 a2 h
 |_=>none,fun C lf args h r he=>by
 rcases args with _|⟨a0,_|⟨a1,_|⟨a2,_|⟨_,_⟩⟩⟩⟩<;>first|(cases he;done)|exact⟨hn,.inl ((e ..).trans he)⟩⟩
def Y4{P:Program}(x:XF P)(s:YC→Nat→SV→SV→SV→SV→HW→Rs)(e:∀C lf a0 a1 a2 a3 h,yFn P x C lf [a0,a1,a2,a3] h=s C lf a0 a1 a2 a3 h)(hn:Nat.ble 4 x.fn.ntmps=true):YX P:=⟨x,fun C lf args h=>match args with
 | [a0,a1,a2,a3]=>s C lf a0 a1 a2 a3 h
 |_=>none,fun C lf args h r he=>by
 rcases args with _|⟨a0,_|⟨a1,_|⟨a2,_|⟨a3,_|⟨_,_⟩⟩⟩⟩⟩<;>first|(cases he;done)|exact⟨hn,.inl ((e ..).trans he)⟩⟩
def Y5{P:Program}(x:XF P)(s:YC→Nat→SV→SV→SV→SV→SV→HW→Rs)(e:∀C lf a0 a1 a2 a3 a4 h,yFn P x C lf [a0,a1,a2,a3,a4] h=s C lf a0 a1 a2 a3 a4 h)(hn:Nat.ble 5 x.fn.ntmps=true):YX P:=⟨x,fun C lf args h=>match args with
 | [a0,a1,a2,a3,a4]=>s C lf a0 a1 a2 a3 a4 h
 |_=>none,fun C lf args h r he=>by
 rcases args with _|⟨a0,_|⟨a1,_|⟨a2,_|⟨a3,_|⟨a4,_|⟨_,_⟩⟩⟩⟩⟩⟩<;>first|(cases he;done)|exact⟨hn,.inl ((e ..).trans he)⟩⟩
def Z5{P:Program}(x:XF P)(s:YC→Nat→SV→SV→SV→SV→SV→HW→Rs)(e:∀C lf a0 a1 a2 a3 a4 h,yFnZ P x C lf [a0,a1,a2,a3,a4] h=s C lf a0 a1 a2 a3 a4 h)(hn:Nat.ble 5 x.fn.ntmps=true):YX P:=⟨x,fun C lf args h=>match args with
 | [a0,a1,a2,a3,a4]=>s C lf a0 a1 a2 a3 a4 h
 |_=>none,fun C lf args h r he=>by
 rcases args with _|⟨a0,_|⟨a1,_|⟨a2,_|⟨a3,_|⟨a4,_|⟨_,_⟩⟩⟩⟩⟩⟩<;>first|(cases he;done)|exact⟨hn,.inr ((e ..).trans he)⟩⟩
end
end Go.Xe
namespace Go.Xe
def Ext(f g:CallF):Prop:=∀c args X r,f c args X=some r→g c args X=some r
def DExt(f g:DCallF):Prop:=∀i args u X r,f i args u X=some r→g i args u X=some r
def EExt(f g:Tr SV→XW→R):Prop:=∀F X r,f F X=some r→g F X=some r
def JExt(f g:JumpF):Prop:=∀c d F X r,f c d F X=some r→g c d F X=some r
def CExt(f g:Code→Tr SV→XW→R):Prop:=∀c F X r,f c F X=some r→g c F X=some r
section
variable{P:Program}{f g:CallF}{N:Nat}
theorem evOpO_mono(hx:Ext f g){o:Oper}{F:Tr SV}{X:XW}{r:Out×XW}(h:evOpO P f o F X=some r):evOpO P g o F X=some r:=by
 rw[evOpO_eq] at h⊢;cases hl:looks X.ng F o.op.operands.toList with
 |none=>rw[hl] at h;cases h
 |some vals=>
  rw[hl] at h;simp only[] at h⊢;generalize o.op=op at h;cases op<;>try exact h
  rename_i c;simp only[evV] at h⊢;split at h
  ·exact h
  ·rename_i hb;split at h<;>try(cases h;done)
   rename_i cal args hc;exact hx _ _ _ _ h
theorem evOp_mono(hx:Ext f g){o:Oper}{F:Tr SV}{X:XW}{r:SV×XW}(h:evOp P f o F X=some r):evOp P g o F X=some r:=by
 obtain⟨y,X'⟩:=r;exact evOp_of (evOpO_mono hx (evOpO_ret h))
theorem stepE_mono(hx:Ext f g){ops:List Oper}{o:Oper}{F:Tr SV}{X:XW}{r:Tr SV×XW}(h:stepE P f N ops o F X=some r):stepE P g N ops o F X=some r:=by
 unfold stepE at h⊢;split at h
 ·rename_i X1 hw;split at h<;>try(cases h;done)
  rename_i y X2 he;simp only[evOp_mono hx he];exact h
 ·exact h
 ·cases h
theorem stepO_mono(hx:Ext f g){ops:List Oper}{o:Oper}{F:Tr SV}{X:XW}{r:Option Chain×Tr SV×XW}(h:stepO P f N ops o F X=some r):stepO P g N ops o F X=some r:=by
 unfold stepO at h⊢;split at h
 ·rename_i X1 hw;cases hd:isDefer o.op with
  |true=>simp only[hd,cond_true] at h⊢;exact h
  |false=>
   simp only[hd,cond_false] at h⊢;cases he:evOpO P f o F X1 with
   |none=>simp[he] at h
   |some r'=>rw[he] at h;rw[evOpO_mono hx he];exact h
 ·exact h
 ·cases h
theorem evOps_mono(hx:Ext f g){ops:List Oper}:∀{l:List Oper} {F:Tr SV} {X:XW} {r:Option Chain×Tr SV×XW},evOps P f N ops l F X=some r→evOps P g N ops l F X=some r
 | [],F,X,r,h=>h
 |o::rest,F,X,r,h=>by
  simp only[evOps] at h⊢;cases hs:stepO P f N ops o F X with
  |none=>simp[hs] at h
  |some r'=>
   rw[hs] at h;rw[stepO_mono hx hs];obtain⟨ch,F1,X1⟩:=r';cases ch with
   |none=>exact evOps_mono hx h
   |some ch=>exact h
theorem evD_mono(hx:Ext f g){ops:List Oper}{chk:List (Nat×List Nat)}:∀{is:List Nat} {recs:List (Nat×Option Nat)} {F:Tr SV} {X:XW} {r:Tr SV×XW},evD P f N ops chk is recs F X=some r→evD P g N ops chk is recs F X=some r
 | [],recs,F,X,r,h=>h
 |k::ks,recs,F,X,r,h=>by
  simp only[evD] at h⊢;split at h<;>try(cases h;done)
  rename_i o ho;cases hs:stepE P f N ops o F X with
  |none=>simp[hs] at h
  |some r'=>
   rw[hs] at h;rw[stepE_mono hx hs];obtain⟨F1,X1⟩:=r';simp only[] at h⊢;cases hc:chkOK recs X X1 (chkOf chk k) with
   |false=>simp[hc] at h
   |true=>simp only[hc,cond_true] at h⊢;exact evD_mono hx h
theorem stepN_mono(hx:Ext f g){ops:List Oper}{rs:List Nat}{base k:Nat}{o:Oper}{F:Tr SV}{X:XW}{r:Tr SV×XW}(h:stepN P f N ops rs base k o F X=some r):stepN P g N ops rs base k o F X=some r:=by
 unfold stepN at h⊢;cases hn:newR rs k o.op with
 |true=>simp only[hn,cond_true] at h⊢;exact h
 |false=>simp only[hn,cond_false] at h⊢;exact stepE_mono hx h
theorem evN_mono(hx:Ext f g){ops:List Oper}{rs:List Nat}{chk:List (Nat×List Nat)}{base:Nat}:∀{is:List Nat} {recs:List (Nat×Option Nat)} {F:Tr SV} {X:XW} {r:Tr SV×XW},evN P f N ops rs chk base is recs F X=some r→evN P g N ops rs chk base is recs F X=some r
 | [],recs,F,X,r,h=>h
 |k::ks,recs,F,X,r,h=>by
  simp only[evN] at h⊢;split at h<;>try(cases h;done)
  rename_i o ho;cases hl:lowRead P ops base o F X with
  |false=>simp[hl] at h
  |true=>
   simp only[hl,cond_true] at h⊢;cases hs:stepN P f N ops rs base k o F X with
   |none=>simp[hs] at h
   |some r'=>
    rw[hs] at h;rw[stepN_mono hx hs];obtain⟨F1,X1⟩:=r';simp only[] at h⊢;cases hc:chkOK recs X X1 (chkOf chk k) with
    |false=>simp[hc] at h
    |true=>simp only[hc,cond_true] at h⊢;exact evN_mono hx h
theorem loopE_mono{b b':Tr SV→XW→R}(hb:EExt b b'):∀n,EExt (loopE b n) (loopE b' n)
 |0=>fun F X r h=>h
 |n+1=>fun F X r h=>by
  have h:(match b F X with|some (.nm,F,X)=>loopE b n F X|r=>r)=some r:=h;show(match b' F X with|some (.nm,F,X)=>loopE b' n F X|r=>r)=some r;cases he:b F X with
  |none=>rw[he] at h;cases h
  |some q=>
   rw[he] at h;rw[hb _ _ _ he];obtain⟨ex,F1,X1⟩:=q;cases ex with
   |nm=>exact loopE_mono hb n F1 X1 r h
   |_=>exact h
theorem rangeE_mono(hx:Ext f g){ord:Nat→Hint}{me:FuncId}{rd:Option Nat}{ps:Array Tmp}{a c:Code}{y:SV}:EExt (rangeE f ord me rd N ps a c y) (rangeE g ord me rd N ps a c y):=by
 intro F X r h;unfold rangeE at h⊢;split at h
 ·rename_i fi fa fb b X1 hb;split at h
  ·rename_i y' X2 he;rw[hx _ _ _ _ he];exact h
  ·rename_i ch X2 he;rw[hx _ _ _ _ he];exact h
  ·cases h
 ·cases h
theorem evC_mono(hx:Ext f g){ord:Nat→Hint}{me:FuncId}{rd:Option Nat}{lf:Nat}{j j':JumpF}(hj:JExt j j'):CExt (evC P f ord me rd N lf j) (evC P g ord me rd N lf j'):=by
 intro c
 induction c with
 |region id ops d=>
  intro F X r h;cases d with
  |false=>
   simp only[evC] at h⊢;cases he:evOps P f N ops.toList ops.toList F X with
   |none=>simp[he] at h
   |some q=>rw[he] at h;rw[evOps_mono hx he];exact h
  |true=>
   simp only[evC] at h⊢;cases ho:ord id with
   |text=>
    simp only[ho] at h⊢;cases he:evD P f N ops.toList [] (List.range ops.size) [] F {X with orc:=[]} with
    |none=>simp[he] at h
    |some q=>rw[he] at h;rw[evD_mono hx he];exact h
   |skip=>simp[ho] at h
   |ord is chk=>
    simp only[ho] at h⊢;cases he:evD P f N ops.toList chk is [] F {X with orc:=[]} with
    |none=>simp[he] at h
    |some q=>rw[he] at h;rw[evD_mono hx he];exact h
   |news is rs chk=>
    simp only[ho,force_eq] at h⊢;cases hd:allDead X X.next rs with
    |false=>simp[hd] at h
    |true=>
     simp only[hd,cond_true] at h⊢;cases he:evN P f N ops.toList rs chk X.next is [] F {X with orc:=[],next:=X.next+ops.size} with
     |none=>simp[he] at h
     |some q=>rw[he] at h;rw[evN_mono hx he];exact h
 |seq a b iha ihb=>
  intro F X r h;simp only[evC] at h⊢;cases he:evC P f ord me rd N lf j a F X with
  |none=>simp[he] at h
  |some q=>
   rw[he] at h;rw[iha _ _ _ he];obtain⟨ex,F1,X1⟩:=q;cases ex with
   |nm=>exact ihb _ _ _ h
   |_=>exact h
 |cond x a b iha ihb=>
  intro F X r h;simp only[evC] at h⊢;split at h<;>try(cases h;done)
  rename_i y hy;split at h
  ·exact iha _ _ _ h
  ·exact ihb _ _ _ h
  ·cases h
 |block id c ih=>
  intro F X r h;simp only[evC] at h⊢;cases he:evC P f ord me rd N lf j c F X with
  |none=>simp[he] at h
  |some q=>rw[he] at h;rw[ih _ _ _ he];exact h
 |loop c ih=>
  intro F X r h;exact loopE_mono (fun F X r h=>ih F X r h) lf F X r h
 |scope c ih=>
  intro F X r h;simp only[evC] at h⊢;cases he:evC P f ord me rd N lf j c F X with
  |none=>simp[he] at h
  |some q=>
   rw[he] at h;rw[ih _ _ _ he];obtain⟨ex,F1,X1⟩:=q;cases ex with
   |gt l=>
    simp only[] at h⊢;split at h
    ·exact hj _ _ _ _ _ h
    ·exact h
   |_=>exact h
 |rangeFunc x ps a c iha ihc=>
  intro F X r h;simp only[evC] at h⊢;split at h<;>try(cases h;done)
  exact rangeE_mono hx _ _ _ h
 |_=>intro F X r h;exact h
theorem jumpE_mono(hx:Ext f g){ord:Nat→Hint}{me:FuncId}{rd:Option Nat}{lf:Nat}:∀n,JExt (jumpE P f ord me rd N lf n) (jumpE P g ord me rd N lf n)
 |0=>fun _ _ _ _ _ h=>h
 |n+1=>fun c d F X r h=>by
  have h:(match evC P f ord me rd N lf (jumpE P f ord me rd N lf n) d F X with
   |some (.gt l,F,X)=>(match findLabel c l with
    |some rest=>jumpE P f ord me rd N lf n c rest F X
    |none=>some (.gt l,F,X))
   |r=>r)=some r:=h
  show(match evC P g ord me rd N lf (jumpE P g ord me rd N lf n) d F X with
   |some (.gt l,F,X)=>(match findLabel c l with
    |some rest=>jumpE P g ord me rd N lf n c rest F X
    |none=>some (.gt l,F,X))
   |r=>r)=some r
  cases he:evC P f ord me rd N lf (jumpE P f ord me rd N lf n) d F X with
  |none=>rw[he] at h;cases h
  |some q=>
   rw[he] at h;rw[evC_mono hx (jumpE_mono hx n) _ _ _ _ he];obtain⟨ex,F1,X1⟩:=q;cases ex with
   |gt l=>
    simp only[] at h⊢;split at h
    ·exact jumpE_mono hx n _ _ _ _ _ h
    ·exact h
   |_=>exact h
theorem evCj_mono(hx:Ext f g){ord:Nat→Hint}{me:FuncId}{rd:Option Nat}{lf:Nat}:CExt (evC P f ord me rd N lf (jumpE P f ord me rd N lf lf)) (evC P g ord me rd N lf (jumpE P g ord me rd N lf lf)):=
 evC_mono hx (jumpE_mono hx lf)
theorem evCD_mono{ev ev':Code→Tr SV→XW→R}(he:CExt ev ev'):∀(c:Code) {F:Tr SV} {X:XW} {u:Mode} {r:Ex×Tr SV×XW×Mode},evCD P N ev c F X u=some r→evCD P N ev' c F X u=some r:=by
 intro c
 have base:∀(c:Code) {F:Tr SV} {X:XW} {u:Mode} {r:Ex×Tr SV×XW×Mode},(match ev c F X with|some (ex,F,X)=>some (ex,F,X,u)|none=>none)=some r→(match ev' c F X with|some (ex,F,X)=>some (ex,F,X,u)|none=>none)=some r:=by
  intro c F X u r h;cases hc:ev c F X with
  |none=>simp[hc] at h
  |some q=>rw[hc] at h;rw[he _ _ _ _ hc];exact h
 induction c with
 |seq a b iha ihb=>
  intro F X u r h;simp only[evCD] at h⊢;cases hc:evCD P N ev a F X u with
  |none=>simp[hc] at h
  |some q=>
   rw[hc] at h;rw[iha hc];obtain⟨ex,F1,X1,u1⟩:=q;cases ex with
   |nm=>exact ihb h
   |_=>exact h
 |cond x a b iha ihb=>
  intro F X u r h;simp only[evCD] at h⊢;split at h<;>try(cases h;done)
  split at h
  ·exact iha h
  ·exact ihb h
  ·cases h
 |region id ops d=>
  intro F X u r h;cases d with
  |true=>exact base _ h
  |false=>
   simp only[evCD] at h⊢;cases hr:hasRec ops.toList with
   |true=>simp only[hr,cond_true] at h⊢;exact h
   |false=>simp only[hr,cond_false] at h⊢;exact base _ h
 |_=>intro F X u r h;exact base _ h
theorem round_mono{ev ev':Code→Tr SV→XW→R}(he:CExt ev ev'){k:Nat}{F:Tr SV}{ps:Array Tmp}{a c:Code}{args:List SV}{X:XW}{r:Out×XW}(h:roundE ev k N F ps a c args X=some r):roundE ev' k N F ps a c args X=some r:=by
 unfold roundE at h⊢;cases hb:Nat.beq args.length ps.size with
 |false=>simp[hb] at h
 |true=>
  simp only[hb,cond_true] at h⊢;split at h<;>try(cases h;done)
  rename_i F1 X1 h1;rw[he _ _ _ _ h1];simp only[] at h⊢;split at h<;>try(cases h;done)
  rename_i o ho;cases hr:isReady o with
  |false=>simp[hr] at h
  |true=>
   simp only[hr,cond_true] at h⊢;split at h<;>try(cases h;done)
   rename_i X2 h2
   try simp only[h2] at h⊢
   cases hc:ev c F1 X2 with
   |none=>simp[hc] at h
   |some q=>rw[hc] at h;rw[he _ _ _ _ hc];exact h
theorem leave_mono{d d':DCallF}(hd:DExt d d'){fn:Func}{F:Tr SV}:∀{D:List SD} {u:Mode} {X:XW} {r:Out×XW},leaveE P d fn F D u X=some r→leaveE P d' fn F D u X=some r
 | [],u,X,r,h=>by cases u<;>exact h
 | .coll k::ds,u,X,r,h=>by
   simp only[leaveE] at h⊢;split at h<;>try(cases h;done)
   split at h<;>try(cases h;done)
   exact leave_mono hd h
 | .call i xs ys::ds,u,X,r,h=>by
   simp only[leaveE] at h⊢;cases hc:d i (xs++ys) u X with
   |none=>simp[hc] at h
   |some q=>
    rw[hc] at h;rw[hd _ _ _ _ _ hc];obtain⟨o,u1,X1⟩:=q;cases o<;>exact leave_mono hd h
theorem fin_mono{d d':DCallF}(hd:DExt d d'){fn:Func}{r:R}{q:Out×XW}(h:finE P d fn r=some q):finE P d' fn r=some q:=by
 unfold finE at h⊢;split at h
 ·exact leave_mono hd h
 ·exact leave_mono hd h
 ·exact leave_mono hd h
 ·cases h
theorem go_mono{e e':Evs}(hc:Ext e.call e'.call)(hd:DExt e.dcall e'.dcall){xf:XF P}{lf:Nat}{i:FuncId}{args:List SV}{X:XW}{r:Out×XW}(h:goE e xf lf i args X=some r):goE e' xf lf i args X=some r:=by
 unfold goE bodyE at h⊢;cases hb:(Nat.beq xf.f i&&Nat.ble args.length xf.fn.ntmps) with
 |false=>simp[hb] at h
 |true=>
  simp only[hb,cond_true] at h⊢;cases he:evC P e.call xf.ord xf.f none xf.fn.ntmps lf (jumpE P e.call xf.ord xf.f none xf.fn.ntmps lf lf) (xf.fn.body.getD .skip) (storeN .nil 0 args) {X with dfs:=[]} with
  |none=>rw[he] at h;cases h
  |some q=>
   rw[he] at h;rw[evCj_mono hc _ _ _ _ he];cases hf:finE P e.dcall xf.fn (some q) with
   |none=>rw[hf] at h;cases h
   |some z=>rw[hf] at h;rw[fin_mono hd hf];exact h
end
end Go.Xe
namespace Go.Xe
noncomputable section
inductive YE (P:Program) where
 |fn (y:YX P)
 |nat (x:XN P)
 |ev (x:XF P)
def YE.e{P:Program}:YE P→XE P
 | .fn y=> .fn y.x
 | .nat x=> .nat x
 | .ev x=> .fn x
structure YEvs where
 call:YC
 dcall:DCallF
def natH(k:NK)(args:List SV)(h:HW):Rs:=match natE k args h.x0 with
 |some y=>some (.ret y,h)
 |none=>none
def liftC(C:YC):CallF:=fun c args X=>match X.orc,X.pc with
 | [],[]=>(match C c args X.h with
   |some (o,h)=>some (o,h.xd X.dfs)
   |none=>none)
 |_,_=>none
def clean(X:XW):Bool:=match X.orc,X.pc,X.dfs with
 | [],[],[]=>true
 |_,_,_=>false
def toR(r:Option (Out×XW)):Rs:=match r with
 |some (o,X)=>bif clean X then some (o,X.h) else none
 |none=>none
section
variable{P:Program}
def evH(ih:YEvs)(xf:XF P)(lf f:Nat)(args:List SV)(h:HW):Rs:=toR (kGo ⟨liftC ih.call,ih.dcall⟩ xf lf f args h.x0)
def runE(ih:YEvs)(lf f:Nat)(args:List SV)(h:HW)(e:Option (YE P)):Rs:=match e with
 |some (.fn y)=>bif Nat.beq y.x.f f then y.s ih.call lf args h else none
 |some (.nat x)=>bif Nat.beq x.f f then natH x.k args h else none
 |some (.ev x)=>bif Nat.beq x.f f then evH ih x lf f args h else none
 |none=>none
def runN(ih:YEvs)(lf f:Nat)(args:List SV)(h:HW)(e:Option (YE P)):Rs:=match e with
 |some (.fn y)=>bif Nat.beq y.x.f f then y.s ih.call lf args h else none
 |some (.ev x)=>bif Nat.beq x.f f then evH ih x lf f args h else none
 |_=>none
def runR(P:Program)(ih:YEvs)(lf k:Nat)(args:List SV)(h:HW):Rs:=match h.objs.get k with
 |some o=>(match o.sp with
  | .loop _ _ ord me N F ps a c _=>toR (roundE (kBody P (liftC ih.call) ord me (some k) N lf) k N F ps a c args h.x0)
  |_=>none)
 |none=>none
def dOf(ih:YEvs)(xf:XF P)(lf f:Nat)(args:List SV)(u:Mode)(X:XW):Option (Out×Mode×XW):=
 bif Nat.beq xf.f f&&Nat.ble args.length xf.fn.ntmps then finD P xf.fn X.dfs (evCD P xf.fn.ntmps (kBody P (liftC ih.call) xf.ord xf.f none xf.fn.ntmps lf) (xf.fn.body.getD .skip) (storeN .nil 0 args) {X with dfs:=[]} u) else none
def runD(ih:YEvs)(lf f:Nat)(args:List SV)(u:Mode)(X:XW)(e:Option (YE P)):Option (Out×Mode×XW):=match e with
 |some (.fn y)=>dOf ih y.x lf f args u X
 |some (.ev x)=>dOf ih x lf f args u X
 |_=>none
def runY(tab:Tr (YE P))(lf fuel:Nat):YEvs:=Nat.rec (motive:=fun _=>YEvs) ⟨fun _ _ _=>none,fun _ _ _ _=>none⟩ (fun _ ih=>{
 call:=fun c args h=>match c with
  | .fn f=>runE ih lf f args h (getP (path f) tab)
  | .ent f=>runN ih lf f args h (getP (path f) tab)
  | .yld k=>runR P ih lf k args h
 dcall:=fun f args u X=>runD ih lf f args u X (getP (path f) tab)}) fuel
def Tr.map{α β:Type}(g:α→β):Tr α→Tr β
 | .nil=> .nil
 | .node v l r=> .node (v.map g) (l.map g) (r.map g)
theorem get_map{α β:Type}(g:α→β):∀(t:Tr α) (i:Nat),(t.map g).get i=(t.get i).map g
 | .nil,i=>rfl
 | .node v l r,i=>by
   simp only[Tr.map,Tr.get];cases Nat.beq i 0 with
   |true=>rfl
   |false=>
    simp only[cond_false];cases Nat.beq (i%2) 1 with
    |true=>exact get_map g l _
    |false=>exact get_map g r _
theorem toR_spec{r:Option (Out×XW)}{o:Out}{h:HW}(e:toR r=some (o,h)):r=some (o,h.x0):=by
 unfold toR at e;split at e<;>try(cases e;done)
 rename_i o X;cases hc:clean X with
 |false=>simp[hc] at e
 |true=>
  simp only[hc,cond_true,Option.some.injEq,Prod.mk.injEq] at e;obtain⟨rfl,rfl⟩:=e;obtain⟨ng,next,objs,orc,pc,dfs⟩:=X;unfold clean at hc;split at hc<;>try(cases hc;done)
  rename_i h1 h2 h3;simp only at h1 h2 h3;subst h1 h2 h3;rfl
theorem lift_ext{C:YC}{callf:CallF}(hC:LiftOK C callf):Ext (liftC C) callf:=by
 intro c args X r h;obtain⟨ng,next,objs,orc,pc,dfs⟩:=X;unfold liftC at h;split at h<;>try(cases h;done)
 rename_i h1 h2;simp only at h1 h2;subst h1 h2;split at h<;>try(cases h;done)
 rename_i o h' he;cases h;exact hC _ _ _ _ _ he dfs
theorem goE_D{e:Evs}{xf:XF P}{lf f:Nat}{args:List SV}{h h':HW}{o:Out}(he:goE e xf lf f args h.x0=some (o,h'.x0))(D:List SD):goE e xf lf f args (h.xd D)=some (o,h'.xd D):=by
 unfold goE at he⊢;cases hb:(Nat.beq xf.f f&&Nat.ble args.length xf.fn.ntmps) with
 |false=>simp[hb] at he
 |true=>
  simp only[hb,cond_true] at he⊢;have e1:({h.xd D with dfs:=[]}:XW)={h.x0 with dfs:=[]}:=rfl;rw[e1];generalize finE P e.dcall xf.fn (bodyE xf e.call lf (xf.fn.body.getD .skip) (storeN .nil 0 args) {h.x0 with dfs:=[]})=r at he⊢;rcases r with _|⟨o1,X1⟩
  ·cases he
  ·simp only[withD,Option.some.injEq,Prod.mk.injEq] at he⊢;obtain⟨rfl,h2⟩:=he;refine⟨rfl,?_⟩;obtain⟨ng,next,objs,orc,pc,dfs⟩:=X1;obtain⟨ng',next',objs'⟩:=h';simp only[HW.x0,HW.x,XW.mk.injEq] at h2;obtain⟨rfl,rfl,rfl,rfl,rfl,_⟩:=h2;rfl
theorem round_D{ev:Code→Tr SV→XW→R}{k N:Nat}{F:Tr SV}{ps:Array Tmp}{a c:Code}{args:List SV}{h h':HW}{o:Out}(he:roundE ev k N F ps a c args h.x0=some (o,h'.x0))(D:List SD):roundE ev k N F ps a c args (h.xd D)=some (o,h'.xd D):=by
 have fin:∀{X:XW} {st:LoopState} {p:Jump} {b:Bool},endRound [] X k st p b=some (o,h'.x0)→endRound D X k st p b=some (o,h'.xd D):=by
  intro X st p b h1;unfold endRound at h1⊢;split at h1<;>try(cases h1;done)
  rename_i X2 h2;simp only[Option.some.injEq,Prod.mk.injEq] at h1⊢;obtain⟨rfl,h1⟩:=h1;refine⟨rfl,?_⟩;obtain⟨ng,next,objs,orc,pc,dfs⟩:=X2;obtain⟨ng',next',objs'⟩:=h';simp only[HW.x0,HW.x,XW.mk.injEq] at h1;obtain⟨rfl,rfl,rfl,rfl,rfl,_⟩:=h1;rfl
 unfold roundE at he⊢;cases hb:Nat.beq args.length ps.size with
 |false=>simp[hb] at he
 |true=>
  simp only[hb,cond_true] at he⊢;have e1:({h.xd D with dfs:=[]}:XW)={h.x0 with dfs:=[]}:=rfl;rw[e1];split at he<;>try(cases he;done)
  rename_i F1 X1 h1;simp only[h1];split at he<;>try(cases he;done)
  rename_i ob ho
  try simp only[ho]
  cases hr:isReady ob with
  |false=>simp[hr] at he
  |true=>
   simp only[hr,cond_true] at he⊢;split at he<;>try(cases he;done)
   rename_i X2 h2
   try simp only[h2]
   split at he<;>first|(cases he;done)|(rename_i h3;(try simp only[h3]);exact fin he)
theorem runY_ok(tab:Tr (YE P))(lf:Nat):∀fuel,LiftOK (runY tab lf fuel).call (evF P (tab.map YE.e) lf fuel).call∧DExt (runY tab lf fuel).dcall (evF P (tab.map YE.e) lf fuel).dcall
 |0=>⟨fun c args h o h' e=>(by cases e),fun _ _ _ _ _ h=>(by cases h)⟩
 |fuel+1=>by
  obtain⟨ih,ihd⟩:=runY_ok tab lf fuel
  have hgo:∀(y:YX P) f args h o h',Nat.beq y.x.f f=true→y.s (runY tab lf fuel).call lf args h=some (o,h')→∀D,goE (evF P (tab.map YE.e) lf fuel) y.x lf f args (h.xd D)=some (o,h'.xd D):=by
   intro y f args h o h' hf hs D;obtain⟨h1,h2⟩:=y.eq _ _ _ _ _ hs;have hf:=Nat.eq_of_beq_eq_true hf;subst hf;exact yFnA_spec ih y.x h1 h2 D
  have hev:∀(x:XF P) f args h o h',evH (runY tab lf fuel) x lf f args h=some (o,h')→∀D,goE (evF P (tab.map YE.e) lf fuel) x lf f args (h.xd D)=some (o,h'.xd D):=by
   intro x f args h o h' hs D;have h1:=toR_spec hs
   have hk:kGo ⟨liftC (runY tab lf fuel).call,(runY tab lf fuel).dcall⟩ x lf f args h.x0=goE ⟨liftC (runY tab lf fuel).call,(runY tab lf fuel).dcall⟩ x lf f args h.x0:=by
    unfold kGo goE bodyE;rw[kBody_eq]
   rw[hk] at h1;exact goE_D (go_mono (lift_ext ih) ihd h1) D
  have hkb:∀ord me rd N,CExt (kBody P (liftC (runY tab lf fuel).call) ord me rd N lf) (evC P (evF P (tab.map YE.e) lf fuel).call ord me rd N lf (jumpE P (evF P (tab.map YE.e) lf fuel).call ord me rd N lf lf)):=by
   intro ord me rd N;rw[kBody_eq];exact evCj_mono (lift_ext ih)
  refine⟨?_,?_⟩
  ·intro c args h o h' e D;cases c with
   |fn f=>
    have e':runE (runY tab lf fuel) lf f args h (getP (path f) tab)=some (o,h'):=e;rw[getP_eq] at e'
    show(match (tab.map YE.e).get f with
     |some (.fn xf)=>goE (evF P (tab.map YE.e) lf fuel) xf lf f args (h.xd D)
     |some (.nat xn)=>bif Nat.beq xn.f f then(match natE xn.k args (h.xd D) with|some y=>some (.ret y,(h.xd D))|none=>none) else none
     |none=>none)=_
    rw[get_map];cases ht:tab.get f with
    |none=>rw[ht] at e';cases e'
    |some t=>
     rw[ht] at e';cases t with
     |fn y=>
      simp only[runE] at e';cases hb:Nat.beq y.x.f f with
      |false=>simp[hb] at e'
      |true=>simp only[hb,cond_true] at e';exact hgo y f _ _ _ _ hb e' D
     |ev x=>
      simp only[runE] at e';cases hb:Nat.beq x.f f with
      |false=>simp[hb] at e'
      |true=>simp only[hb,cond_true] at e';exact hev x f _ _ _ _ e' D
     |nat x=>
      simp only[runE] at e';cases hb:Nat.beq x.f f with
      |false=>simp[hb] at e'
      |true=>
       simp only[hb,cond_true,natH] at e';have hn:natE x.k args (h.xd D)=natE x.k args h.x0:=rfl;simp only[Option.map_some,YE.e,hb,cond_true,hn];cases hx:natE x.k args h.x0 with
       |none=>simp[hx] at e'
       |some z=>simp only[hx,Option.some.injEq,Prod.mk.injEq] at e'⊢;obtain⟨rfl,rfl⟩:=e';exact⟨rfl,rfl⟩
   |ent f=>
    have e':runN (runY tab lf fuel) lf f args h (getP (path f) tab)=some (o,h'):=e;rw[getP_eq] at e'
    show(match (tab.map YE.e).get f with
     |some (.fn xf)=>goE (evF P (tab.map YE.e) lf fuel) xf lf f args (h.xd D)
     |_=>none)=_
    rw[get_map];cases ht:tab.get f with
    |none=>rw[ht] at e';cases e'
    |some t=>
     rw[ht] at e';cases t with
     |fn y=>
      simp only[runN] at e';cases hb:Nat.beq y.x.f f with
      |false=>simp[hb] at e'
      |true=>simp only[hb,cond_true] at e';exact hgo y f _ _ _ _ hb e' D
     |ev x=>
      simp only[runN] at e';cases hb:Nat.beq x.f f with
      |false=>simp[hb] at e'
      |true=>simp only[hb,cond_true] at e';exact hev x f _ _ _ _ e' D
     |nat x=>cases e'
   |yld k=>
    have e':runR P (runY tab lf fuel) lf k args h=some (o,h'):=e
    show(match h.objs.get k with
     |some o=>match o.sp with
      | .loop _ _ ord me N F ps a c _=>roundE (evC P (evF P (tab.map YE.e) lf fuel).call ord me (some k) N lf (jumpE P (evF P (tab.map YE.e) lf fuel).call ord me (some k) N lf lf)) k N F ps a c args (h.xd D)
      |_=>none
     |none=>none)=_
    unfold runR at e';split at e'<;>try(cases e';done)
    rename_i ob ho;split at e'<;>try(cases e';done)
    rename_i h1
    (try simp only[ho,h1])
    exact round_D (round_mono (hkb _ _ _ _) (toR_spec e')) D
  ·intro f args u X r h;have e':runD (runY tab lf fuel) lf f args u X (getP (path f) tab)=some r:=h;rw[getP_eq] at e'
   show(match (tab.map YE.e).get f with
    |some (.fn xf)=>bif Nat.beq xf.f f&&Nat.ble args.length xf.fn.ntmps then finD P xf.fn X.dfs (evCD P xf.fn.ntmps (bodyE xf (evF P (tab.map YE.e) lf fuel).call lf) (xf.fn.body.getD .skip) (storeN .nil 0 args) {X with dfs:=[]} u) else none
    |_=>none)=_
   rw[get_map]
   have hd:∀xf:XF P,dOf (runY tab lf fuel) xf lf f args u X=some r→(bif Nat.beq xf.f f&&Nat.ble args.length xf.fn.ntmps then finD P xf.fn X.dfs (evCD P xf.fn.ntmps (bodyE xf (evF P (tab.map YE.e) lf fuel).call lf) (xf.fn.body.getD .skip) (storeN .nil 0 args) {X with dfs:=[]} u) else none)=some r:=by
    intro xf hh;unfold dOf at hh;cases hb:(Nat.beq xf.f f&&Nat.ble args.length xf.fn.ntmps) with
    |false=>simp[hb] at hh
    |true=>
     simp only[hb,cond_true] at hh⊢;cases hc:evCD P xf.fn.ntmps (kBody P (liftC (runY tab lf fuel).call) xf.ord xf.f none xf.fn.ntmps lf) (xf.fn.body.getD .skip) (storeN .nil 0 args) {X with dfs:=[]} u with
     |none=>rw[hc] at hh;cases hh
     |some q=>
      rw[hc] at hh
      have:=evCD_mono (hkb xf.ord xf.f none xf.fn.ntmps) _ hc
      unfold bodyE;rw[this];exact hh
   cases ht:tab.get f with
   |none=>rw[ht] at e';cases e'
   |some t=>
    rw[ht] at e';cases t with
    |fn y=>exact hd _ e'
    |ev x=>exact hd _ e'
    |nat x=>cases e'
end
end
end Go.Xe
