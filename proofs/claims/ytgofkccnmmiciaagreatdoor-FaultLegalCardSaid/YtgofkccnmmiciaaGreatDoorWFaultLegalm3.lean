import Derived.Lib.TrailingZeros
import Derived.ChangeSlices
import Derived.WideShapes
import Derived.SizedLaws
import Derived.Deep.DeepHandedRow
import Derived.Test.YtgofkccnmmiciaaGreatDoorWFaultLegalm2
set_option linter.unusedSimpArgs false
set_option linter.unusedVariables false
namespace Go.Xe
def Ext(f g:CallF):Prop:= ∀ c args X r,f c args X=some r→g c args X=some r
def DExt(f g:DCallF):Prop:= ∀ i args u X r,f i args u X=some r→g i args u X=some r
def EExt(f g:Tr SV→XW→R):Prop:= ∀ F X r,f F X=some r→g F X=some r
def JExt(f g:JumpF):Prop:= ∀ c d F X r,f c d F X=some r→g c d F X=some r
def CExt(f g:Code→Tr SV→XW→R):Prop:= ∀ c F X r,f c F X=some r→g c F X=some r
section
variable{P:Program}{f g:CallF}{N:Nat}
theorem evOpO_mono(hx:Ext f g){o:Oper}{F:Tr SV}{X:XW}{r:Out × XW}(h:evOpO P f o F X=some r):evOpO P g o F X=some r:=by
 rw [evOpO_eq] at h ⊢
 cases hl:looks X.ng F o.op.operands.toList with
 | none=>rw [hl] at h;cases h
 | some vals=>
   rw [hl] at h
   simp only [] at h ⊢
   generalize o.op=op at h
   cases op <;> try exact h
   rename_i c
   simp only [evV] at h ⊢
   split at h
   · exact h
   · rename_i hb
     split at h <;> try (cases h;done)
     rename_i cal args hc
     exact hx _ _ _ _ h
theorem evOp_mono(hx:Ext f g){o:Oper}{F:Tr SV}{X:XW}{r:SV × XW}(h:evOp P f o F X=some r):evOp P g o F X=some r:=by
 obtain ⟨y,X'⟩:=r
 exact evOp_of (evOpO_mono hx (evOpO_ret h))
theorem stepE_mono(hx:Ext f g){ops:List Oper}{o:Oper}{F:Tr SV}{X:XW}{r:Tr SV × XW}(h:stepE P f N ops o F X=some r):stepE P g N ops o F X=some r:=by
 unfold stepE at h ⊢
 split at h
 · rename_i X1 hw
   split at h <;> try (cases h;done)
   rename_i y X2 he
   simp only [evOp_mono hx he];exact h
 · exact h
 · cases h
theorem stepO_mono(hx:Ext f g){ops:List Oper}{o:Oper}{F:Tr SV}{X:XW}{r:Option Chain × Tr SV × XW}(h:stepO P f N ops o F X=some r):stepO P g N ops o F X=some r:=by
 unfold stepO at h ⊢
 split at h
 · rename_i X1 hw
   cases hd:isDefer o.op with
   | true=>simp only [hd,cond_true] at h ⊢;exact h
   | false=>
     simp only [hd,cond_false] at h ⊢
     cases he:evOpO P f o F X1 with
     | none=>simp [he] at h
     | some r'=>rw [he] at h;rw [evOpO_mono hx he];exact h
 · exact h
 · cases h
theorem evOps_mono(hx:Ext f g){ops:List Oper}: ∀ {l:List Oper} {F:Tr SV} {X:XW} {r:Option Chain × Tr SV × XW},evOps P f N ops l F X=some r→evOps P g N ops l F X=some r
 | [],F,X,r,h=>h
 | o::rest,F,X,r,h=>by
   simp only [evOps] at h ⊢
   cases hs:stepO P f N ops o F X with
   | none=>simp [hs] at h
   | some r'=>
     rw [hs] at h;rw [stepO_mono hx hs]
     obtain ⟨ch,F1,X1⟩:=r'
     cases ch with
     | none=>exact evOps_mono hx h
     | some ch=>exact h
theorem evD_mono(hx:Ext f g){ops:List Oper}{chk:List (Nat × List Nat)}: ∀ {is:List Nat} {recs:List (Nat × Option Nat)} {F:Tr SV} {X:XW} {r:Tr SV × XW},evD P f N ops chk is recs F X=some r→evD P g N ops chk is recs F X=some r
 | [],recs,F,X,r,h=>h
 | k::ks,recs,F,X,r,h=>by
   simp only [evD] at h ⊢
   split at h <;> try (cases h;done)
   rename_i o ho
   cases hs:stepE P f N ops o F X with
   | none=>simp [hs] at h
   | some r'=>
     rw [hs] at h;rw [stepE_mono hx hs]
     obtain ⟨F1,X1⟩:=r'
     simp only [] at h ⊢
     cases hc:chkOK recs X X1 (chkOf chk k) with
     | false=>simp [hc] at h
     | true=>simp only [hc,cond_true] at h ⊢;exact evD_mono hx h
theorem stepN_mono(hx:Ext f g){ops:List Oper}{rs:List Nat}{base k:Nat}{o:Oper}{F:Tr SV}{X:XW}{r:Tr SV × XW}(h:stepN P f N ops rs base k o F X=some r):stepN P g N ops rs base k o F X=some r:=by
 unfold stepN at h ⊢
 cases hn:newR rs k o.op with
 | true=>simp only [hn,cond_true] at h ⊢;exact h
 | false=>simp only [hn,cond_false] at h ⊢;exact stepE_mono hx h
theorem evN_mono(hx:Ext f g){ops:List Oper}{rs:List Nat}{chk:List (Nat × List Nat)}{base:Nat}: ∀ {is:List Nat} {recs:List (Nat × Option Nat)} {F:Tr SV} {X:XW} {r:Tr SV × XW},evN P f N ops rs chk base is recs F X=some r→evN P g N ops rs chk base is recs F X=some r
 | [],recs,F,X,r,h=>h
 | k::ks,recs,F,X,r,h=>by
   simp only [evN] at h ⊢
   split at h <;> try (cases h;done)
   rename_i o ho
   cases hl:lowRead P ops base o F X with
   | false=>simp [hl] at h
   | true=>
     simp only [hl,cond_true] at h ⊢
     cases hs:stepN P f N ops rs base k o F X with
     | none=>simp [hs] at h
     | some r'=>
       rw [hs] at h;rw [stepN_mono hx hs]
       obtain ⟨F1,X1⟩:=r'
       simp only [] at h ⊢
       cases hc:chkOK recs X X1 (chkOf chk k) with
       | false=>simp [hc] at h
       | true=>simp only [hc,cond_true] at h ⊢;exact evN_mono hx h
theorem loopE_mono{b b':Tr SV→XW→R}(hb:EExt b b'): ∀ n,EExt (loopE b n) (loopE b' n)
 | 0=>fun F X r h=>h
 | n+1=>fun F X r h=>by
   have h:(match b F X with | some (.nm,F,X)=>loopE b n F X | r=>r)=some r:=h
   show (match b' F X with | some (.nm,F,X)=>loopE b' n F X | r=>r)=some r
   cases he:b F X with
   | none=>rw [he] at h;cases h
   | some q=>
     rw [he] at h;rw [hb _ _ _ he]
     obtain ⟨ex,F1,X1⟩:=q
     cases ex with
     | nm=>exact loopE_mono hb n F1 X1 r h
     | _=>exact h
theorem rangeE_mono(hx:Ext f g){ord:Nat→Hint}{me:FuncId}{rd:Option Nat}{ps:Array Tmp}{a c:Code}{y:SV}:EExt (rangeE f ord me rd N ps a c y) (rangeE g ord me rd N ps a c y):=by
 intro F X r h
 unfold rangeE at h ⊢
 split at h
 · rename_i fi fa fb b X1 hb
   split at h
   · rename_i y' X2 he;rw [hx _ _ _ _ he];exact h
   · rename_i ch X2 he;rw [hx _ _ _ _ he];exact h
   · cases h
 · cases h
theorem evC_mono(hx:Ext f g){ord:Nat→Hint}{me:FuncId}{rd:Option Nat}{lf:Nat}{j j':JumpF}(hj:JExt j j'):CExt (evC P f ord me rd N lf j) (evC P g ord me rd N lf j'):=by
 intro c
 induction c with
 | region id ops d=>
   intro F X r h
   cases d with
   | false=>
     simp only [evC] at h ⊢
     cases he:evOps P f N ops.toList ops.toList F X with
     | none=>simp [he] at h
     | some q=>rw [he] at h;rw [evOps_mono hx he];exact h
   | true=>
     simp only [evC] at h ⊢
     cases ho:ord id with
     | text=>
       simp only [ho] at h ⊢
       cases he:evD P f N ops.toList [] (List.range ops.size) [] F {X with orc:=[]} with
       | none=>simp [he] at h
       | some q=>rw [he] at h;rw [evD_mono hx he];exact h
     | skip=>simp [ho] at h
     | ord is chk=>
       simp only [ho] at h ⊢
       cases he:evD P f N ops.toList chk is [] F {X with orc:=[]} with
       | none=>simp [he] at h
       | some q=>rw [he] at h;rw [evD_mono hx he];exact h
     | news is rs chk=>
       simp only [ho,force_eq] at h ⊢
       cases hd:allDead X X.next rs with
       | false=>simp [hd] at h
       | true=>
         simp only [hd,cond_true] at h ⊢
         cases he:evN P f N ops.toList rs chk X.next is [] F {X with orc:=[],next:=X.next+ops.size} with
         | none=>simp [he] at h
         | some q=>rw [he] at h;rw [evN_mono hx he];exact h
 | seq a b iha ihb=>
   intro F X r h
   simp only [evC] at h ⊢
   cases he:evC P f ord me rd N lf j a F X with
   | none=>simp [he] at h
   | some q=>
     rw [he] at h;rw [iha _ _ _ he]
     obtain ⟨ex,F1,X1⟩:=q
     cases ex with
     | nm=>exact ihb _ _ _ h
     | _=>exact h
 | cond x a b iha ihb=>
   intro F X r h
   simp only [evC] at h ⊢
   split at h <;> try (cases h;done)
   rename_i y hy
   split at h
   · exact iha _ _ _ h
   · exact ihb _ _ _ h
   · cases h
 | block id c ih=>
   intro F X r h
   simp only [evC] at h ⊢
   cases he:evC P f ord me rd N lf j c F X with
   | none=>simp [he] at h
   | some q=>rw [he] at h;rw [ih _ _ _ he];exact h
 | loop c ih=>
   intro F X r h
   exact loopE_mono (fun F X r h=>ih F X r h) lf F X r h
 | scope c ih=>
   intro F X r h
   simp only [evC] at h ⊢
   cases he:evC P f ord me rd N lf j c F X with
   | none=>simp [he] at h
   | some q=>
     rw [he] at h;rw [ih _ _ _ he]
     obtain ⟨ex,F1,X1⟩:=q
     cases ex with
     | gt l=>
       simp only [] at h ⊢
       split at h
       · exact hj _ _ _ _ _ h
       · exact h
     | _=>exact h
 | rangeFunc x ps a c iha ihc=>
   intro F X r h
   simp only [evC] at h ⊢
   split at h <;> try (cases h;done)
   exact rangeE_mono hx _ _ _ h
 | _=>intro F X r h;exact h
theorem jumpE_mono(hx:Ext f g){ord:Nat→Hint}{me:FuncId}{rd:Option Nat}{lf:Nat}: ∀ n,JExt (jumpE P f ord me rd N lf n) (jumpE P g ord me rd N lf n)
 | 0=>fun _ _ _ _ _ h=>h
 | n+1=>fun c d F X r h=>by
   have h:(match evC P f ord me rd N lf (jumpE P f ord me rd N lf n) d F X with
    | some (.gt l,F,X)=>(match findLabel c l with
      | some rest=>jumpE P f ord me rd N lf n c rest F X
      | none=>some (.gt l,F,X))
    | r=>r)=some r:=h
   show (match evC P g ord me rd N lf (jumpE P g ord me rd N lf n) d F X with
    | some (.gt l,F,X)=>(match findLabel c l with
      | some rest=>jumpE P g ord me rd N lf n c rest F X
      | none=>some (.gt l,F,X))
    | r=>r)=some r
   cases he:evC P f ord me rd N lf (jumpE P f ord me rd N lf n) d F X with
   | none=>rw [he] at h;cases h
   | some q=>
     rw [he] at h;rw [evC_mono hx (jumpE_mono hx n) _ _ _ _ he]
     obtain ⟨ex,F1,X1⟩:=q
     cases ex with
     | gt l=>
       simp only [] at h ⊢
       split at h
       · exact jumpE_mono hx n _ _ _ _ _ h
       · exact h
     | _=>exact h
theorem evCj_mono(hx:Ext f g){ord:Nat→Hint}{me:FuncId}{rd:Option Nat}{lf:Nat}:CExt (evC P f ord me rd N lf (jumpE P f ord me rd N lf lf)) (evC P g ord me rd N lf (jumpE P g ord me rd N lf lf)):=
 evC_mono hx (jumpE_mono hx lf)
theorem evCD_mono{ev ev':Code→Tr SV→XW→R}(he:CExt ev ev'): ∀ (c:Code) {F:Tr SV} {X:XW} {u:Mode} {r:Ex × Tr SV × XW × Mode},evCD P N ev c F X u=some r→evCD P N ev' c F X u=some r:=by
 intro c
 have base: ∀ (c:Code) {F:Tr SV} {X:XW} {u:Mode} {r:Ex × Tr SV × XW × Mode},(match ev c F X with | some (ex,F,X)=>some (ex,F,X,u) | none=>none)=some r→(match ev' c F X with | some (ex,F,X)=>some (ex,F,X,u) | none=>none)=some r:=by
  intro c F X u r h
  cases hc:ev c F X with
  | none=>simp [hc] at h
  | some q=>rw [hc] at h;rw [he _ _ _ _ hc];exact h
 induction c with
 | seq a b iha ihb=>
   intro F X u r h
   simp only [evCD] at h ⊢
   cases hc:evCD P N ev a F X u with
   | none=>simp [hc] at h
   | some q=>
     rw [hc] at h;rw [iha hc]
     obtain ⟨ex,F1,X1,u1⟩:=q
     cases ex with
     | nm=>exact ihb h
     | _=>exact h
 | cond x a b iha ihb=>
   intro F X u r h
   simp only [evCD] at h ⊢
   split at h <;> try (cases h;done)
   split at h
   · exact iha h
   · exact ihb h
   · cases h
 | region id ops d=>
   intro F X u r h
   cases d with
   | true=>exact base _ h
   | false=>
     simp only [evCD] at h ⊢
     cases hr:hasRec ops.toList with
     | true=>simp only [hr,cond_true] at h ⊢;exact h
     | false=>simp only [hr,cond_false] at h ⊢;exact base _ h
 | _=>intro F X u r h;exact base _ h
theorem round_mono{ev ev':Code→Tr SV→XW→R}(he:CExt ev ev'){k:Nat}{F:Tr SV}{ps:Array Tmp}{a c:Code}{args:List SV}{X:XW}{r:Out × XW}(h:roundE ev k N F ps a c args X=some r):roundE ev' k N F ps a c args X=some r:=by
 unfold roundE at h ⊢
 cases hb:Nat.beq args.length ps.size with
 | false=>simp [hb] at h
 | true=>
   simp only [hb,cond_true] at h ⊢
   split at h <;> try (cases h;done)
   rename_i F1 X1 h1
   rw [he _ _ _ _ h1]
   simp only [] at h ⊢
   split at h <;> try (cases h;done)
   rename_i o ho
   cases hr:isReady o with
   | false=>simp [hr] at h
   | true=>
     simp only [hr,cond_true] at h ⊢
     split at h <;> try (cases h;done)
     rename_i X2 h2
     try simp only [h2] at h ⊢
     cases hc:ev c F1 X2 with
     | none=>simp [hc] at h
     | some q=>rw [hc] at h;rw [he _ _ _ _ hc];exact h
theorem leave_mono{d d':DCallF}(hd:DExt d d'){fn:Func}{F:Tr SV}: ∀ {D:List SD} {u:Mode} {X:XW} {r:Out × XW},leaveE P d fn F D u X=some r→leaveE P d' fn F D u X=some r
 | [],u,X,r,h=>by cases u <;> exact h
 | .coll k::ds,u,X,r,h=>by
   simp only [leaveE] at h ⊢
   split at h <;> try (cases h;done)
   split at h <;> try (cases h;done)
   exact leave_mono hd h
 | .call i xs ys::ds,u,X,r,h=>by
   simp only [leaveE] at h ⊢
   cases hc:d i (xs++ys) u X with
   | none=>simp [hc] at h
   | some q=>
     rw [hc] at h;rw [hd _ _ _ _ _ hc]
     obtain ⟨o,u1,X1⟩:=q
     cases o <;> exact leave_mono hd h
theorem fin_mono{d d':DCallF}(hd:DExt d d'){fn:Func}{r:R}{q:Out × XW}(h:finE P d fn r=some q):finE P d' fn r=some q:=by
 unfold finE at h ⊢
 split at h
 · exact leave_mono hd h
 · exact leave_mono hd h
 · exact leave_mono hd h
 · cases h
theorem go_mono{e e':Evs}(hc:Ext e.call e'.call)(hd:DExt e.dcall e'.dcall){xf:XF P}{lf:Nat}{i:FuncId}{args:List SV}{X:XW}{r:Out × XW}(h:goE e xf lf i args X=some r):goE e' xf lf i args X=some r:=by
 unfold goE bodyE at h ⊢
 cases hb:(Nat.beq xf.f i&&Nat.ble args.length xf.fn.ntmps) with
 | false=>simp [hb] at h
 | true=>
   simp only [hb,cond_true] at h ⊢
   cases he:evC P e.call xf.ord xf.f none xf.fn.ntmps lf (jumpE P e.call xf.ord xf.f none xf.fn.ntmps lf lf) (xf.fn.body.getD .skip) (storeN .nil 0 args) {X with dfs:=[]} with
   | none=>rw [he] at h;cases h
   | some q=>
     rw [he] at h;rw [evCj_mono hc _ _ _ _ he]
     cases hf:finE P e.dcall xf.fn (some q) with
     | none=>rw [hf] at h;cases h
     | some z=>rw [hf] at h;rw [fin_mono hd hf];exact h
end
end Go.Xe
namespace Go.Xe
noncomputable section
inductive YE (P:Program) where
 | fn (y:YX P)
 | nat (x:XN P)
 | ev (x:XF P)
def YE.e{P:Program}:YE P→XE P
 | .fn y=> .fn y.x
 | .nat x=> .nat x
 | .ev x=> .fn x
structure YEvs where
 call:YC
 dcall:DCallF
def natH(k:NK)(args:List SV)(h:HW):Rs:=match natE k args h.x0 with
 | some y=>some (.ret y,h)
 | none=>none
def liftC(C:YC):CallF:=fun c args X=>match X.orc,X.pc with
 | [],[]=>(match C c args X.h with
   | some (o,h)=>some (o,h.xd X.dfs)
   | none=>none)
 | _,_=>none
def clean(X:XW):Bool:=match X.orc,X.pc,X.dfs with
 | [],[],[]=>true
 | _,_,_=>false
def toR(r:Option (Out × XW)):Rs:=match r with
 | some (o,X)=>bif clean X then some (o,X.h) else none
 | none=>none
section
variable{P:Program}
def evH(ih:YEvs)(xf:XF P)(lf f:Nat)(args:List SV)(h:HW):Rs:=toR (kGo ⟨liftC ih.call,ih.dcall⟩ xf lf f args h.x0)
def runE(ih:YEvs)(lf f:Nat)(args:List SV)(h:HW)(e:Option (YE P)):Rs:=match e with
 | some (.fn y)=>bif Nat.beq y.x.f f then y.s ih.call lf args h else none
 | some (.nat x)=>bif Nat.beq x.f f then natH x.k args h else none
 | some (.ev x)=>bif Nat.beq x.f f then evH ih x lf f args h else none
 | none=>none
def runN(ih:YEvs)(lf f:Nat)(args:List SV)(h:HW)(e:Option (YE P)):Rs:=match e with
 | some (.fn y)=>bif Nat.beq y.x.f f then y.s ih.call lf args h else none
 | some (.ev x)=>bif Nat.beq x.f f then evH ih x lf f args h else none
 | _=>none
def runR(P:Program)(ih:YEvs)(lf k:Nat)(args:List SV)(h:HW):Rs:=match h.objs.get k with
 | some o=>(match o.sp with
   | .loop _ _ ord me N F ps a c _=>toR (roundE (kBody P (liftC ih.call) ord me (some k) N lf) k N F ps a c args h.x0)
   | _=>none)
 | none=>none
def dOf(ih:YEvs)(xf:XF P)(lf f:Nat)(args:List SV)(u:Mode)(X:XW):Option (Out × Mode × XW):=
 bif Nat.beq xf.f f&&Nat.ble args.length xf.fn.ntmps then finD P xf.fn X.dfs (evCD P xf.fn.ntmps (kBody P (liftC ih.call) xf.ord xf.f none xf.fn.ntmps lf) (xf.fn.body.getD .skip) (storeN .nil 0 args) {X with dfs:=[]} u) else none
def runD(ih:YEvs)(lf f:Nat)(args:List SV)(u:Mode)(X:XW)(e:Option (YE P)):Option (Out × Mode × XW):=match e with
 | some (.fn y)=>dOf ih y.x lf f args u X
 | some (.ev x)=>dOf ih x lf f args u X
 | _=>none
def runY(tab:Tr (YE P))(lf fuel:Nat):YEvs:=Nat.rec (motive:=fun _=>YEvs) ⟨fun _ _ _=>none,fun _ _ _ _=>none⟩ (fun _ ih=>{
 call:=fun c args h=>match c with
  | .fn f=>runE ih lf f args h (getP (path f) tab)
  | .ent f=>runN ih lf f args h (getP (path f) tab)
  | .yld k=>runR P ih lf k args h
 dcall:=fun f args u X=>runD ih lf f args u X (getP (path f) tab)}) fuel
def Tr.map{α β:Type}(g:α→β):Tr α→Tr β
 | .nil=> .nil
 | .node v l r=> .node (v.map g) (l.map g) (r.map g)
theorem get_map{α β:Type}(g:α→β): ∀ (t:Tr α) (i:Nat),(t.map g).get i=(t.get i).map g
 | .nil,i=>rfl
 | .node v l r,i=>by
   simp only [Tr.map,Tr.get]
   cases Nat.beq i 0 with
   | true=>rfl
   | false=>
     simp only [cond_false]
     cases Nat.beq (i % 2) 1 with
     | true=>exact get_map g l _
     | false=>exact get_map g r _
theorem toR_spec{r:Option (Out × XW)}{o:Out}{h:HW}(e:toR r=some (o,h)):r=some (o,h.x0):=by
 unfold toR at e
 split at e <;> try (cases e;done)
 rename_i o X
 cases hc:clean X with
 | false=>simp [hc] at e
 | true=>
   simp only [hc,cond_true,Option.some.injEq,Prod.mk.injEq] at e
   obtain ⟨rfl,rfl⟩:=e
   obtain ⟨ng,next,objs,orc,pc,dfs⟩:=X
   unfold clean at hc
   split at hc <;> try (cases hc;done)
   rename_i h1 h2 h3
   simp only at h1 h2 h3
   subst h1 h2 h3
   rfl
theorem lift_ext{C:YC}{callf:CallF}(hC:LiftOK C callf):Ext (liftC C) callf:=by
 intro c args X r h
 obtain ⟨ng,next,objs,orc,pc,dfs⟩:=X
 unfold liftC at h
 split at h <;> try (cases h;done)
 rename_i h1 h2
 simp only at h1 h2
 subst h1 h2
 split at h <;> try (cases h;done)
 rename_i o h' he
 cases h
 exact hC _ _ _ _ _ he dfs
theorem goE_D{e:Evs}{xf:XF P}{lf f:Nat}{args:List SV}{h h':HW}{o:Out}(he:goE e xf lf f args h.x0=some (o,h'.x0))(D:List SD):goE e xf lf f args (h.xd D)=some (o,h'.xd D):=by
 unfold goE at he ⊢
 cases hb:(Nat.beq xf.f f&&Nat.ble args.length xf.fn.ntmps) with
 | false=>simp [hb] at he
 | true=>
   simp only [hb,cond_true] at he ⊢
   have e1:({h.xd D with dfs:=[]}:XW)={h.x0 with dfs:=[]}:=rfl
   rw [e1]
   generalize finE P e.dcall xf.fn (bodyE xf e.call lf (xf.fn.body.getD .skip) (storeN .nil 0 args) {h.x0 with dfs:=[]})=r at he ⊢
   rcases r with _ | ⟨o1,X1⟩
   · cases he
   · simp only [withD,Option.some.injEq,Prod.mk.injEq] at he ⊢
     obtain ⟨rfl,h2⟩:=he
     refine ⟨rfl,?_⟩
     obtain ⟨ng,next,objs,orc,pc,dfs⟩:=X1
     obtain ⟨ng',next',objs'⟩:=h'
     simp only [HW.x0,HW.x,XW.mk.injEq] at h2
     obtain ⟨rfl,rfl,rfl,rfl,rfl,_⟩:=h2
     rfl
theorem round_D{ev:Code→Tr SV→XW→R}{k N:Nat}{F:Tr SV}{ps:Array Tmp}{a c:Code}{args:List SV}{h h':HW}{o:Out}(he:roundE ev k N F ps a c args h.x0=some (o,h'.x0))(D:List SD):roundE ev k N F ps a c args (h.xd D)=some (o,h'.xd D):=by
 have fin: ∀ {X:XW} {st:LoopState} {p:Jump} {b:Bool},endRound [] X k st p b=some (o,h'.x0)→endRound D X k st p b=some (o,h'.xd D):=by
  intro X st p b h1
  unfold endRound at h1 ⊢
  split at h1 <;> try (cases h1;done)
  rename_i X2 h2
  simp only [Option.some.injEq,Prod.mk.injEq] at h1 ⊢
  obtain ⟨rfl,h1⟩:=h1
  refine ⟨rfl,?_⟩
  obtain ⟨ng,next,objs,orc,pc,dfs⟩:=X2
  obtain ⟨ng',next',objs'⟩:=h'
  simp only [HW.x0,HW.x,XW.mk.injEq] at h1
  obtain ⟨rfl,rfl,rfl,rfl,rfl,_⟩:=h1
  rfl
 unfold roundE at he ⊢
 cases hb:Nat.beq args.length ps.size with
 | false=>simp [hb] at he
 | true=>
   simp only [hb,cond_true] at he ⊢
   have e1:({h.xd D with dfs:=[]}:XW)={h.x0 with dfs:=[]}:=rfl
   rw [e1]
   split at he <;> try (cases he;done)
   rename_i F1 X1 h1
   simp only [h1]
   split at he <;> try (cases he;done)
   rename_i ob ho
   try simp only [ho]
   cases hr:isReady ob with
   | false=>simp [hr] at he
   | true=>
     simp only [hr,cond_true] at he ⊢
     split at he <;> try (cases he;done)
     rename_i X2 h2
     try simp only [h2]
     split at he <;> first | (cases he;done) | (rename_i h3;(try simp only [h3]);exact fin he)
theorem runY_ok(tab:Tr (YE P))(lf:Nat): ∀ fuel,LiftOK (runY tab lf fuel).call (evF P (tab.map YE.e) lf fuel).call∧DExt (runY tab lf fuel).dcall (evF P (tab.map YE.e) lf fuel).dcall
 | 0=>⟨fun c args h o h' e=>(by cases e),fun _ _ _ _ _ h=>(by cases h)⟩
 | fuel+1=>by
   obtain ⟨ih,ihd⟩:=runY_ok tab lf fuel
   have hgo: ∀ (y:YX P) f args h o h',Nat.beq y.x.f f=true→y.s (runY tab lf fuel).call lf args h=some (o,h')→ ∀ D,goE (evF P (tab.map YE.e) lf fuel) y.x lf f args (h.xd D)=some (o,h'.xd D):=by
    intro y f args h o h' hf hs D
    obtain ⟨h1,h2⟩:=y.eq _ _ _ _ _ hs
    have hf:=Nat.eq_of_beq_eq_true hf
    subst hf
    exact yFnA_spec ih y.x h1 h2 D
   have hev: ∀ (x:XF P) f args h o h',evH (runY tab lf fuel) x lf f args h=some (o,h')→ ∀ D,goE (evF P (tab.map YE.e) lf fuel) x lf f args (h.xd D)=some (o,h'.xd D):=by
    intro x f args h o h' hs D
    have h1:=toR_spec hs
    have hk:kGo ⟨liftC (runY tab lf fuel).call,(runY tab lf fuel).dcall⟩ x lf f args h.x0=goE ⟨liftC (runY tab lf fuel).call,(runY tab lf fuel).dcall⟩ x lf f args h.x0:=by
     unfold kGo goE bodyE
     rw [kBody_eq]
    rw [hk] at h1
    exact goE_D (go_mono (lift_ext ih) ihd h1) D
   have hkb: ∀ ord me rd N,CExt (kBody P (liftC (runY tab lf fuel).call) ord me rd N lf) (evC P (evF P (tab.map YE.e) lf fuel).call ord me rd N lf (jumpE P (evF P (tab.map YE.e) lf fuel).call ord me rd N lf lf)):=by
    intro ord me rd N
    rw [kBody_eq]
    exact evCj_mono (lift_ext ih)
   refine ⟨?_,?_⟩
   · intro c args h o h' e D
     cases c with
     | fn f=>
       have e':runE (runY tab lf fuel) lf f args h (getP (path f) tab)=some (o,h'):=e
       rw [getP_eq] at e'
       show (match (tab.map YE.e).get f with
        | some (.fn xf)=>goE (evF P (tab.map YE.e) lf fuel) xf lf f args (h.xd D)
        | some (.nat xn)=>bif Nat.beq xn.f f then (match natE xn.k args (h.xd D) with | some y=>some (.ret y,(h.xd D)) | none=>none) else none
        | none=>none)=_
       rw [get_map]
       cases ht:tab.get f with
       | none=>rw [ht] at e';cases e'
       | some t=>
         rw [ht] at e'
         cases t with
         | fn y=>
           simp only [runE] at e'
           cases hb:Nat.beq y.x.f f with
           | false=>simp [hb] at e'
           | true=>simp only [hb,cond_true] at e';exact hgo y f _ _ _ _ hb e' D
         | ev x=>
           simp only [runE] at e'
           cases hb:Nat.beq x.f f with
           | false=>simp [hb] at e'
           | true=>simp only [hb,cond_true] at e';exact hev x f _ _ _ _ e' D
         | nat x=>
           simp only [runE] at e'
           cases hb:Nat.beq x.f f with
           | false=>simp [hb] at e'
           | true=>
             simp only [hb,cond_true,natH] at e'
             have hn:natE x.k args (h.xd D)=natE x.k args h.x0:=rfl
             simp only [Option.map_some,YE.e,hb,cond_true,hn]
             cases hx:natE x.k args h.x0 with
             | none=>simp [hx] at e'
             | some z=>simp only [hx,Option.some.injEq,Prod.mk.injEq] at e' ⊢;obtain ⟨rfl,rfl⟩:=e';exact ⟨rfl,rfl⟩
     | ent f=>
       have e':runN (runY tab lf fuel) lf f args h (getP (path f) tab)=some (o,h'):=e
       rw [getP_eq] at e'
       show (match (tab.map YE.e).get f with
        | some (.fn xf)=>goE (evF P (tab.map YE.e) lf fuel) xf lf f args (h.xd D)
        | _=>none)=_
       rw [get_map]
       cases ht:tab.get f with
       | none=>rw [ht] at e';cases e'
       | some t=>
         rw [ht] at e'
         cases t with
         | fn y=>
           simp only [runN] at e'
           cases hb:Nat.beq y.x.f f with
           | false=>simp [hb] at e'
           | true=>simp only [hb,cond_true] at e';exact hgo y f _ _ _ _ hb e' D
         | ev x=>
           simp only [runN] at e'
           cases hb:Nat.beq x.f f with
           | false=>simp [hb] at e'
           | true=>simp only [hb,cond_true] at e';exact hev x f _ _ _ _ e' D
         | nat x=>cases e'
     | yld k=>
       have e':runR P (runY tab lf fuel) lf k args h=some (o,h'):=e
       show (match h.objs.get k with
        | some o=>match o.sp with
          | .loop _ _ ord me N F ps a c _=>roundE (evC P (evF P (tab.map YE.e) lf fuel).call ord me (some k) N lf (jumpE P (evF P (tab.map YE.e) lf fuel).call ord me (some k) N lf lf)) k N F ps a c args (h.xd D)
          | _=>none
        | none=>none)=_
       unfold runR at e'
       split at e' <;> try (cases e';done)
       rename_i ob ho
       split at e' <;> try (cases e';done)
       rename_i h1
       (try simp only [ho,h1])
       exact round_D (round_mono (hkb _ _ _ _) (toR_spec e')) D
   · intro f args u X r h
     have e':runD (runY tab lf fuel) lf f args u X (getP (path f) tab)=some r:=h
     rw [getP_eq] at e'
     show (match (tab.map YE.e).get f with
      | some (.fn xf)=>bif Nat.beq xf.f f&&Nat.ble args.length xf.fn.ntmps then finD P xf.fn X.dfs (evCD P xf.fn.ntmps (bodyE xf (evF P (tab.map YE.e) lf fuel).call lf) (xf.fn.body.getD .skip) (storeN .nil 0 args) {X with dfs:=[]} u) else none
      | _=>none)=_
     rw [get_map]
     have hd: ∀ xf:XF P,dOf (runY tab lf fuel) xf lf f args u X=some r→(bif Nat.beq xf.f f&&Nat.ble args.length xf.fn.ntmps then finD P xf.fn X.dfs (evCD P xf.fn.ntmps (bodyE xf (evF P (tab.map YE.e) lf fuel).call lf) (xf.fn.body.getD .skip) (storeN .nil 0 args) {X with dfs:=[]} u) else none)=some r:=by
      intro xf hh
      unfold dOf at hh
      cases hb:(Nat.beq xf.f f&&Nat.ble args.length xf.fn.ntmps) with
      | false=>simp [hb] at hh
      | true=>
        simp only [hb,cond_true] at hh ⊢
        cases hc:evCD P xf.fn.ntmps (kBody P (liftC (runY tab lf fuel).call) xf.ord xf.f none xf.fn.ntmps lf) (xf.fn.body.getD .skip) (storeN .nil 0 args) {X with dfs:=[]} u with
        | none=>rw [hc] at hh;cases hh
        | some q=>
          rw [hc] at hh
          have:=evCD_mono (hkb xf.ord xf.f none xf.fn.ntmps) _ hc
          unfold bodyE
          rw [this];exact hh
     cases ht:tab.get f with
     | none=>rw [ht] at e';cases e'
     | some t=>
       rw [ht] at e'
       cases t with
       | fn y=>exact hd _ e'
       | ev x=>exact hd _ e'
       | nat x=>cases e'
end
end
end Go.Xe
namespace Go.Xe
def saysY(r:Rs):Bool:=match r with
 | some (.ret (.bool true),_)=>true
 | _=>false
end Go.Xe
namespace Go.Xe
structure Mt where
 ver:Nat
 ty:TypeId
 n:Nat
 loose:Bool
 esz:Nat
 ro:Bool
 sp:Sp
def Ob.mt(o:Ob):Mt:=⟨o.ver,o.ty,o.n,o.loose,o.esz,o.ro,o.sp⟩
def HW.cell(h:HW)(k i:Nat):Option SV:=match h.objs.get k with
 | some o=>o.get i
 | none=>none
def HW.mt(h:HW)(k:Nat):Option Mt:=match h.objs.get k with
 | some o=>some o.mt
 | none=>none
def SameOb(h h':HW)(k:Nat):Prop:=h'.objs.get k=h.objs.get k
theorem SameOb.cell{h h':HW}{k:Nat}(e:SameOb h h' k)(i:Nat):h'.cell k i=h.cell k i:=by unfold HW.cell;rw [e]
theorem SameOb.mt{h h':HW}{k:Nat}(e:SameOb h h' k):h'.mt k=h.mt k:=by unfold HW.mt;rw [e]
def HW.set(h:HW)(k off:Nat)(ys:List SV):HW:=match h.objs.get k with
 | some o=>hwPut h k (obSet o off ys)
 | none=>h
@[simp] theorem hwPut_next(h:HW)(k:Nat)(o:Ob):(hwPut h k o).next=h.next:=noRfl rfl
@[simp] theorem hwPut_ng(h:HW)(k:Nat)(o:Ob):(hwPut h k o).ng=h.ng:=noRfl rfl
@[simp] theorem set_next(h:HW)(k off:Nat)(ys:List SV):(h.set k off ys).next=h.next:=by unfold HW.set;split <;> rfl
@[simp] theorem set_ng(h:HW)(k off:Nat)(ys:List SV):(h.set k off ys).ng=h.ng:=by unfold HW.set;split <;> rfl
theorem ld1_ptr(k off:Nat)(h:HW):ld1 (.ptr k off) h=h.cell k off:=noRfl rfl
def HW.cells(h:HW)(k off:Nat):Nat→Option (List SV)
 | 0=>some []
 | n+1=>match h.cell k off with
   | some y=>(match h.cells k (off+1) n with | some ys=>some (y::ys) | none=>none)
   | none=>none
theorem loadN_cells{h:HW}{k:Nat}{o:Ob}(ho:h.objs.get k=some o): ∀ n off,loadN o off n=h.cells k off n
 | 0,off=>rfl
 | n+1,off=>by
   simp only [loadN,HW.cells,loadN_cells ho n,HW.cell,ho]
   cases o.get off with
   | none=>rfl
   | some y=>cases h.cells k (off+1) n <;> rfl
theorem cells_of{h:HW}{k:Nat}: ∀ {n off:Nat} {ys:List SV},ys.length=n→(∀ i,i < n→h.cell k (off+i)=ys[i]?)→h.cells k off n=some ys
 | 0,off,ys,hl,_=>by
   cases ys with
   | nil=>rfl
   | cons y ys=>simp at hl
 | n+1,off,ys,hl,hc=>by
   cases ys with
   | nil=>simp at hl
   | cons y ys=>
     have h0:=hc 0 (by omega)
     simp at h0
     have:=cells_of (h:=h) (k:=k) (n:=n) (off:=off+1) (ys:=ys) (by simpa using hl) (fun i hi=>by
      have:=hc (i+1) (by omega)
      simpa [Nat.add_assoc,Nat.add_comm 1 i] using this)
     simp only [HW.cells,h0,this]
def HW.new(h:HW)(o:Ob):HW:=⟨h.ng,h.next+1,h.objs.put h.next o⟩
theorem new_get(h:HW)(o:Ob)(j:Nat):(h.new o).objs.get j=if j=h.next then some o else h.objs.get j:=Hp.get_put _ _ _ _
theorem new_other(h:HW)(o:Ob){j:Nat}(e:j≠h.next):(h.new o).objs.get j=h.objs.get j:=by rw [new_get,if_neg e]
theorem cell_new(h:HW)(o:Ob)(j i:Nat):(h.new o).cell j i=if j=h.next then o.get i else h.cell j i:=by
 unfold HW.cell
 rw [new_get]
 by_cases e:j=h.next
 · simp [e]
 · simp [e]
@[simp] theorem new_next(h:HW)(o:Ob):(h.new o).next=h.next+1:=noRfl rfl
@[simp] theorem new_ng(h:HW)(o:Ob):(h.new o).ng=h.ng:=noRfl rfl
theorem wrap_i64{n:Int}(h1: -9223372036854775808≤n)(h2:n < 9223372036854775808):IntKind.i64.wrap n=n:=by
 simp [IntKind.wrap,IntKind.signed,IntKind.bits];omega
theorem natOf_int{k:IntKind}{n:Int}(h:0≤n):natOf (.int k n)=some n.toNat:=by
 cases n with
 | ofNat m=>rfl
 | negSucc m=>exact absurd h (by omega)
section
variable{P:Program}{t:TypeId}{k:IntKind}{a b:Int}
theorem bin_ints(op:BinOp):bin P op t (.int k a) (.int k b)=intE op k a k b:=by rw [bin_eq];rfl
theorem kbeq:(k==k)=true:=by cases k <;> rfl
@[simp] theorem bin_add:bin P .add t (.int k a) (.int k b)=some (.int k (k.wrap (a+b))):=by
  rw [bin_ints];show (bif k==k then arith .add k a b else none)=_;rw [kbeq];simp [arith,forceI_eq]
@[simp] theorem bin_sub:bin P .sub t (.int k a) (.int k b)=some (.int k (k.wrap (a - b))):=by
  rw [bin_ints];show (bif k==k then arith .sub k a b else none)=_;rw [kbeq];simp [arith,forceI_eq]
@[simp] theorem bin_mul:bin P .mul t (.int k a) (.int k b)=some (.int k (k.wrap (a * b))):=by
  rw [bin_ints];show (bif k==k then arith .mul k a b else none)=_;rw [kbeq];simp [arith,forceI_eq]
theorem bin_rem(hb:b≠0):bin P .rem t (.int k a) (.int k b)=some (.int k (a.tmod b)):=by
 rw [bin_ints];show (bif k==k then arith .rem k a b else none)=_;rw [kbeq,cond_true];have h0:(b==0)=false:=(by simp [hb]);simp only [arith,h0,cond_false,forceI_eq]
@[simp] theorem bin_eql:bin P .eql t (.int k a) (.int k b)=some (.bool (decide (a=b))):=by
  rw [bin_ints];show (bif k==k then arith .eql k a b else none)=_;rw [kbeq];rfl
@[simp] theorem bin_neq:bin P .neq t (.int k a) (.int k b)=some (.bool (decide (a≠b))):=by
  rw [bin_ints];show (bif k==k then arith .neq k a b else none)=_;rw [kbeq];simp [arith,bne];by_cases h:a=b <;> simp [h]
@[simp] theorem bin_lss:bin P .lss t (.int k a) (.int k b)=some (.bool (decide (a < b))):=by
  rw [bin_ints];show (bif k==k then arith .lss k a b else none)=_;rw [kbeq];rfl
@[simp] theorem bin_leq:bin P .leq t (.int k a) (.int k b)=some (.bool (decide (a≤b))):=by
  rw [bin_ints];show (bif k==k then arith .leq k a b else none)=_;rw [kbeq];rfl
@[simp] theorem bin_gtr:bin P .gtr t (.int k a) (.int k b)=some (.bool (decide (b < a))):=by
  rw [bin_ints];show (bif k==k then arith .gtr k a b else none)=_;rw [kbeq];rfl
@[simp] theorem bin_geq:bin P .geq t (.int k a) (.int k b)=some (.bool (decide (b≤a))):=by
  rw [bin_ints];show (bif k==k then arith .geq k a b else none)=_;rw [kbeq];rfl
end
@[simp] theorem un_not(b:Bool):unE .not (.bool b)=some (.bool (!b)):=noRfl rfl
@[simp] theorem ypk_true(a b:SV):ypk (.bool true) a b=some a:=noRfl rfl
@[simp] theorem ypk_false(a b:SV):ypk (.bool false) a b=some b:=noRfl rfl
@[simp] theorem semNil_ptr(k off:Nat):semNil (.ptr k off)=some (.ptr k off):=noRfl rfl
@[simp] theorem fa_ptr(fo k off:Nat):fa fo (.ptr k off)=some (.ptr k (off+fo)):=by simp [fa,force_eq]
theorem ixS_sl{s k off len lo:Nat}{cap:Option Nat}{kd:IntKind}{i:Int}(h0:0≤i)(h1:i < len):ixS s (.sl k off len cap lo) (.int kd i)=some (.ptr k (off+i.toNat * s)):=by
 have:Nat.blt i.toNat len=true:=by rw [Nat.blt_eq];omega
 simp [ixS,natOf_int h0,atA,this,force_eq]
@[simp] theorem ext_tup(i:Nat)(vs:List SV):ext i (.tup vs)=vs[i]?:=noRfl rfl
@[simp] theorem fd1_agg(i:Nat)(vs:List SV):fd1 i (.agg vs)=vs[i]?:=noRfl rfl
@[simp] theorem gd_true(want:Bool)(r:Rs)(h:HW):gd want (some (.bool want)) r h=r:=by cases want <;> rfl
@[simp] theorem gd_ft(r:Rs)(h:HW):gd false (some (.bool true)) r h=some (.ret (.val undef),h):=noRfl rfl
@[simp] theorem gd_tf(r:Rs)(h:HW):gd true (some (.bool false)) r h=some (.ret (.val undef),h):=noRfl rfl
@[simp] theorem gd_ff(r:Rs)(h:HW):gd false (some (.bool false)) r h=r:=noRfl rfl
@[simp] theorem gd_tt(r:Rs)(h:HW):gd true (some (.bool true)) r h=r:=noRfl rfl
end Go.Xe
namespace Go.Xe
open Go.ChangeShapes Go.WideShapes Go.ChangeAt Go.RowKit
section
variable{P:Program}
theorem Emb.grow{B:Nat}{w0 w w':World}{X:XW}{E:Env}(h:Emb P B w0 X E w)(hb:RowKit.Below w.heap.size w w'):Emb P B w0 X E w':=by
 have h1:w'.os=w.os:=hb.os
 have h2:w'.tape=w.tape:=hb.tape
 have h3:w'.output=w.output:=hb.output
 have h4:w.heap.size≤w'.heap.size:=hb.size
 have h5: ∀ k,k < w.heap.size→w'.heap[k]?=w.heap[k]?:=hb.block
 refine ⟨h1.trans h.os,h2.trans h.tape,h3.trans h.output,Nat.le_trans h.base h4,fun k hk=>(h5 k (Nat.lt_of_lt_of_le hk h.base)).trans (h.old k hk),fun k o hk=>?_,h.inj,h.fresh,h.glob,h.nle⟩
 obtain ⟨id,c,e1,e2,e3⟩:=h.obj k o hk
 have hid:id < w.heap.size:=by
  obtain ⟨x,hx⟩:=e2.there
  exact (Array.getElem?_eq_some_iff.1 hx).1
 exact ⟨id,c,e1,by rw [h5 id hid];exact e2,e3⟩
theorem CalIn.mono{E E':Env}{f:FuncId}{argv:List Value}{w:World}{R R':Ending→World→Prop}(hr: ∀ e w',R e w'→R' e w')(h:CalIn P E (.fn f) argv w R):CalIn P E' (.fn f) argv w R':=by
 rcases h with ⟨fn,h1,h2,h3,h4⟩ | ⟨v,w',h1,h2⟩
 · exact .inl ⟨fn,h1,h2,h3,CallsIn.mono h4 hr⟩
 · exact .inr ⟨v,w',h1,hr _ _ h2⟩
def free:SV→Bool
 | .val _ | .int _ _ | .bool _ | .str _=>true
 | _=>false
theorem Den.free{E E':Env}{y:SV}{v:Value}(hf:free y=true)(h:Den E y v):Den E' y v:=by
 cases y <;> first | exact h | cases hf
theorem DenL.free{E E':Env}: ∀ {ys:List SV} {vs:List Value},ys.all Xe.free=true→DenL E ys vs→DenL E' ys vs
 | [],_,_,h=>h
 | y::ys,vs,hf,h=>by
   obtain ⟨v,vs',h1,h2,rfl⟩:=h
   simp only [List.all_cons,Bool.and_eq_true] at hf
   exact ⟨v,vs',h1.free hf.1,h2.free hf.2,rfl⟩
structure Con (P:Program) where
 f:FuncId
 g:List SV→HW→Option SV
 ok: ∀ {args:List SV} {X:XW} {y:SV},g args X.h=some y→ ∀ {B:Nat} {w0:World} {E:Env} {w:World} {argv:List Value},Emb P B w0 X E w→DenL E args argv→CalIn P E (.fn f) argv w (RetPost P B w0 E (.ret y) X)
 frame: ∀ {args:List SV} {X:XW} {y:SV} {m:Nat} {ob:Ob},g args X.h=some y→Free X m→g args (X.add m ob).h=some y
def conF:List (Con P)→FuncId→Option (Con P)
 | [],_=>none
 | q::qs,f=>bif Nat.beq q.f f then some q else conF qs f
theorem conF_f: ∀ {cs:List (Con P)} {f:FuncId} {q:Con P},conF cs f=some q→q.f=f
 | q::qs,f,q',h=>by
   simp only [conF] at h
   cases hb:Nat.beq q.f f with
   | true=>simp only [hb,cond_true,Option.some.injEq] at h;subst h;exact Nat.eq_of_beq_eq_true hb
   | false=>simp only [hb,cond_false] at h;exact conF_f h
def conE(cs:List (Con P))(e:Evs):Evs where
 call:=fun c args X=>match c with
  | .fn f=>(match conF cs f with
    | some q=>(match q.g args X.h with
      | some y=>some (.ret y,X)
      | none=>none)
    | none=>e.call (.fn f) args X)
  | c=>e.call c args X
 dcall:=e.dcall
def conY(cs:List (Con P))(C:YC):YC:=fun c args h=>match c with
 | .fn f=>(match conF cs f with
   | some q=>(match q.g args h with
     | some y=>some (.ret y,h)
     | none=>none)
   | none=>C (.fn f) args h)
 | c=>C c args h
theorem conE_ok{cs:List (Con P)}{e:Evs}(he:EvsOK P e):EvsOK P (conE cs e):=by
 refine ⟨fun c args X y X' h hp=>?_,fun c args X y X' h=>?_,fun c args X y X' m ob h hf=>?_,he.dcall,he.dkeeps,he.dframe⟩
 · cases c with
   | fn f=>
     simp only [conE] at h
     split at h
     · rename_i q hq
       split at h
       · rename_i z hz
         cases h
         refine ⟨hp,fun B w0 E w argv hE hd=>?_⟩
         have:=q.ok hz hE hd
         rw [conF_f hq] at this
         exact this
       · cases h
     · exact he.call _ _ _ _ _ h hp
   | ent f=>exact he.call _ _ _ _ _ h hp
   | yld k=>exact he.call _ _ _ _ _ h hp
 · cases c with
   | fn f=>
     simp only [conE] at h
     split at h
     · split at h
       · cases h;exact Keeps.refl _
       · cases h
     · exact he.keeps _ _ _ _ _ h
   | ent f=>exact he.keeps _ _ _ _ _ h
   | yld k=>exact he.keeps _ _ _ _ _ h
 · cases c with
   | fn f=>
     simp only [conE] at h ⊢
     split at h
     · rename_i q hq
       try simp only [hq]
       split at h
       · rename_i z hz
         cases h
         rw [q.frame hz hf]
       · cases h
     · rename_i hq
       try simp only [hq]
       exact he.frame _ _ _ _ _ _ _ h hf
   | ent f=>exact he.frame _ _ _ _ _ _ _ h hf
   | yld k=>exact he.frame _ _ _ _ _ _ _ h hf
theorem conY_lift{cs:List (Con P)}{C:YC}{e:Evs}(h:LiftOK C e.call):LiftOK (conY cs C) (conE cs e).call:=by
 intro c args h' o h'' hc D
 cases c with
 | fn f=>
   simp only [conY] at hc
   simp only [conE]
   split at hc
   · rename_i q hq
     try simp only [hq]
     split at hc
     · rename_i z hz
       cases hc
       have:(h'.xd D).h=h':=rfl
       rw [this,hz]
     · cases hc
   · exact h _ _ _ _ _ hc D
 | ent f=>exact h _ _ _ _ _ hc D
 | yld k=>exact h _ _ _ _ _ hc D
theorem loadN_get{o:Ob}: ∀ {n off:Nat} {ys:List SV},loadN o off n=some ys→ ∀ i,i < ys.length→o.get (off+i)=ys[i]?
 | 0,off,ys,h,i,hi=>by cases h;simp at hi
 | n+1,off,ys,h,i,hi=>by
   simp only [loadN] at h
   split at h <;> try (cases h;done)
   rename_i y hy
   split at h <;> try (cases h;done)
   rename_i ys' hys
   cases h
   cases i with
   | zero=>simpa using hy
   | succ i=>
     have:=loadN_get hys i (by simpa using hi)
     rw [show off+(i+1)=off+1+i by omega,this]
     rfl
theorem con_call{cs:List (Con P)}{tab:Tr (YE P)}{lf fuel:Nat}(hm:P.follows .mixedOrders=true){y:YX P}{args:List SV}{argv:List Value}{h h':HW}{o:Out}{w:World}{B:Nat}{w0:World}{E:Env}
 (hy:y.s (conY cs (runY tab lf fuel).call) lf args h=some (o,h'))(hE:Emb P B w0 (h.xd []) E w)(hd:DenL E args argv):CalIn P E (.ent y.x.f) argv w (RetPost P B w0 E o (h'.xd [])):=by
 have he:EvsOK P (conE cs (evF P (tab.map YE.e) lf fuel)):=conE_ok (evF_sound _ lf hm fuel)
 obtain ⟨h1,h2⟩:=y.eq _ _ _ _ _ hy
 have h3:=yFnA_spec (e:=conE cs (evF P (tab.map YE.e) lf fuel)) (conY_lift (runY_ok tab lf fuel).1) y.x h1 h2 []
 exact go_good he hm h3 (fun p hp=>by cases hp) B w0 E w argv hE hd
theorem calls_true{f:FuncId}{argv:List Value}{w:World}{E:Env}{h':HW}(h:CalIn P E (.ent f) argv w (RetPost P w.heap.size w E (.ret (.bool true)) (h'.xd []))):
 Calls P f argv.toArray w fun e w'=>e= .returned (.bool true)∧RowKit.Below w.heap.size w w':=by
 obtain ⟨_,_,_,_,hci⟩:=h
 refine CallsIn.calls (CallsIn.mono hci ?_) (fun k d h=>by cases h)
 rintro e w' ⟨E',_,hE',v,rfl,hd⟩
 cases hd
 exact ⟨rfl,hE'.below⟩
def eqInts(k:IntKind):List SV→List Int→Bool
 | [],[]=>true
 | .int k' n::ys,z::zs=>(k'==k)&&(n==z)&&eqInts k ys zs
 | _,_=>false
theorem eqInts_spec{k:IntKind}: ∀ {ys:List SV} {zs:List Int},eqInts k ys zs=true→ys=zs.map (.int k)
 | [],[],_=>rfl
 | .int k' n::ys,z::zs,h=>by
   simp only [eqInts,Bool.and_eq_true,beq_iff_eq] at h
   obtain ⟨⟨h1,h2⟩,h3⟩:=h
   have:k'=k:=by cases k' <;> cases k <;> first | rfl | (exact absurd h1 (by decide))
   subst this h2
   rw [eqInts_spec h3];rfl
 | [],_::_,h=>by cases h
 | .int _ _::_,[],h=>by cases h
def hasTab(g:Nat)(k:IntKind)(zs:List Int)(h:HW):Bool:=Nat.blt g h.ng&&(match h.objs.get g with
 | some o=>(match o.sp with
   | .cells=>(match loadN o 0 zs.length with | some ys=>eqInts k ys zs | none=>false)
   | _=>false)
 | none=>false)
theorem start_of_tab{g ty n:Nat}{k:IntKind}{zs:List Int}(h0:0 < zs.length){X:XW}(ht:hasTab g k zs X.h=true){B:Nat}{w0 w:World}{E:Env}(hE:Emb P B w0 X E w):Start (g+1) (tabObjs g ty n (zs.map (.int k))) w:=by
 unfold hasTab at ht
 simp only [Bool.and_eq_true] at ht
 obtain ⟨hg,ht⟩:=ht
 have hg:g < X.ng:=by rw [Nat.blt_eq] at hg;exact hg
 split at ht <;> try (cases ht;done)
 rename_i o ho
 split at ht <;> try (cases ht;done)
 rename_i hsp
 split at ht <;> try (cases ht;done)
 rename_i ys hys
 have hys':=eqInts_spec ht
 subst hys'
 obtain ⟨c0,hc0⟩:=hE.glob g hg
 obtain ⟨id,c,e1,e2,_⟩:=hE.obj g o ho
 rw [hc0] at e1
 cases e1
 rcases e2 with ⟨_,hcr⟩ | ⟨hs,_⟩
 · obtain ⟨cs,tt,lo,hi,hob,hcells,_⟩:=hcr
   refine start_tab (fun i hi=>?_) h0
   have:o.get i=some (.int k (zs.getD i 0)):=by
    have:=loadN_get hys i (by simpa using hi)
    rw [Nat.zero_add] at this
    rw [this]
    simp [List.getD,hi]
   obtain ⟨v,h1,h2⟩:=hcells i _ this
   have h2:v= .int k (zs.getD i 0):=h2
   subst h2
   simp [World.cell?,hob,h1]
 · exact absurd hsp (spRel_ne hs)
end
end Go.Xe
namespace Go.Xe
open Go.ChangeShapes Go.WideShapes Go.ChangeAt Go.RowKit
section
variable{P:Program}
def lift(ng:Nat):Value→SV
 | .int k n=> .int k n
 | .bool b=> .bool b
 | .string s=> .str s
 | .pointer (some ⟨id,off,none⟩)=>bif Nat.blt id ng then .ptr id off else .val (.pointer (some ⟨id,off,none⟩))
 | .slice (some _) 0 0=> .se 0
 | .slice (some ⟨id,off,none⟩) l c=>bif Nat.blt id ng then .sl id off l (some c) 0 else .val (.slice (some ⟨id,off,none⟩) l c)
 | v=> .val v
def liftA(ng:Nat):Value→SV
 | .agg cs=> .agg (cs.toList.map (lift ng))
 | v=>lift ng v
def startE(ng:Nat):Env:={f:=fun k=>if k < ng then some (k,0) else none,n:=0}
theorem den_lift(ng:Nat)(v:Value):Den (startE ng) (lift ng v) v:=by
 unfold lift
 split <;> try (simp [Den];done)
 · rename_i id off
   cases hb:Nat.blt id ng with
   | false=>simp [Den]
   | true=>exact ⟨id,0,if_pos (by rw [Nat.blt_eq] at hb;exact hb),rfl⟩
 · rename_i id off l c _
   cases hb:Nat.blt id ng with
   | false=>simp [Den]
   | true=>exact ⟨id,0,if_pos (by rw [Nat.blt_eq] at hb;exact hb),rfl⟩
theorem denL_lift(ng:Nat): ∀ l:List Value,DenL (startE ng) (l.map (lift ng)) l
 | []=>rfl
 | v::l=>⟨v,l,den_lift ng v,denL_lift ng l,rfl⟩
theorem den_liftA(ng:Nat)(v:Value):Den (startE ng) (liftA ng v) v:=by
 unfold liftA
 split
 · rename_i cs
   exact ⟨cs.toList,denL_lift ng _,by simp⟩
 · exact den_lift ng _
theorem denL_liftA(ng:Nat): ∀ l:List Value,DenL (startE ng) (l.map (liftA ng)) l
 | []=>rfl
 | v::l=>⟨v,l,den_liftA ng v,denL_liftA ng l,rfl⟩
def oldOb(ng:Nat)(cs:Array Value)(ty:TypeId):Ob:={ver:=0,ty,n:=cs.size,loose:=false,esz:=1,ro:=true,bf:=fun i=>(cs[i]?).map (lift ng),ov:= .nil,sp:= .cells}
def objsOf(w:World):Hp:={tr:= .nil,base:=fun k=>match w.heap[k]? with
 | some (.cells cs ty _)=>some (oldOb w.heap.size cs ty)
 | _=>none}
def hw0(w:World):HW:=⟨w.heap.size,w.heap.size,objsOf w⟩
theorem oldOb_get(ng:Nat)(cs:Array Value)(ty:TypeId)(i:Nat):(oldOb ng cs ty).get i=(cs[i]?).map (lift ng):=by
 unfold oldOb Ob.get
 simp only [Tr.get]
 cases hb:Nat.blt i cs.size with
 | true=>rfl
 | false=>
   have: ¬ i < cs.size:=fun h=>by rw [← Nat.blt_eq,hb] at h;cases h
   simp [Array.getElem?_eq_none (by omega:cs.size≤i)]
theorem hw0_get(w:World)(k:Nat):(hw0 w).objs.get k=match w.heap[k]? with
 | some (.cells cs ty _)=>some (oldOb w.heap.size cs ty)
 | _=>none:=rfl
theorem hw0_cell(w:World)(k i:Nat):(hw0 w).cell k i=(w.cell? ⟨k,i,none⟩).map (lift w.heap.size):=by
 unfold HW.cell World.cell?
 rw [hw0_get]
 cases w.heap[k]? with
 | none=>rfl
 | some ob=>cases ob <;> first | rfl | (simp [oldOb_get])
theorem hw0_dead(w:World){k:Nat}(h:w.heap.size≤k):(hw0 w).objs.get k=none:=by
 rw [hw0_get,Array.getElem?_eq_none h]
theorem emb_hw0(w:World):Emb P w.heap.size w ((hw0 w).xd []) (startE w.heap.size) w:=by
 refine ⟨rfl,rfl,rfl,Nat.le_refl _,fun _ _=>rfl,fun k o hk=>?_,fun k k' o o' id c c' hk hk' he he'=>?_,fun k hk=>?_,fun g hg=>⟨0,if_pos hg⟩,Nat.zero_le _⟩
 · have hk:(hw0 w).objs.get k=some o:=hk
   have hlt:k < w.heap.size:=by
    apply Nat.lt_of_not_le
    intro h
    rw [hw0_dead w h] at hk;cases hk
   rw [hw0_get] at hk
   split at hk <;> try (cases hk;done)
   rename_i cs ty fz hob
   cases hk
   refine ⟨k,0,if_pos hlt,.inl ⟨rfl,cs,ty,fz.1,fz.2,hob,fun j y hj=>?_,fun h=>by cases h⟩,fun h=>?_⟩
   · rw [oldOb_get] at hj
     cases hc:cs[j]? with
     | none=>simp [hc] at hj
     | some v=>
       simp only [hc,Option.map_some,Option.some.injEq] at hj
       subst hj
       exact ⟨v,rfl,den_lift _ v⟩
   · rcases h with h | h
     · cases h
     · exact absurd rfl h
 · have hlt: ∀ {k o},(hw0 w).objs.get k=some o→k < w.heap.size:=by
    intro k o h
    apply Nat.lt_of_not_le
    intro h'
    rw [hw0_dead w h'] at h;cases h
   have he:=(if_pos (hlt hk)).symm.trans he
   have he':=(if_pos (hlt hk')).symm.trans he'
   cases he;cases he';rfl
 · have hk':w.heap.size≤k:=hk
   exact if_neg (by omega)
theorem law_true{cs:List (Con P)}{tab:Tr (YE P)}{lf fuel:Nat}(hm:P.follows .mixedOrders=true){y:YX P}{argv:List Value}{w:World}{h':HW}
 (hy:y.s (conY cs (runY tab lf fuel).call) lf (argv.map (liftA w.heap.size)) (hw0 w)=some (.ret (.bool true),h')):
 Calls P y.x.f argv.toArray w fun e w'=>e= .returned (.bool true)∧RowKit.Below w.heap.size w w':=
 calls_true (con_call hm hy (emb_hw0 w) (denL_liftA _ _))
theorem cells_ints{h:HW}{g:Nat}{k:IntKind}{zs:List Int}{o:Ob}(ho:h.objs.get g=some o)(hz: ∀ i,i < zs.length→h.cell g i=some (.int k (zs.getD i 0))):loadN o 0 zs.length=some (zs.map (.int k)):=by
 rw [loadN_cells ho]
 refine cells_of (by simp) fun i hi=>?_
 rw [Nat.zero_add,hz i hi]
 simp [List.getD,hi]
theorem eqInts_self(k:IntKind): ∀ zs:List Int,eqInts k (zs.map (.int k)) zs=true
 | []=>rfl
 | z::zs=>by simp [eqInts,eqInts_self k zs]
theorem hasTab_hw0{w:World}{g:Nat}{k:IntKind}{zs:List Int}(h0:0 < zs.length)(h: ∀ i,i < zs.length→w.cell? ⟨g,i,none⟩=some (.int k (zs.getD i 0))):hasTab g k zs (hw0 w)=true:=by
 have hh:=h 0 h0
 unfold World.cell? at hh
 split at hh <;> try (cases hh;done)
 rename_i cs ty fz hob
 have hlt:g < w.heap.size:=(Array.getElem?_eq_some_iff.1 hob).1
 have ho:(hw0 w).objs.get g=some (oldOb w.heap.size cs ty):=by rw [hw0_get];simp only at hob;rw [hob]
 have hb:Nat.blt g (hw0 w).ng=true:=by rw [Nat.blt_eq];exact hlt
 have hl:=cells_ints (h:=hw0 w) (k:=k) (zs:=zs) ho (fun i hi=>by rw [hw0_cell,h i hi];rfl)
 unfold hasTab
 simp only [hb,ho,Bool.true_and]
 show (match loadN (oldOb w.heap.size cs ty) 0 zs.length with | some ys=>eqInts k ys zs | none=>false)=true
 rw [hl]
 exact eqInts_self k zs
def conOf{tab:Tr (YE P)}{lf fuel:Nat}(hm:P.follows .mixedOrders=true)(g0 ty n:Nat)(k:IntKind)(zs:List Int)(h0:0 < zs.length)(f:FuncId)(g:List SV→Option SV)
    (hfree: ∀ args y,g args=some y→args.all free=true∧free y=true)
    (hrun: ∀ args y,g args=some y→ ∃ h',(runY tab lf fuel).call (.fn f) args ⟨g0+1,g0+1,tabObjs g0 ty n (zs.map (.int k))⟩=some (.ret y,h')):Con P where
 f:=f
 g:=fun args h=>bif hasTab g0 k zs h then g args else none
 ok:=by
  intro args X y hg B w0 E w argv hE hd
  cases ht:hasTab g0 k zs X.h with
  | false=>simp [ht] at hg
  | true=>
    simp only [ht,cond_true] at hg
    obtain ⟨hf1,hf2⟩:=hfree _ _ hg
    obtain ⟨h',hr⟩:=hrun _ _ hg
    have hst:=start_of_tab (ty:=ty) (n:=n) h0 ht hE
    have hs:=(runY_ok tab lf fuel).1 _ _ _ _ _ hr []
    obtain ⟨_,kk⟩:=(evF_sound (tab.map YE.e) lf hm fuel).call _ _ _ _ _ hs (fun p hp=>by cases hp)
    have hci:=kk _ _ _ _ _ (emb_start hst) (hd.free hf1)
    refine CalIn.mono ?_ hci
    rintro e w' ⟨E',_,hE',v,rfl,hv⟩
    exact ⟨E,Le.refl E,hE.grow hE'.below,v,rfl,hv.free hf2⟩
 frame:=by
  intro args X y m ob hg hf
  cases ht:hasTab g0 k zs X.h with
  | false=>simp [ht] at hg
  | true=>
    have:hasTab g0 k zs (X.add m ob).h=true:=by
     unfold hasTab at ht ⊢
     simp only [Bool.and_eq_true] at ht ⊢
     refine ⟨ht.1,?_⟩
     have hne:g0≠m:=fun e=>by
      have h2:=ht.2
      have hdead:X.h.objs.get m=none:=hf.dead
      rw [e,hdead] at h2
      cases h2
     have e1:(X.add m ob).h.objs.get g0=X.h.objs.get g0:=by
      show (X.objs.put m ob).get g0=X.objs.get g0
      rw [Hp.get_put,if_neg hne]
     rw [e1];exact ht.2
    simp only [ht,cond_true] at hg
    simp only [this,cond_true]
    exact hg
end
end Go.Xe
namespace Go.Xe
section
variable{P:Program}{t:TypeId}
end
end Go.Xe
namespace Go.Xe
def rowOb(ty:TypeId)(cs:List SV):Ob:={ver:=0,ty,n:=cs.length,loose:=false,esz:=1,ro:=false,bf:=fun _=>none,ov:=trieOf cs,sp:= .cells}
theorem trieOf_get(cs:List SV)(i:Nat):(trieOf cs).get i=cs[i]?:=by
 unfold trieOf
 rw [get_storeN_eq]
 by_cases h:i < cs.length
 · rw [if_pos ⟨Nat.zero_le _,by omega⟩];simp
 · rw [if_neg (by omega),List.getElem?_eq_none (by omega)];rfl
theorem rowOb_get(ty:TypeId)(cs:List SV)(i:Nat):(rowOb ty cs).get i=cs[i]?:=by
 unfold rowOb Ob.get
 simp only [trieOf_get]
 cases hb:Nat.blt i cs.length with
 | true=>
   have:i < cs.length:=by rw [Nat.blt_eq] at hb;exact hb
   simp [List.getElem?_eq_getElem this]
 | false=>
   have: ¬ i < cs.length:=fun h=>by rw [← Nat.blt_eq,hb] at h;cases h
   simp [List.getElem?_eq_none (by omega:cs.length≤i)]
section
variable{P:Program}
end
theorem cell_new_same(h:HW)(o:Ob)(i:Nat):(h.new o).cell h.next i=o.get i:=by rw [cell_new,if_pos rfl]
end Go.Xe
namespace Go.Xe
def Emp(x:SV):Prop:=x= .val (.slice none 0 0)∨ ∃ k,x= .se k
def Bytes(h:HW)(x:SV)(l:List Nat):Prop:=(∀ c ∈ l,c < 256)∧((Emp x∧l=[])∨
 ∃ kb ob cap lo m,x= .sl kb ob l.length cap lo∧h.mt kb=some m∧ ∀ j,j < l.length→h.cell kb (ob+j)=some (.int .u8 (l.getD j 0:Nat)))
section
variable{P:Program}
end
theorem Bytes.frame{h h':HW}{x:SV}{l:List Nat}(B:Bytes h x l)(hs: ∀ kb ob len cap lo,x= .sl kb ob len cap lo→SameOb h h' kb):Bytes h' x l:=by
 refine ⟨B.1,?_⟩
 rcases B.2 with h1 | ⟨kb,ob,cap,lo,m,hx,hm,hc⟩
 · exact .inl h1
 · have e:=hs kb ob _ cap lo hx
   exact .inr ⟨kb,ob,cap,lo,m,hx,by rw [e.mt];exact hm,fun j hj=>by rw [e.cell];exact hc j hj⟩
end Go.Xe
namespace Go.Xe
open Go.ChangeShapes Go.WideShapes Go.ChangeAt Go.RowKit
section
variable{P:Program}{H:Type}{enc:TypeId × Value→H}{w:World}
end
end Go.Xe
namespace Go.Xe
def rowOf:SV→Option Nat
 | .sl k _ _ _ _=>some k
 | _=>none
def Fresh(h:HW):Prop:= ∀ j,h.next≤j→h.objs.get j=none
theorem fresh_new{h:HW}(hf:Fresh h)(o:Ob):Fresh (h.new o):=fun j hj=>by
 rw [new_next] at hj
 rw [new_other h o (by omega)];exact hf j (by omega)
structure SlAt (h:HW) (k e sz len:Nat) (ys:List SV):Prop where
 lt:k < h.next
 mt: ∃ m,h.mt k=some m∧m.ty=e∧len * sz=m.n∧m.loose=true∧m.esz=sz∧m.ro=false
 cs: ∀ j,j < len * sz→h.cell k j=ys[j]?
def Sl(h:HW)(e sz:Nat)(x:SV)(len:Nat)(ys:List SV):Prop:=ys.length=len * sz∧((x= .val (.slice none 0 0)∧len=0)∨ ∃ k,x= .sl k 0 len none 0∧SlAt h k e sz len ys)
theorem Sl.nil(h:HW)(e sz:Nat):Sl h e sz (.val (.slice none 0 0)) 0 []:=⟨by simp,.inl ⟨rfl,rfl⟩⟩
theorem Sl.frame{h h':HW}{e sz len:Nat}{x:SV}{ys:List SV}(S:Sl h e sz x len ys)(hn:h.next≤h'.next)(hs: ∀ k,rowOf x=some k→SameOb h h' k):Sl h' e sz x len ys:=by
 refine ⟨S.1,?_⟩
 rcases S.2 with h1 | ⟨k,rfl,h2⟩
 · exact .inl h1
 · have e1:=hs k rfl
   obtain ⟨m,hm,hr⟩:=h2.mt
   exact .inr ⟨k,rfl,Nat.lt_of_lt_of_le h2.lt hn,⟨m,by rw [e1.mt];exact hm,hr⟩,fun j hj=>by rw [e1.cell];exact h2.cs j hj⟩
section
variable{P:Program}{t u e sz b:Nat}{z:Value}{d:TypeDesc}{h:HW}{x y:SV}{n:Nat}{news:List SV}
def growOb(o:Ob)(N off:Nat)(news:List SV):Ob:={o with ver:=0,n:=N,ov:=storeN o.ov off news}
def HW.grow(h:HW)(k N off:Nat)(news:List SV)(o:Ob):HW:=⟨h.ng,h.next+1,(h.objs.del k).put h.next (growOb o N off news)⟩
end
end Go.Xe
namespace Go.Xe
section
variable{P:Program}
end
end Go.Xe
namespace Go.Xe
open Go.ChangeShapes Go.WideShapes Go.ChangeAt Go.RowKit
section
variable{P:Program}{H:Type}{enc:TypeId × Value→H}{w:World}
theorem int_arg{t:TypeId}{k:IntKind}{v:Value}{d:DataW H}{ps:List MemPlace}{r:Reach}{b0:Nat}(ht:P.underlying t=some (.int k))(hval:Value.okWide P w r b0 t v)(h:DataW.Trod enc P w 0 (fun _=>true) true t v d ps):
 ∃ n,v= .int k n∧k.min≤n∧n≤k.max:=by
 obtain ⟨n,rfl⟩:=okWide_int ht hval
 obtain ⟨fuel,hf⟩:=h
 obtain ⟨n',h1,_,hw⟩:=DataW.trod_int ht hf
 refine ⟨n,rfl,?_⟩
 have h1:[Value.int k n]=[Value.int k n']:=h1
 cases h1
 simpa [Lit.wf] using hw
end
end Go.Xe
namespace Go.Xe
section
variable{P:Program}{t e:TypeId}{h:HW}
end
end Go.Xe
namespace Go.Xe
open Go.ChangeShapes Go.WideShapes Go.ChangeAt Go.RowKit
section
variable{P:Program}
end
theorem hasTab_cell{g:Nat}{k:IntKind}{zs:List Int}{h:HW}(ht:hasTab g k zs h=true):g < h.ng∧(∃ m,h.mt g=some m)∧ ∀ i,i < zs.length→h.cell g i=some (.int k (zs.getD i 0)):=by
 unfold hasTab at ht
 simp only [Bool.and_eq_true] at ht
 obtain ⟨hg,ht⟩:=ht
 have hg:g < h.ng:=by rw [Nat.blt_eq] at hg;exact hg
 split at ht <;> try (cases ht;done)
 rename_i o ho
 split at ht <;> try (cases ht;done)
 split at ht <;> try (cases ht;done)
 rename_i ys hys
 have hys':=eqInts_spec ht
 subst hys'
 refine ⟨hg,⟨o.mt,by unfold HW.mt;rw [ho]⟩,fun i hi=>?_⟩
 have:=loadN_get hys i (by simpa using hi)
 rw [Nat.zero_add] at this
 unfold HW.cell
 rw [ho]
 simp only [this]
 simp [List.getD,hi]
theorem hasTab_same{g:Nat}{k:IntKind}{zs:List Int}{h h':HW}(hn:h'.ng=h.ng)(hs:SameOb h h' g):hasTab g k zs h'=hasTab g k zs h:=by
 unfold hasTab
 rw [hn,hs]
theorem hw0_row{w:World}{k:Nat}{m:Mt}(h:(hw0 w).mt k=some m):k < (hw0 w).next:=by
 apply Nat.lt_of_not_le
 intro hle
 unfold HW.mt at h
 rw [hw0_dead w hle] at h
 cases h
end Go.Xe
namespace Go.Xe
section
variable{P:Program}{t u e sz b:Nat}{h:HW}
end
end Go.Xe
namespace Go.Xe
def HW.at(h:HW)(k:Nat)(o:Ob):HW:=⟨h.ng,h.next,h.objs.put k o⟩
section
variable{P:Program}{h:HW}
end
end Go.Xe
namespace Go.Xe
section
variable{H:Type}{enc:TypeId × Value→H}
end
end Go.Xe
namespace Go.Xe
open Go.ChangeShapes Go.WideShapes Go.ChangeAt Go.RowKit
section
variable{P:Program}{H:Type}{enc:TypeId × Value→H}{w:World}
def Wt(P:Program)(t:TypeId)(d:DataW H):Prop:= ∀ n ∈ d.weights P t,n≤140737488351232
theorem Wt.len{t e:TypeId}{el sp:List (DataW H)}(h:Wt P t (.slice el sp))(hu:P.underlying t=some (.slice e)):(el.length+sp.length) * P.bytesOf e≤140737488351232:=
 h _ (by simp [DataW.weights,hu])
theorem Wt.field{t:TypeId}{fs:Array Field}{ds:List (DataW H)}(h:Wt P t (.agg ds))(hu:P.underlying t=some (.struct fs)){i:Nat}{f:Field}{d:DataW H}(hf:fs[i]?=some f)(hd:ds[i]?=some d):Wt P f.type d:=fun n hn=>
 h n (by
   simp only [DataW.weights,hu]
   exact DataW.weights_mem_each (j:=i) (by simp [hf]) hd n hn)
theorem Wt.str{t:TypeId}{bytes:List UInt8}(h:Wt P t (.lit (.string bytes):DataW H)):bytes.length≤140737488351232:=h _ (by simp [DataW.weights])
end
end Go.Xe
namespace Go.Xe
section
variable{P:Program}{t u e b:Nat}{h:HW}{c:SV}{n k off len lo:Nat}{cap:Option Nat}
end
end Go.Xe
namespace Go.Proofs.YtgofkccnmmiciaaGreatDoor.Eva
open Go.Xe
theorem EV:(∀ {α:Type} (x:α) (k:α→Rs),ob (some x) k=k x)∧(∀ (y:SV) (h:HW) (k:SV→HW→Rs),b2 (some (y,h)) k=k y h)∧(∀ (y:SV) (h:HW) (k:SV→HW→Rs),bc (some (.ret y,h)) k=k y h)∧(∀ (y:SV) (h:HW) (k:SV→HW→Rs),bcn (some (.ret y,h)) k=k y h)∧
 (∀ (r:Rs) (h:HW),gd true (some (.bool true)) r h=r)∧(∀ (r:Rs) (h:HW),gd false (some (.bool false)) r h=r)∧(∀ (r:Rs) (h:HW),gd true (some (.bool false)) r h=some (.ret (.val undef),h))∧(∀ (r:Rs) (h:HW),gd false (some (.bool true)) r h=some (.ret (.val undef),h))∧
 (∀ a b:SV,ypk (.bool true) a b=some a)∧(∀ a b:SV,ypk (.bool false) a b=some b)∧(∀ a b:Rs,yIf (.bool true) a b=a)∧(∀ a b:Rs,yIf (.bool false) a b=b)∧(∀ k off:Nat,semNil (.ptr k off)=some (.ptr k off))∧(∀ fo k off:Nat,fa fo (.ptr k off)=some (.ptr k (off+fo)))∧
 (∀ (k off:Nat) (h:HW),ld1 (.ptr k off) h=h.cell k off)∧(∀ (i:Nat) (vs:List SV),ext i (.tup vs)=vs[i]?)∧(∀ (i:Nat) (vs:List SV),fd1 i (.agg vs)=vs[i]?)∧(∀ b:Bool,unE .not (.bool b)=some (.bool (!b)))∧
 (∀ {P:Program} {t:TypeId} {k:IntKind} {a b:Int},bin P .add t (.int k a) (.int k b)=some (.int k (k.wrap (a+b))))∧(∀ {P:Program} {t:TypeId} {k:IntKind} {a b:Int},bin P .sub t (.int k a) (.int k b)=some (.int k (k.wrap (a - b))))∧(∀ {P:Program} {t:TypeId} {k:IntKind} {a b:Int},bin P .mul t (.int k a) (.int k b)=some (.int k (k.wrap (a * b))))∧
 (∀ {P:Program} {t:TypeId} {k:IntKind} {a b:Int},bin P .eql t (.int k a) (.int k b)=some (.bool (decide (a=b))))∧(∀ {P:Program} {t:TypeId} {k:IntKind} {a b:Int},bin P .neq t (.int k a) (.int k b)=some (.bool (decide (a≠b))))∧(∀ {P:Program} {t:TypeId} {k:IntKind} {a b:Int},bin P .lss t (.int k a) (.int k b)=some (.bool (decide (a < b))))∧
 (∀ {P:Program} {t:TypeId} {k:IntKind} {a b:Int},bin P .leq t (.int k a) (.int k b)=some (.bool (decide (a≤b))))∧(∀ {P:Program} {t:TypeId} {k:IntKind} {a b:Int},bin P .gtr t (.int k a) (.int k b)=some (.bool (decide (b < a))))∧(∀ {P:Program} {t:TypeId} {k:IntKind} {a b:Int},bin P .geq t (.int k a) (.int k b)=some (.bool (decide (b≤a))))∧
 (∀ n:Nat,0+n=n)∧(∀ n:Nat,n * 1=n):=
 ⟨ob_some,b2_some,bc_ret,bcn_ret,gd_tt,gd_ff,gd_tf,gd_ft,ypk_true,ypk_false,yIf_true,yIf_false,semNil_ptr,fa_ptr,ld1_ptr,ext_tup,fd1_agg,un_not,bin_add,bin_sub,bin_mul,bin_eql,bin_neq,bin_lss,bin_leq,bin_gtr,bin_geq,Nat.zero_add,Nat.mul_one⟩
end Go.Proofs.YtgofkccnmmiciaaGreatDoor.Eva
namespace Go.Proofs.YtgofkccnmmiciaaGreatDoor.Eva
open Go.Xe
set_option linter.unusedSimpArgs false
structure Frm (h h':HW) (S:Nat→Prop):Prop where
 ng:h'.ng=h.ng
 next:h.next≤h'.next
 same: ∀ j,j < h.next→ ¬ S j→SameOb h h' j
 fr:Fresh h→Fresh h'
theorem Frm.refl(h:HW)(S:Nat→Prop):Frm h h S:=⟨rfl,Nat.le_refl _,fun _ _ _=>rfl,fun hf=>hf⟩
theorem Frm.trans{h h' h'':HW}{S:Nat→Prop}(a:Frm h h' S)(b:Frm h' h'' S):Frm h h'' S:=
 ⟨b.ng.trans a.ng,Nat.le_trans a.next b.next,fun j hj hs=>(b.same j (Nat.lt_of_lt_of_le hj a.next) hs).trans (a.same j hj hs),fun hf=>b.fr (a.fr hf)⟩
theorem frm_new(h:HW)(o:Ob)(S:Nat→Prop):Frm h (h.new o) S:=⟨rfl,Nat.le_succ _,fun j hj _=>new_other h o (by omega),fun hf=>fresh_new hf o⟩
def ss(L:List ByteArray):List SV:=L.map SV.str
def hasS(L:List ByteArray)(c:ByteArray):Bool:=L.any fun x=>x.toList==c.toList
theorem toList_inj{a b:ByteArray}:a.toList=b.toList↔a=b:=by
 refine ⟨fun h=>?_,fun h=>by rw [h]⟩
 rw [ByteArray.toList_eq,ByteArray.toList_eq] at h
 cases a;cases b
 simpa using h
theorem hasS_iff{L:List ByteArray}{c:ByteArray}:hasS L c=true↔c ∈ L:=by
 unfold hasS
 rw [List.any_eq_true]
 constructor
 · rintro ⟨x,h1,h2⟩
   have:=toList_inj.1 (beq_iff_eq.1 h2)
   rw [← this];exact h1
 · exact fun h=>⟨c,h,by simp⟩
theorem hasS_sub{L M:List ByteArray}{c:ByteArray}(h: ∀ x ∈ L,x ∈ M)(hn:hasS M c=false):hasS L c=false:=by
 cases hl:hasS L c with
 | false=>rfl
 | true=>rw [hasS_iff.2 (h c (hasS_iff.1 hl))] at hn;cases hn
theorem hasS_app(L M:List ByteArray)(c:ByteArray):hasS (L++M) c=(hasS L c||hasS M c):=by
 unfold hasS;rw [List.any_append]
theorem lenE_sl{t e k off len lo:Nat}{cap:Option Nat}(hu:(Tryz.prog).underlying t=some (.slice e)):lenE Tryz.prog t (.sl k off len cap lo)=some (.int .i64 (len:Int)):=by simp [lenE,hu]
theorem bin_eqlS{P:Program}{t:TypeId}{a b:ByteArray}:bin P .eql t (.str a) (.str b)=some (.bool (a.toList==b.toList)):=noRfl rfl
theorem bin_eqlB{a b:Bool}:bin Tryz.prog .eql 4 (.bool a) (.bool b)=some (.bool (a==b)):=by kernel_rfl
section
variable{P:Program}{h:HW}{t e:TypeId}
theorem ybs_lit{n:Nat}{ix:List Nat}{vs:List SV}{z:Value}(hu:P.underlying t=some (.slice e))(hs:tySize P e=some 1)(hz:tyZero P e=some z)(hzl:(mkV z).cells.length=1)(hn:Nat.ble (n * 1) 65536=true)(hf: ∀ c,fillL (fun i=>some (i * 1,1)) (reps [c] n) (ix.zip vs)=some vs):
 ybs P t n ix vs h=some (.sl h.next 0 n (some n) 0,h.new (rowOb e vs)):=by
 obtain ⟨c,hc⟩: ∃ c,(mkV z).cells=[c]:=by
  match hm:(mkV z).cells,hzl with
  | [c],_=>exact ⟨c,rfl⟩
 unfold ybs semBuildSlice
 have h1:(Nat.ble (n * 1) 65536&&Nat.ble 1 1&&Nat.beq [c].length 1)=true:=by rw [hn];rfl
 simp only [hu,hs,hz,hc,h1,cond_true,hf c,Go.Xe.newRow,force_eq]
 rfl
structure WsAt (h:HW) (k:Nat) (L:List ByteArray):Prop where
 cs: ∀ j (hj:j < L.length),h.cell k j=some (.str L[j])
 le:L.length≤1000
theorem wsAt_new{L:List ByteArray}(hl:L.length≤1000):WsAt (h.new (rowOb e (ss L))) h.next L:=
 ⟨fun j hj=>by rw [cell_new_same,rowOb_get];simp [ss,hj],hl⟩
end
section
variable{lf:Nat}{h:HW}
def OneOfOK(C:YC):Prop:= ∀ h k L (c:ByteArray),WsAt h k L→C (.fn 9) [.str c,.sl k 0 L.length (some L.length) 0] h=some (.ret (.bool (hasS L c)),h)
theorem one_loop{C:YC}{k:Nat}{L:List ByteArray}{c:ByteArray}(A:WsAt h k L)(r:K1)(e0:K0): ∀ (d t:Nat),t+d=L.length→ ∀ f,d < f→
 lp (l9_2 C lf r e0) f (some (.str c),some (.sl k 0 L.length (some L.length) 0),some (.int .i64 (L.length:Int)),some (.int .i64 (t:Int))) h=if hasS (L.drop t) c=true then r (some (.bool true)) h else e0 h
 | 0,t,ht,f,hf=>by
   obtain ⟨f,rfl⟩: ∃ g,f=g+1:=⟨f - 1,by omega⟩
   have hlt:decide ((t:Int) < (L.length:Int))=false:=decide_eq_false (by omega)
   have hd:L.drop t=[]:=List.drop_eq_nil_of_le (by omega)
   rw [lp_succ,hd,if_neg (by simp [hasS])]
   unfold l9_2 q9_14
   simp only [EV,hlt]
 | d+1,t,ht,f,hf=>by
   obtain ⟨f,rfl⟩: ∃ g,f=g+1:=⟨f - 1,by omega⟩
   have htl:t < L.length:=by omega
   have hle:=A.le
   have hlt:decide ((t:Int) < (L.length:Int))=true:=decide_eq_true (by omega)
   have hinc:IntKind.i64.wrap ((t:Int)+1)=((t+1:Nat):Int):=by rw [wrap_i64 (by omega) (by omega)];omega
   have hix:=ixS_sl (s:=1) (k:=k) (off:=0) (len:=L.length) (lo:=0) (cap:=some L.length) (kd:= .i64) (i:=(t:Int)) (by omega) (by omega)
   rw [Int.toNat_natCast,Nat.mul_one,Nat.zero_add] at hix
   have hc:=A.cs t htl
   have hd:L.drop t=L[t]::L.drop (t+1):=List.drop_eq_getElem_cons htl
   have ih:=one_loop (C:=C) (c:=c) A r e0 d (t+1) (by omega) f (by omega)
   rw [lp_succ,hd]
   show q9_14 C lf (fun x0 x7 x8 x9 h=>lp (l9_2 C lf r e0) f (x0,x7,x8,x9) h) r e0 _ _ _ _ h=_
   unfold q9_14
   have hh:hasS (L[t]::L.drop (t+1)) c=(L[t].toList==c.toList||hasS (L.drop (t+1)) c):=rfl
   rw [hh]
   cases hb:(L[t].toList==c.toList) with
   | true=>
     rw [Bool.true_or,if_pos rfl]
     simp only [EV,hlt,hix,hc,bin_eqlS,hb]
   | false=>
     rw [Bool.false_or]
     simp only [EV,hlt,hix,hc,bin_eqlS,hb,hinc]
     exact ih
theorem oneOf_p{C:YC}{r:K1}{x0 x1:O}:q9_21 C lf r x0 x1 h=q9_17 C lf (fun x0 x7 x8 x9 h=>lp (l9_2 C lf r (fun h=>q9_1 C lf r h)) lf (x0,x7,x8,x9) h) x0 x1 h:=rfl
theorem oneOf_ok{C:YC}(hlf:1001≤lf){k:Nat}{L:List ByteArray}{c:ByteArray}(A:WsAt h k L):fs9 C lf (.str c) (.sl k 0 L.length (some L.length) 0) h=some (.ret (.bool (hasS L c)),h):=by
 have hle:=A.le
 have hl:=lenE_sl (k:=k) (off:=0) (len:=L.length) (cap:=some L.length) (lo:=0) Tryz.underlying22
 have lo:=one_loop (lf:=lf) (C:=C) (c:=c) A ff9 (fun h=>q9_1 C lf ff9 h) L.length 0 (by omega) lf (by omega)
 unfold fs9
 rw [oneOf_p]
 unfold q9_17
 simp only [ob_some,hl]
 refine Eq.trans lo ?_
 rw [List.drop_zero]
 cases hasS L c with
 | true=>rw [if_pos rfl];rfl
 | false=>rw [if_neg (by decide)];rfl
end
end Go.Proofs.YtgofkccnmmiciaaGreatDoor.Eva
namespace Go.Proofs.YtgofkccnmmiciaaGreatDoor.Eva
open Go.Xe
set_option linter.unusedSimpArgs false
def wopen:ByteArray:=bs [111,112,101,110]
def wpipe:ByteArray:=bs [112,105,112,101]
def wread:ByteArray:=bs [114,101,97,100]
def wwrite:ByteArray:=bs [119,114,105,116,101]
def wseek:ByteArray:=bs [115,101,101,107]
def wclose:ByteArray:=bs [99,108,111,115,101]
def wdup:ByteArray:=bs [100,117,112]
def wdup2:ByteArray:=bs [100,117,112,50]
def wfstat:ByteArray:=bs [102,115,116,97,116]
def wftruncate:ByteArray:=bs [102,116,114,117,110,99,97,116,101]
def wreaddir:ByteArray:=bs [114,101,97,100,100,105,114]
def wchdir:ByteArray:=bs [99,104,100,105,114]
def wgetcwd:ByteArray:=bs [103,101,116,99,119,100]
def wmkdir:ByteArray:=bs [109,107,100,105,114]
def wrmdir:ByteArray:=bs [114,109,100,105,114]
def wlink:ByteArray:=bs [108,105,110,107]
def wunlink:ByteArray:=bs [117,110,108,105,110,107]
def wrename:ByteArray:=bs [114,101,110,97,109,101]
def wsymlink:ByteArray:=bs [115,121,109,108,105,110,107]
def wreadlink:ByteArray:=bs [114,101,97,100,108,105,110,107]
def wchmod:ByteArray:=bs [99,104,109,111,100]
def wchown:ByteArray:=bs [99,104,111,119,110]
def wutime:ByteArray:=bs [117,116,105,109,101]
def wtruncate:ByteArray:=bs [116,114,117,110,99,97,116,101]
def wstat:ByteArray:=bs [115,116,97,116]
def wlstat:ByteArray:=bs [108,115,116,97,116]
def waccess:ByteArray:=bs [97,99,99,101,115,115]
def NM:List ByteArray:=[wopen,wpipe,wread,wwrite,wseek,wclose,wdup,wdup2,wfstat,wftruncate,wreaddir,wchdir,wgetcwd,wmkdir,wrmdir,wlink,wunlink,wrename,wsymlink,wreadlink,wchmod,wchown,wutime,wtruncate,wstat,wlstat,waccess]
def L4:List ByteArray:=[wread,wwrite,wopen]
def L28:List ByteArray:=[wwrite,wopen,wmkdir,wsymlink,wlink,wrename]
def L24:List ByteArray:=[wopen,wdup,wpipe]
def L30:List ByteArray:=[wopen,wmkdir,wrmdir,wsymlink,wlink,wunlink,wrename,wchmod,wchown,wutime,wtruncate]
def L1:List ByteArray:=[wmkdir,wrmdir,wlink,wunlink,wrename,wchmod,wchown,wutime]
def L16:List ByteArray:=[wrmdir,wrename,wunlink]
def L27:List ByteArray:=[wwrite,wtruncate,wftruncate]
def L31:List ByteArray:=[wlink,wrename,wmkdir]
def L13:List ByteArray:=[wstat,wlstat,wreadlink,waccess,wchdir]
theorem zero_ofS{o:Option Value}{n:Nat}(h:o.map (fun z=>(mkV z).cells.length)=some n): ∃ z,o=some z∧(mkV z).cells.length=n:=by
 cases o with
 | none=>cases h
 | some z=>exact ⟨z,rfl,by simpa using h⟩
theorem zeroS: ∃ z,tyZero Tryz.prog 9=some z∧(mkV z).cells.length=1:=zero_ofS (by kernel_rfl)
section
variable{lf:Nat}{h:HW}{c:ByteArray}
theorem NM_lit(h:HW):ybs Tryz.prog 22 27 [0,1,2,3,4,5,6,7,8,9,10,11,12,13,14,15,16,17,18,19,20,21,22,23,24,25,26] [(.str (bs [111,112,101,110])),(.str (bs [112,105,112,101])),(.str (bs [114,101,97,100])),(.str (bs [119,114,105,116,101])),(.str (bs [115,101,101,107])),(.str (bs [99,108,111,115,101])),(.str (bs [100,117,112])),(.str (bs [100,117,112,50])),(.str (bs [102,115,116,97,116])),(.str (bs [102,116,114,117,110,99,97,116,101])),(.str (bs [114,101,97,100,100,105,114])),(.str (bs [99,104,100,105,114])),(.str (bs [103,101,116,99,119,100])),(.str (bs [109,107,100,105,114])),(.str (bs [114,109,100,105,114])),(.str (bs [108,105,110,107])),(.str (bs [117,110,108,105,110,107])),(.str (bs [114,101,110,97,109,101])),(.str (bs [115,121,109,108,105,110,107])),(.str (bs [114,101,97,100,108,105,110,107])),(.str (bs [99,104,109,111,100])),(.str (bs [99,104,111,119,110])),(.str (bs [117,116,105,109,101])),(.str (bs [116,114,117,110,99,97,116,101])),(.str (bs [115,116,97,116])),(.str (bs [108,115,116,97,116])),(.str (bs [97,99,99,101,115,115]))] h=some (.sl h.next 0 27 (some 27) 0,h.new (rowOb 9 (ss NM))):=by
 obtain ⟨z,hz,hzl⟩:=zeroS
 exact ybs_lit (vs:=ss NM) Tryz.underlying22 (by kernel_rfl) hz hzl (by kernel_rfl) (fun c=>by kernel_rfl)
theorem NM_one{C:YC}(On:OneOfOK C)(h:HW)(c:ByteArray):C (.fn 9) [.str c,.sl h.next 0 27 (some 27) 0] (h.new (rowOb 9 (ss NM)))=some (.ret (.bool (hasS NM c)),h.new (rowOb 9 (ss NM))):=
 On _ h.next NM c (wsAt_new (by show 27≤1000;omega))
theorem L4_lit(h:HW):ybs Tryz.prog 22 3 [0,1,2] [(.str (bs [114,101,97,100])),(.str (bs [119,114,105,116,101])),(.str (bs [111,112,101,110]))] h=some (.sl h.next 0 3 (some 3) 0,h.new (rowOb 9 (ss L4))):=by
 obtain ⟨z,hz,hzl⟩:=zeroS
 exact ybs_lit (vs:=ss L4) Tryz.underlying22 (by kernel_rfl) hz hzl (by kernel_rfl) (fun c=>by kernel_rfl)
theorem L4_one{C:YC}(On:OneOfOK C)(h:HW)(c:ByteArray):C (.fn 9) [.str c,.sl h.next 0 3 (some 3) 0] (h.new (rowOb 9 (ss L4)))=some (.ret (.bool (hasS L4 c)),h.new (rowOb 9 (ss L4))):=
 On _ h.next L4 c (wsAt_new (by show 3≤1000;omega))
theorem L28_lit(h:HW):ybs Tryz.prog 22 6 [0,1,2,3,4,5] [(.str (bs [119,114,105,116,101])),(.str (bs [111,112,101,110])),(.str (bs [109,107,100,105,114])),(.str (bs [115,121,109,108,105,110,107])),(.str (bs [108,105,110,107])),(.str (bs [114,101,110,97,109,101]))] h=some (.sl h.next 0 6 (some 6) 0,h.new (rowOb 9 (ss L28))):=by
 obtain ⟨z,hz,hzl⟩:=zeroS
 exact ybs_lit (vs:=ss L28) Tryz.underlying22 (by kernel_rfl) hz hzl (by kernel_rfl) (fun c=>by kernel_rfl)
theorem L28_one{C:YC}(On:OneOfOK C)(h:HW)(c:ByteArray):C (.fn 9) [.str c,.sl h.next 0 6 (some 6) 0] (h.new (rowOb 9 (ss L28)))=some (.ret (.bool (hasS L28 c)),h.new (rowOb 9 (ss L28))):=
 On _ h.next L28 c (wsAt_new (by show 6≤1000;omega))
theorem L24_lit(h:HW):ybs Tryz.prog 22 3 [0,1,2] [(.str (bs [111,112,101,110])),(.str (bs [100,117,112])),(.str (bs [112,105,112,101]))] h=some (.sl h.next 0 3 (some 3) 0,h.new (rowOb 9 (ss L24))):=by
 obtain ⟨z,hz,hzl⟩:=zeroS
 exact ybs_lit (vs:=ss L24) Tryz.underlying22 (by kernel_rfl) hz hzl (by kernel_rfl) (fun c=>by kernel_rfl)
theorem L24_one{C:YC}(On:OneOfOK C)(h:HW)(c:ByteArray):C (.fn 9) [.str c,.sl h.next 0 3 (some 3) 0] (h.new (rowOb 9 (ss L24)))=some (.ret (.bool (hasS L24 c)),h.new (rowOb 9 (ss L24))):=
 On _ h.next L24 c (wsAt_new (by show 3≤1000;omega))
theorem L30_lit(h:HW):ybs Tryz.prog 22 11 [0,1,2,3,4,5,6,7,8,9,10] [(.str (bs [111,112,101,110])),(.str (bs [109,107,100,105,114])),(.str (bs [114,109,100,105,114])),(.str (bs [115,121,109,108,105,110,107])),(.str (bs [108,105,110,107])),(.str (bs [117,110,108,105,110,107])),(.str (bs [114,101,110,97,109,101])),(.str (bs [99,104,109,111,100])),(.str (bs [99,104,111,119,110])),(.str (bs [117,116,105,109,101])),(.str (bs [116,114,117,110,99,97,116,101]))] h=some (.sl h.next 0 11 (some 11) 0,h.new (rowOb 9 (ss L30))):=by
 obtain ⟨z,hz,hzl⟩:=zeroS
 exact ybs_lit (vs:=ss L30) Tryz.underlying22 (by kernel_rfl) hz hzl (by kernel_rfl) (fun c=>by kernel_rfl)
theorem L30_one{C:YC}(On:OneOfOK C)(h:HW)(c:ByteArray):C (.fn 9) [.str c,.sl h.next 0 11 (some 11) 0] (h.new (rowOb 9 (ss L30)))=some (.ret (.bool (hasS L30 c)),h.new (rowOb 9 (ss L30))):=
 On _ h.next L30 c (wsAt_new (by show 11≤1000;omega))
theorem L1_lit(h:HW):ybs Tryz.prog 22 8 [0,1,2,3,4,5,6,7] [(.str (bs [109,107,100,105,114])),(.str (bs [114,109,100,105,114])),(.str (bs [108,105,110,107])),(.str (bs [117,110,108,105,110,107])),(.str (bs [114,101,110,97,109,101])),(.str (bs [99,104,109,111,100])),(.str (bs [99,104,111,119,110])),(.str (bs [117,116,105,109,101]))] h=some (.sl h.next 0 8 (some 8) 0,h.new (rowOb 9 (ss L1))):=by
 obtain ⟨z,hz,hzl⟩:=zeroS
 exact ybs_lit (vs:=ss L1) Tryz.underlying22 (by kernel_rfl) hz hzl (by kernel_rfl) (fun c=>by kernel_rfl)
theorem L1_one{C:YC}(On:OneOfOK C)(h:HW)(c:ByteArray):C (.fn 9) [.str c,.sl h.next 0 8 (some 8) 0] (h.new (rowOb 9 (ss L1)))=some (.ret (.bool (hasS L1 c)),h.new (rowOb 9 (ss L1))):=
 On _ h.next L1 c (wsAt_new (by show 8≤1000;omega))
theorem L16_lit(h:HW):ybs Tryz.prog 22 3 [0,1,2] [(.str (bs [114,109,100,105,114])),(.str (bs [114,101,110,97,109,101])),(.str (bs [117,110,108,105,110,107]))] h=some (.sl h.next 0 3 (some 3) 0,h.new (rowOb 9 (ss L16))):=by
 obtain ⟨z,hz,hzl⟩:=zeroS
 exact ybs_lit (vs:=ss L16) Tryz.underlying22 (by kernel_rfl) hz hzl (by kernel_rfl) (fun c=>by kernel_rfl)
theorem L16_one{C:YC}(On:OneOfOK C)(h:HW)(c:ByteArray):C (.fn 9) [.str c,.sl h.next 0 3 (some 3) 0] (h.new (rowOb 9 (ss L16)))=some (.ret (.bool (hasS L16 c)),h.new (rowOb 9 (ss L16))):=
 On _ h.next L16 c (wsAt_new (by show 3≤1000;omega))
theorem L27_lit(h:HW):ybs Tryz.prog 22 3 [0,1,2] [(.str (bs [119,114,105,116,101])),(.str (bs [116,114,117,110,99,97,116,101])),(.str (bs [102,116,114,117,110,99,97,116,101]))] h=some (.sl h.next 0 3 (some 3) 0,h.new (rowOb 9 (ss L27))):=by
 obtain ⟨z,hz,hzl⟩:=zeroS
 exact ybs_lit (vs:=ss L27) Tryz.underlying22 (by kernel_rfl) hz hzl (by kernel_rfl) (fun c=>by kernel_rfl)
theorem L27_one{C:YC}(On:OneOfOK C)(h:HW)(c:ByteArray):C (.fn 9) [.str c,.sl h.next 0 3 (some 3) 0] (h.new (rowOb 9 (ss L27)))=some (.ret (.bool (hasS L27 c)),h.new (rowOb 9 (ss L27))):=
 On _ h.next L27 c (wsAt_new (by show 3≤1000;omega))
theorem L31_lit(h:HW):ybs Tryz.prog 22 3 [0,1,2] [(.str (bs [108,105,110,107])),(.str (bs [114,101,110,97,109,101])),(.str (bs [109,107,100,105,114]))] h=some (.sl h.next 0 3 (some 3) 0,h.new (rowOb 9 (ss L31))):=by
 obtain ⟨z,hz,hzl⟩:=zeroS
 exact ybs_lit (vs:=ss L31) Tryz.underlying22 (by kernel_rfl) hz hzl (by kernel_rfl) (fun c=>by kernel_rfl)
theorem L31_one{C:YC}(On:OneOfOK C)(h:HW)(c:ByteArray):C (.fn 9) [.str c,.sl h.next 0 3 (some 3) 0] (h.new (rowOb 9 (ss L31)))=some (.ret (.bool (hasS L31 c)),h.new (rowOb 9 (ss L31))):=
 On _ h.next L31 c (wsAt_new (by show 3≤1000;omega))
theorem L13_lit(h:HW):ybs Tryz.prog 22 5 [0,1,2,3,4] [(.str (bs [115,116,97,116])),(.str (bs [108,115,116,97,116])),(.str (bs [114,101,97,100,108,105,110,107])),(.str (bs [97,99,99,101,115,115])),(.str (bs [99,104,100,105,114]))] h=some (.sl h.next 0 5 (some 5) 0,h.new (rowOb 9 (ss L13))):=by
 obtain ⟨z,hz,hzl⟩:=zeroS
 exact ybs_lit (vs:=ss L13) Tryz.underlying22 (by kernel_rfl) hz hzl (by kernel_rfl) (fun c=>by kernel_rfl)
theorem L13_one{C:YC}(On:OneOfOK C)(h:HW)(c:ByteArray):C (.fn 9) [.str c,.sl h.next 0 5 (some 5) 0] (h.new (rowOb 9 (ss L13)))=some (.ret (.bool (hasS L13 c)),h.new (rowOb 9 (ss L13))):=
 On _ h.next L13 c (wsAt_new (by show 5≤1000;omega))
def KnownOK(C:YC):Prop:= ∀ h (c:ByteArray), ∃ h',C (.fn 8) [.str c] h=some (.ret (.bool (hasS NM c)),h')∧Frm h h' (fun _=>False)
theorem known_ok{C:YC}(On:OneOfOK C): ∃ h',fs8 C lf (.str c) h=some (.ret (.bool (hasS NM c)),h')∧Frm h h' (fun _=>False):=by
 refine ⟨_,?_,frm_new h (rowOb 9 (ss NM)) _⟩
 · unfold fs8 q8_4 ff8
   simp only [ob_some,b2_some,NM_lit,bc_ret,NM_one On]
def lgP(c:ByteArray)(e:Int):Bool:=if e=5 then hasS NM c else if e=4 then hasS L4 c else if e=28 then hasS L28 c else if e=24 then hasS L24 c else if e=13 then (hasS L13 c||hasS L30 c) else if e=30 then hasS L30 c else if e=1 then hasS L1 c else
 if e=16 then hasS L16 c else if e=27 then hasS L27 c else if e=31 then hasS L31 c else false
def LegalOK(C:YC):Prop:= ∀ h (c:ByteArray) (e:Int), ∃ h',C (.fn 5) [.str c,.int .i64 e] h=some (.ret (.bool (lgP c e)),h')∧Frm h h' (fun _=>False)
theorem legal_ok{C:YC}(On:OneOfOK C)(Kn:KnownOK C){e:Int}: ∃ h',fs5 C lf (.str c) (.int .i64 e) h=some (.ret (.bool (lgP c e)),h')∧Frm h h' (fun _=>False):=by
 unfold fs5 q5_44 ff5
 by_cases e5:e=5
 · have d5:decide (e=5)=true:=decide_eq_true e5
   have hl:lgP c e=hasS NM c:=by unfold lgP;rw [if_pos e5]
   obtain ⟨h1,c1,F1⟩:=Kn h c
   refine ⟨h1,?_,F1⟩
   simp only [ob_some,bin_eql,d5,yIf_true,yIf_false,c1,bc_ret,hl]
 by_cases e4:e=4
 · have d5:decide (e=5)=false:=decide_eq_false e5
   have d4:decide (e=4)=true:=decide_eq_true e4
   have hl:lgP c e=hasS L4 c:=by unfold lgP;rw [if_neg e5,if_pos e4]
   refine ⟨_,?_,frm_new h (rowOb 9 (ss L4)) _⟩
   simp only [ob_some,bin_eql,d5,d4,yIf_true,yIf_false,b2_some,L4_lit,L4_one On,bc_ret,hl]
 by_cases e28:e=28
 · have d5:decide (e=5)=false:=decide_eq_false e5
   have d4:decide (e=4)=false:=decide_eq_false e4
   have d28:decide (e=28)=true:=decide_eq_true e28
   have hl:lgP c e=hasS L28 c:=by unfold lgP;rw [if_neg e5,if_neg e4,if_pos e28]
   refine ⟨_,?_,frm_new h (rowOb 9 (ss L28)) _⟩
   simp only [ob_some,bin_eql,d5,d4,d28,yIf_true,yIf_false,b2_some,L28_lit,L28_one On,bc_ret,hl]
 by_cases e24:e=24
 · have d5:decide (e=5)=false:=decide_eq_false e5
   have d4:decide (e=4)=false:=decide_eq_false e4
   have d28:decide (e=28)=false:=decide_eq_false e28
   have d24:decide (e=24)=true:=decide_eq_true e24
   have hl:lgP c e=hasS L24 c:=by unfold lgP;rw [if_neg e5,if_neg e4,if_neg e28,if_pos e24]
   refine ⟨_,?_,frm_new h (rowOb 9 (ss L24)) _⟩
   simp only [ob_some,bin_eql,d5,d4,d28,d24,yIf_true,yIf_false,b2_some,L24_lit,L24_one On,bc_ret,hl]
 by_cases e13:e=13
 · have d5:decide (e=5)=false:=decide_eq_false e5
   have d4:decide (e=4)=false:=decide_eq_false e4
   have d28:decide (e=28)=false:=decide_eq_false e28
   have d24:decide (e=24)=false:=decide_eq_false e24
   have d13:decide (e=13)=true:=decide_eq_true e13
   have hl:lgP c e=(hasS L13 c||hasS L30 c):=by unfold lgP;rw [if_neg e5,if_neg e4,if_neg e28,if_neg e24,if_pos e13]
   rw [hl]
   cases hb:hasS L13 c with
   | true=>
     refine ⟨_,?_,frm_new h (rowOb 9 (ss L13)) _⟩
     simp only [ob_some,bin_eql,d5,d4,d28,d24,d13,yIf_true,yIf_false,b2_some,L13_lit,L13_one On,hb,bc_ret,Bool.true_or]
   | false=>
     refine ⟨_,?_,(frm_new h (rowOb 9 (ss L13)) _).trans (frm_new _ (rowOb 9 (ss L30)) _)⟩
     simp only [ob_some,bin_eql,d5,d4,d28,d24,d13,yIf_true,yIf_false,b2_some,L13_lit,L13_one On,hb,bc_ret,Bool.false_or,L30_lit,L30_one On]
 by_cases e30:e=30
 · have d5:decide (e=5)=false:=decide_eq_false e5
   have d4:decide (e=4)=false:=decide_eq_false e4
   have d28:decide (e=28)=false:=decide_eq_false e28
   have d24:decide (e=24)=false:=decide_eq_false e24
   have d13:decide (e=13)=false:=decide_eq_false e13
   have d30:decide (e=30)=true:=decide_eq_true e30
   have hl:lgP c e=hasS L30 c:=by unfold lgP;rw [if_neg e5,if_neg e4,if_neg e28,if_neg e24,if_neg e13,if_pos e30]
   refine ⟨_,?_,frm_new h (rowOb 9 (ss L30)) _⟩
   simp only [ob_some,bin_eql,d5,d4,d28,d24,d13,d30,yIf_true,yIf_false,b2_some,L30_lit,L30_one On,bc_ret,hl]
 by_cases e1:e=1
 · have d5:decide (e=5)=false:=decide_eq_false e5
   have d4:decide (e=4)=false:=decide_eq_false e4
   have d28:decide (e=28)=false:=decide_eq_false e28
   have d24:decide (e=24)=false:=decide_eq_false e24
   have d13:decide (e=13)=false:=decide_eq_false e13
   have d30:decide (e=30)=false:=decide_eq_false e30
   have d1:decide (e=1)=true:=decide_eq_true e1
   have hl:lgP c e=hasS L1 c:=by unfold lgP;rw [if_neg e5,if_neg e4,if_neg e28,if_neg e24,if_neg e13,if_neg e30,if_pos e1]
   refine ⟨_,?_,frm_new h (rowOb 9 (ss L1)) _⟩
   simp only [ob_some,bin_eql,d5,d4,d28,d24,d13,d30,d1,yIf_true,yIf_false,b2_some,L1_lit,L1_one On,bc_ret,hl]
 by_cases e16:e=16
 · have d5:decide (e=5)=false:=decide_eq_false e5
   have d4:decide (e=4)=false:=decide_eq_false e4
   have d28:decide (e=28)=false:=decide_eq_false e28
   have d24:decide (e=24)=false:=decide_eq_false e24
   have d13:decide (e=13)=false:=decide_eq_false e13
   have d30:decide (e=30)=false:=decide_eq_false e30
   have d1:decide (e=1)=false:=decide_eq_false e1
   have d16:decide (e=16)=true:=decide_eq_true e16
   have hl:lgP c e=hasS L16 c:=by unfold lgP;rw [if_neg e5,if_neg e4,if_neg e28,if_neg e24,if_neg e13,if_neg e30,if_neg e1,if_pos e16]
   refine ⟨_,?_,frm_new h (rowOb 9 (ss L16)) _⟩
   simp only [ob_some,bin_eql,d5,d4,d28,d24,d13,d30,d1,d16,yIf_true,yIf_false,b2_some,L16_lit,L16_one On,bc_ret,hl]
 by_cases e27:e=27
 · have d5:decide (e=5)=false:=decide_eq_false e5
   have d4:decide (e=4)=false:=decide_eq_false e4
   have d28:decide (e=28)=false:=decide_eq_false e28
   have d24:decide (e=24)=false:=decide_eq_false e24
   have d13:decide (e=13)=false:=decide_eq_false e13
   have d30:decide (e=30)=false:=decide_eq_false e30
   have d1:decide (e=1)=false:=decide_eq_false e1
   have d16:decide (e=16)=false:=decide_eq_false e16
   have d27:decide (e=27)=true:=decide_eq_true e27
   have hl:lgP c e=hasS L27 c:=by unfold lgP;rw [if_neg e5,if_neg e4,if_neg e28,if_neg e24,if_neg e13,if_neg e30,if_neg e1,if_neg e16,if_pos e27]
   refine ⟨_,?_,frm_new h (rowOb 9 (ss L27)) _⟩
   simp only [ob_some,bin_eql,d5,d4,d28,d24,d13,d30,d1,d16,d27,yIf_true,yIf_false,b2_some,L27_lit,L27_one On,bc_ret,hl]
 by_cases e31:e=31
 · have d5:decide (e=5)=false:=decide_eq_false e5
   have d4:decide (e=4)=false:=decide_eq_false e4
   have d28:decide (e=28)=false:=decide_eq_false e28
   have d24:decide (e=24)=false:=decide_eq_false e24
   have d13:decide (e=13)=false:=decide_eq_false e13
   have d30:decide (e=30)=false:=decide_eq_false e30
   have d1:decide (e=1)=false:=decide_eq_false e1
   have d16:decide (e=16)=false:=decide_eq_false e16
   have d27:decide (e=27)=false:=decide_eq_false e27
   have d31:decide (e=31)=true:=decide_eq_true e31
   have hl:lgP c e=hasS L31 c:=by unfold lgP;rw [if_neg e5,if_neg e4,if_neg e28,if_neg e24,if_neg e13,if_neg e30,if_neg e1,if_neg e16,if_neg e27,if_pos e31]
   refine ⟨_,?_,frm_new h (rowOb 9 (ss L31)) _⟩
   simp only [ob_some,bin_eql,d5,d4,d28,d24,d13,d30,d1,d16,d27,d31,yIf_true,yIf_false,b2_some,L31_lit,L31_one On,bc_ret,hl]
 have d5:decide (e=5)=false:=decide_eq_false e5
 have d4:decide (e=4)=false:=decide_eq_false e4
 have d28:decide (e=28)=false:=decide_eq_false e28
 have d24:decide (e=24)=false:=decide_eq_false e24
 have d13:decide (e=13)=false:=decide_eq_false e13
 have d30:decide (e=30)=false:=decide_eq_false e30
 have d1:decide (e=1)=false:=decide_eq_false e1
 have d16:decide (e=16)=false:=decide_eq_false e16
 have d27:decide (e=27)=false:=decide_eq_false e27
 have d31:decide (e=31)=false:=decide_eq_false e31
 have hl:lgP c e=false:=by unfold lgP;rw [if_neg e5,if_neg e4,if_neg e28,if_neg e24,if_neg e13,if_neg e30,if_neg e1,if_neg e16,if_neg e27,if_neg e31]
 refine ⟨h,?_,Frm.refl _ _⟩
 simp only [ob_some,bin_eql,d5,d4,d28,d24,d13,d30,d1,d16,d27,d31,yIf_false,hl]
end
end Go.Proofs.YtgofkccnmmiciaaGreatDoor.Eva
namespace Go.Proofs.YtgofkccnmmiciaaGreatDoor.Eva
open Go.Xe
set_option linter.unusedSimpArgs false
def t4:ByteArray:=bs [114,101,97,100,32,119,114,105,116,101,32,111,112,101,110]
def t28:ByteArray:=bs [119,114,105,116,101,32,111,112,101,110,32,109,107,100,105,114,32,115,121,109,108,105,110,107,32,108,105,110,107,32,114,101,110,97,109,101]
def t24:ByteArray:=bs [111,112,101,110,32,100,117,112,32,112,105,112,101]
def t30:ByteArray:=bs [111,112,101,110,32,109,107,100,105,114,32,114,109,100,105,114,32,115,121,109,108,105,110,107,32,108,105,110,107,32,117,110,108,105,110,107,32,114,101,110,97,109,101,32,99,104,109,111,100,32,99,104,111,119,110,32,117,116,105,109,101,32,116,114,117,110,99,97,116,101]
def t1:ByteArray:=bs [109,107,100,105,114,32,114,109,100,105,114,32,108,105,110,107,32,117,110,108,105,110,107,32,114,101,110,97,109,101,32,99,104,109,111,100,32,99,104,111,119,110,32,117,116,105,109,101]
def t16:ByteArray:=bs [114,109,100,105,114,32,114,101,110,97,109,101,32,117,110,108,105,110,107]
def t27:ByteArray:=bs [119,114,105,116,101,32,116,114,117,110,99,97,116,101,32,102,116,114,117,110,99,97,116,101]
def t31:ByteArray:=bs [108,105,110,107,32,114,101,110,97,109,101,32,109,107,100,105,114]
def t13:ByteArray:=bs [111,112,101,110,32,109,107,100,105,114,32,114,109,100,105,114,32,115,121,109,108,105,110,107,32,108,105,110,107,32,117,110,108,105,110,107,32,114,101,110,97,109,101,32,99,104,109,111,100,32,99,104,111,119,110,32,117,116,105,109,101,32,116,114,117,110,99,97,116,101,32,115,116,97,116,32,108,115,116,97,116,32,114,101,97,100,108,105,110,107,32,97,99,99,101,115,115,32,99,104,100,105,114]
section
variable{lf:Nat}{h:HW}{c:ByteArray}
def NamesOK(C:YC):Prop:= ∀ h,C (.fn 4) [] h=some (.ret (.sl h.next 0 27 (some 27) 0),h.new (rowOb 9 (ss NM)))
theorem names_ok{C:YC}:fs4 C lf h=some (.ret (.sl h.next 0 27 (some 27) 0),h.new (rowOb 9 (ss NM))):=by
 unfold fs4 q4_2 ff4
 simp only [b2_some,NM_lit,ob_some]
def CallOK(C:YC):Prop:= ∀ h (c:ByteArray), ∃ h',C (.fn 10) [.str c] h=some (.ret (.bool (hasS NM c)),h')∧Frm h h' (fun _=>False)
theorem call_loop{C:YC}{k:Nat}{L:List ByteArray}{c:ByteArray}(A:WsAt h k L)(r:K1)(e0:K0): ∀ (d t:Nat),t+d=L.length→ ∀ f,d < f→
 lp (l10_2 C lf r e0) f (some (.str c),some (.sl k 0 L.length (some L.length) 0),some (.int .i64 (L.length:Int)),some (.int .i64 (t:Int))) h=if hasS (L.drop t) c=true then r (some (.bool true)) h else e0 h
 | 0,t,ht,f,hf=>by
   obtain ⟨f,rfl⟩: ∃ g,f=g+1:=⟨f - 1,by omega⟩
   have hlt:decide ((t:Int) < (L.length:Int))=false:=decide_eq_false (by omega)
   have hd:L.drop t=[]:=List.drop_eq_nil_of_le (by omega)
   rw [lp_succ,hd,if_neg (by simp [hasS])]
   unfold l10_2 q10_14
   simp only [EV,hlt]
 | d+1,t,ht,f,hf=>by
   obtain ⟨f,rfl⟩: ∃ g,f=g+1:=⟨f - 1,by omega⟩
   have htl:t < L.length:=by omega
   have hle:=A.le
   have hlt:decide ((t:Int) < (L.length:Int))=true:=decide_eq_true (by omega)
   have hinc:IntKind.i64.wrap ((t:Int)+1)=((t+1:Nat):Int):=by rw [wrap_i64 (by omega) (by omega)];omega
   have hix:=ixS_sl (s:=1) (k:=k) (off:=0) (len:=L.length) (lo:=0) (cap:=some L.length) (kd:= .i64) (i:=(t:Int)) (by omega) (by omega)
   rw [Int.toNat_natCast,Nat.mul_one,Nat.zero_add] at hix
   have hc:=A.cs t htl
   have hd:L.drop t=L[t]::L.drop (t+1):=List.drop_eq_getElem_cons htl
   have ih:=call_loop (C:=C) (c:=c) A r e0 d (t+1) (by omega) f (by omega)
   rw [lp_succ,hd]
   show q10_14 C lf (fun x0 x5 x6 x7 h=>lp (l10_2 C lf r e0) f (x0,x5,x6,x7) h) r e0 _ _ _ _ h=_
   unfold q10_14
   have hh:hasS (L[t]::L.drop (t+1)) c=(L[t].toList==c.toList||hasS (L.drop (t+1)) c):=rfl
   rw [hh]
   cases hb:(L[t].toList==c.toList) with
   | true=>
     rw [Bool.true_or,if_pos rfl]
     simp only [EV,hlt,hix,hc,bin_eqlS,hb]
   | false=>
     rw [Bool.false_or]
     simp only [EV,hlt,hix,hc,bin_eqlS,hb,hinc]
     exact ih
theorem call_p{C:YC}{r:K1}{x0:O}:q10_21 C lf r x0 h=q10_17 C lf (fun x0 x5 x6 x7 h=>lp (l10_2 C lf r (fun h=>q10_1 C lf r h)) lf (x0,x5,x6,x7) h) x0 h:=rfl
theorem call_ok{C:YC}(hlf:1001≤lf)(Na:NamesOK C): ∃ h',fs10 C lf (.str c) h=some (.ret (.bool (hasS NM c)),h')∧Frm h h' (fun _=>False):=by
 have hl:=lenE_sl (k:=h.next) (off:=0) (len:=27) (cap:=some 27) (lo:=0) Tryz.underlying22
 have e27:NM.length=27:=rfl
 have A:WsAt (h.new (rowOb 9 (ss NM))) h.next NM:=wsAt_new (by rw [e27];omega)
 have lo:=call_loop (lf:=lf) (C:=C) (c:=c) A ff10 (fun h=>q10_1 C lf ff10 h) NM.length 0 (by omega) lf (by rw [e27];omega)
 rw [e27] at lo
 refine ⟨_,?_,frm_new h (rowOb 9 (ss NM)) _⟩
 · unfold fs10
   rw [call_p]
   unfold q10_17
   simp only [ob_some,Na h,bc_ret,hl]
   refine Eq.trans lo ?_
   rw [List.drop_zero]
   cases hasS NM c with
   | true=>rw [if_pos rfl];rfl
   | false=>rw [if_neg (by decide)];rfl
theorem am4{C:YC}{m:Nat}{h:HW}:(NM.map fun c=>fs11 C (m+200) (.str c) (.str t4) h)=NM.map fun c=>some (.ret (.bool (hasS L4 c)),h):=by kernel_rfl
theorem am28{C:YC}{m:Nat}{h:HW}:(NM.map fun c=>fs11 C (m+200) (.str c) (.str t28) h)=NM.map fun c=>some (.ret (.bool (hasS L28 c)),h):=by kernel_rfl
theorem am24{C:YC}{m:Nat}{h:HW}:(NM.map fun c=>fs11 C (m+200) (.str c) (.str t24) h)=NM.map fun c=>some (.ret (.bool (hasS L24 c)),h):=by kernel_rfl
theorem am30{C:YC}{m:Nat}{h:HW}:(NM.map fun c=>fs11 C (m+200) (.str c) (.str t30) h)=NM.map fun c=>some (.ret (.bool (hasS L30 c)),h):=by kernel_rfl
theorem am1{C:YC}{m:Nat}{h:HW}:(NM.map fun c=>fs11 C (m+200) (.str c) (.str t1) h)=NM.map fun c=>some (.ret (.bool (hasS L1 c)),h):=by kernel_rfl
theorem am16{C:YC}{m:Nat}{h:HW}:(NM.map fun c=>fs11 C (m+200) (.str c) (.str t16) h)=NM.map fun c=>some (.ret (.bool (hasS L16 c)),h):=by kernel_rfl
theorem am27{C:YC}{m:Nat}{h:HW}:(NM.map fun c=>fs11 C (m+200) (.str c) (.str t27) h)=NM.map fun c=>some (.ret (.bool (hasS L27 c)),h):=by kernel_rfl
theorem am31{C:YC}{m:Nat}{h:HW}:(NM.map fun c=>fs11 C (m+200) (.str c) (.str t31) h)=NM.map fun c=>some (.ret (.bool (hasS L31 c)),h):=by kernel_rfl
theorem am13{C:YC}{m:Nat}{h:HW}:(NM.map fun c=>fs11 C (m+200) (.str c) (.str t13) h)=NM.map fun c=>some (.ret (.bool (hasS (L30++L13) c)),h):=by kernel_rfl
end
end Go.Proofs.YtgofkccnmmiciaaGreatDoor.Eva
namespace Go.Proofs.YtgofkccnmmiciaaGreatDoor.Eva
open Go.Xe
set_option linter.unusedSimpArgs false
section
variable{lf:Nat}{h:HW}{c:ByteArray}
def AmongOK(C:YC):Prop:= ∀ h (c:ByteArray),c ∈ NM→C (.fn 11) [.str c,.str (bs [114,101,97,100,32,119,114,105,116,101,32,111,112,101,110])] h=some (.ret (.bool (hasS L4 c)),h)∧C (.fn 11) [.str c,.str (bs [119,114,105,116,101,32,111,112,101,110,32,109,107,100,105,114,32,115,121,109,108,105,110,107,32,108,105,110,107,32,114,101,110,97,109,101])] h=some (.ret (.bool (hasS L28 c)),h)∧C (.fn 11) [.str c,.str (bs [111,112,101,110,32,100,117,112,32,112,105,112,101])] h=some (.ret (.bool (hasS L24 c)),h)∧C (.fn 11) [.str c,.str (bs [111,112,101,110,32,109,107,100,105,114,32,114,109,100,105,114,32,115,121,109,108,105,110,107,32,108,105,110,107,32,117,110,108,105,110,107,32,114,101,110,97,109,101,32,99,104,109,111,100,32,99,104,111,119,110,32,117,116,105,109,101,32,116,114,117,110,99,97,116,101])] h=some (.ret (.bool (hasS L30 c)),h)∧C (.fn 11) [.str c,.str (bs [109,107,100,105,114,32,114,109,100,105,114,32,108,105,110,107,32,117,110,108,105,110,107,32,114,101,110,97,109,101,32,99,104,109,111,100,32,99,104,111,119,110,32,117,116,105,109,101])] h=some (.ret (.bool (hasS L1 c)),h)∧C (.fn 11) [.str c,.str (bs [114,109,100,105,114,32,114,101,110,97,109,101,32,117,110,108,105,110,107])] h=some (.ret (.bool (hasS L16 c)),h)∧C (.fn 11) [.str c,.str (bs [119,114,105,116,101,32,116,114,117,110,99,97,116,101,32,102,116,114,117,110,99,97,116,101])] h=some (.ret (.bool (hasS L27 c)),h)∧C (.fn 11) [.str c,.str (bs [108,105,110,107,32,114,101,110,97,109,101,32,109,107,100,105,114])] h=some (.ret (.bool (hasS L31 c)),h)∧C (.fn 11) [.str c,.str (bs [111,112,101,110,32,109,107,100,105,114,32,114,109,100,105,114,32,115,121,109,108,105,110,107,32,108,105,110,107,32,117,110,108,105,110,107,32,114,101,110,97,109,101,32,99,104,109,111,100,32,99,104,111,119,110,32,117,116,105,109,101,32,116,114,117,110,99,97,116,101,32,115,116,97,116,32,108,115,116,97,116,32,114,101,97,100,108,105,110,107,32,97,99,99,101,115,115,32,99,104,100,105,114])] h=some (.ret (.bool (hasS (L30++L13) c)),h)
theorem among_ok{C:YC}(hlf:200≤lf)(hc:c ∈ NM):fs11 C lf (.str c) (.str (bs [114,101,97,100,32,119,114,105,116,101,32,111,112,101,110])) h=some (.ret (.bool (hasS L4 c)),h)∧fs11 C lf (.str c) (.str (bs [119,114,105,116,101,32,111,112,101,110,32,109,107,100,105,114,32,115,121,109,108,105,110,107,32,108,105,110,107,32,114,101,110,97,109,101])) h=some (.ret (.bool (hasS L28 c)),h)∧fs11 C lf (.str c) (.str (bs [111,112,101,110,32,100,117,112,32,112,105,112,101])) h=some (.ret (.bool (hasS L24 c)),h)∧fs11 C lf (.str c) (.str (bs [111,112,101,110,32,109,107,100,105,114,32,114,109,100,105,114,32,115,121,109,108,105,110,107,32,108,105,110,107,32,117,110,108,105,110,107,32,114,101,110,97,109,101,32,99,104,109,111,100,32,99,104,111,119,110,32,117,116,105,109,101,32,116,114,117,110,99,97,116,101])) h=some (.ret (.bool (hasS L30 c)),h)∧fs11 C lf (.str c) (.str (bs [109,107,100,105,114,32,114,109,100,105,114,32,108,105,110,107,32,117,110,108,105,110,107,32,114,101,110,97,109,101,32,99,104,109,111,100,32,99,104,111,119,110,32,117,116,105,109,101])) h=some (.ret (.bool (hasS L1 c)),h)∧fs11 C lf (.str c) (.str (bs [114,109,100,105,114,32,114,101,110,97,109,101,32,117,110,108,105,110,107])) h=some (.ret (.bool (hasS L16 c)),h)∧fs11 C lf (.str c) (.str (bs [119,114,105,116,101,32,116,114,117,110,99,97,116,101,32,102,116,114,117,110,99,97,116,101])) h=some (.ret (.bool (hasS L27 c)),h)∧fs11 C lf (.str c) (.str (bs [108,105,110,107,32,114,101,110,97,109,101,32,109,107,100,105,114])) h=some (.ret (.bool (hasS L31 c)),h)∧fs11 C lf (.str c) (.str (bs [111,112,101,110,32,109,107,100,105,114,32,114,109,100,105,114,32,115,121,109,108,105,110,107,32,108,105,110,107,32,117,110,108,105,110,107,32,114,101,110,97,109,101,32,99,104,109,111,100,32,99,104,111,119,110,32,117,116,105,109,101,32,116,114,117,110,99,97,116,101,32,115,116,97,116,32,108,115,116,97,116,32,114,101,97,100,108,105,110,107,32,97,99,99,101,115,115,32,99,104,100,105,114])) h=some (.ret (.bool (hasS (L30++L13) c)),h):=by
 obtain ⟨m,rfl⟩: ∃ m,lf=m+200:=⟨lf - 200,by omega⟩
 exact ⟨List.map_inj_left.1 am4 c hc,List.map_inj_left.1 am28 c hc,List.map_inj_left.1 am24 c hc,List.map_inj_left.1 am30 c hc,List.map_inj_left.1 am1 c hc,List.map_inj_left.1 am16 c hc,List.map_inj_left.1 am27 c hc,List.map_inj_left.1 am31 c hc,List.map_inj_left.1 am13 c hc⟩
def lgD(c:ByteArray)(e:Int):Bool:=if hasS NM c=true then (if e=5 then true else if e=4 then hasS L4 c else if e=28 then hasS L28 c else if e=24 then hasS L24 c else if e=30 then hasS L30 c else if e=13 then hasS (L30++L13) c else if e=1 then hasS L1 c else if e=16 then hasS L16 c else if e=27 then hasS L27 c else if e=31 then hasS L31 c else false) else false
def RLegalOK(C:YC):Prop:= ∀ h (c:ByteArray) (e:Int), ∃ h',C (.fn 6) [.str c,.int .i64 e] h=some (.ret (.bool (lgD c e)),h')∧Frm h h' (fun _=>False)
theorem rlegal_ok{C:YC}(Ca:CallOK C)(Am:AmongOK C){e:Int}: ∃ h',fs6 C lf (.str c) (.int .i64 e) h=some (.ret (.bool (lgD c e)),h')∧Frm h h' (fun _=>False):=by
 obtain ⟨h1,c1,F1⟩:=Ca h c
 refine ⟨h1,?_,F1⟩
 unfold fs6 q6_33 ff6
 cases hb:hasS NM c with
 | false=>
   have hl:lgD c e=false:=by unfold lgD;rw [hb];rfl
   rw [hb] at c1
   simp only [ob_some,bc_ret,c1,un_not,Bool.not_false,yIf_true,hl]
 | true=>
   obtain ⟨a4,a28,a24,a30,a1,a16,a27,a31,a13⟩:=Am h1 c (hasS_iff.1 hb)
   rw [hb] at c1
   by_cases e5:e=5
   · have hl:lgD c e=true:=by unfold lgD;rw [if_pos hb,if_pos e5]
     simp only [ob_some,bc_ret,c1,un_not,Bool.not_true,yIf_true,yIf_false,bin_eql,decide_eq_true e5,hl]
   by_cases e4:e=4
   · have hl:lgD c e=hasS L4 c:=by unfold lgD;rw [if_pos hb,if_neg e5,if_pos e4]
     simp only [ob_some,bc_ret,c1,un_not,Bool.not_true,yIf_true,yIf_false,bin_eql,decide_eq_false e5,decide_eq_true e4,a4,hl]
   by_cases e28:e=28
   · have hl:lgD c e=hasS L28 c:=by unfold lgD;rw [if_pos hb,if_neg e5,if_neg e4,if_pos e28]
     simp only [ob_some,bc_ret,c1,un_not,Bool.not_true,yIf_true,yIf_false,bin_eql,decide_eq_false e5,decide_eq_false e4,decide_eq_true e28,a28,hl]
   by_cases e24:e=24
   · have hl:lgD c e=hasS L24 c:=by unfold lgD;rw [if_pos hb,if_neg e5,if_neg e4,if_neg e28,if_pos e24]
     simp only [ob_some,bc_ret,c1,un_not,Bool.not_true,yIf_true,yIf_false,bin_eql,decide_eq_false e5,decide_eq_false e4,decide_eq_false e28,decide_eq_true e24,a24,hl]
   by_cases e30:e=30
   · have hl:lgD c e=hasS L30 c:=by unfold lgD;rw [if_pos hb,if_neg e5,if_neg e4,if_neg e28,if_neg e24,if_pos e30]
     simp only [ob_some,bc_ret,c1,un_not,Bool.not_true,yIf_true,yIf_false,bin_eql,decide_eq_false e5,decide_eq_false e4,decide_eq_false e28,decide_eq_false e24,decide_eq_true e30,a30,hl]
   by_cases e13:e=13
   · have hl:lgD c e=hasS (L30++L13) c:=by unfold lgD;rw [if_pos hb,if_neg e5,if_neg e4,if_neg e28,if_neg e24,if_neg e30,if_pos e13]
     simp only [ob_some,bc_ret,c1,un_not,Bool.not_true,yIf_true,yIf_false,bin_eql,decide_eq_false e5,decide_eq_false e4,decide_eq_false e28,decide_eq_false e24,decide_eq_false e30,decide_eq_true e13,a13,hl]
   by_cases e1:e=1
   · have hl:lgD c e=hasS L1 c:=by unfold lgD;rw [if_pos hb,if_neg e5,if_neg e4,if_neg e28,if_neg e24,if_neg e30,if_neg e13,if_pos e1]
     simp only [ob_some,bc_ret,c1,un_not,Bool.not_true,yIf_true,yIf_false,bin_eql,decide_eq_false e5,decide_eq_false e4,decide_eq_false e28,decide_eq_false e24,decide_eq_false e30,decide_eq_false e13,decide_eq_true e1,a1,hl]
   by_cases e16:e=16
   · have hl:lgD c e=hasS L16 c:=by unfold lgD;rw [if_pos hb,if_neg e5,if_neg e4,if_neg e28,if_neg e24,if_neg e30,if_neg e13,if_neg e1,if_pos e16]
     simp only [ob_some,bc_ret,c1,un_not,Bool.not_true,yIf_true,yIf_false,bin_eql,decide_eq_false e5,decide_eq_false e4,decide_eq_false e28,decide_eq_false e24,decide_eq_false e30,decide_eq_false e13,decide_eq_false e1,decide_eq_true e16,a16,hl]
   by_cases e27:e=27
   · have hl:lgD c e=hasS L27 c:=by unfold lgD;rw [if_pos hb,if_neg e5,if_neg e4,if_neg e28,if_neg e24,if_neg e30,if_neg e13,if_neg e1,if_neg e16,if_pos e27]
     simp only [ob_some,bc_ret,c1,un_not,Bool.not_true,yIf_true,yIf_false,bin_eql,decide_eq_false e5,decide_eq_false e4,decide_eq_false e28,decide_eq_false e24,decide_eq_false e30,decide_eq_false e13,decide_eq_false e1,decide_eq_false e16,decide_eq_true e27,a27,hl]
   by_cases e31:e=31
   · have hl:lgD c e=hasS L31 c:=by unfold lgD;rw [if_pos hb,if_neg e5,if_neg e4,if_neg e28,if_neg e24,if_neg e30,if_neg e13,if_neg e1,if_neg e16,if_neg e27,if_pos e31]
     simp only [ob_some,bc_ret,c1,un_not,Bool.not_true,yIf_true,yIf_false,bin_eql,decide_eq_false e5,decide_eq_false e4,decide_eq_false e28,decide_eq_false e24,decide_eq_false e30,decide_eq_false e13,decide_eq_false e1,decide_eq_false e16,decide_eq_false e27,decide_eq_true e31,a31,hl]
   have hl:lgD c e=false:=by unfold lgD;rw [if_pos hb,if_neg e5,if_neg e4,if_neg e28,if_neg e24,if_neg e30,if_neg e13,if_neg e1,if_neg e16,if_neg e27,if_neg e31]
   simp only [ob_some,bc_ret,c1,un_not,Bool.not_true,yIf_true,yIf_false,bin_eql,decide_eq_false e5,decide_eq_false e4,decide_eq_false e28,decide_eq_false e24,decide_eq_false e30,decide_eq_false e13,decide_eq_false e1,decide_eq_false e16,decide_eq_false e27,decide_eq_false e31,hl]
theorem sub_L4: ∀ x ∈ L4,x ∈ NM:=fun x hx=>by
 simp only [L4,List.mem_cons,List.not_mem_nil,or_false] at hx
 rcases hx with rfl | rfl | rfl <;> simp [NM]
theorem sub_L28: ∀ x ∈ L28,x ∈ NM:=fun x hx=>by
 simp only [L28,List.mem_cons,List.not_mem_nil,or_false] at hx
 rcases hx with rfl | rfl | rfl | rfl | rfl | rfl <;> simp [NM]
theorem sub_L24: ∀ x ∈ L24,x ∈ NM:=fun x hx=>by
 simp only [L24,List.mem_cons,List.not_mem_nil,or_false] at hx
 rcases hx with rfl | rfl | rfl <;> simp [NM]
theorem sub_L30: ∀ x ∈ L30,x ∈ NM:=fun x hx=>by
 simp only [L30,List.mem_cons,List.not_mem_nil,or_false] at hx
 rcases hx with rfl | rfl | rfl | rfl | rfl | rfl | rfl | rfl | rfl | rfl | rfl <;> simp [NM]
theorem sub_L1: ∀ x ∈ L1,x ∈ NM:=fun x hx=>by
 simp only [L1,List.mem_cons,List.not_mem_nil,or_false] at hx
 rcases hx with rfl | rfl | rfl | rfl | rfl | rfl | rfl | rfl <;> simp [NM]
theorem sub_L16: ∀ x ∈ L16,x ∈ NM:=fun x hx=>by
 simp only [L16,List.mem_cons,List.not_mem_nil,or_false] at hx
 rcases hx with rfl | rfl | rfl <;> simp [NM]
theorem sub_L27: ∀ x ∈ L27,x ∈ NM:=fun x hx=>by
 simp only [L27,List.mem_cons,List.not_mem_nil,or_false] at hx
 rcases hx with rfl | rfl | rfl <;> simp [NM]
theorem sub_L31: ∀ x ∈ L31,x ∈ NM:=fun x hx=>by
 simp only [L31,List.mem_cons,List.not_mem_nil,or_false] at hx
 rcases hx with rfl | rfl | rfl <;> simp [NM]
theorem sub_L13: ∀ x ∈ L13,x ∈ NM:=fun x hx=>by
 simp only [L13,List.mem_cons,List.not_mem_nil,or_false] at hx
 rcases hx with rfl | rfl | rfl | rfl | rfl <;> simp [NM]
theorem lg_eq(e:Int):lgP c e=lgD c e:=by
 cases hb:hasS NM c with
 | false=>
   have zL4:=hasS_sub sub_L4 hb
   have zL28:=hasS_sub sub_L28 hb
   have zL24:=hasS_sub sub_L24 hb
   have zL30:=hasS_sub sub_L30 hb
   have zL1:=hasS_sub sub_L1 hb
   have zL16:=hasS_sub sub_L16 hb
   have zL27:=hasS_sub sub_L27 hb
   have zL31:=hasS_sub sub_L31 hb
   have zL13:=hasS_sub sub_L13 hb
   simp [lgP,lgD,hb,zL4,zL28,zL24,zL30,zL1,zL16,zL27,zL31,zL13]
 | true=>
   by_cases e5:e=5
   · subst e5;simp [lgP,lgD,hb,hasS_app,Bool.or_comm]
   by_cases e4:e=4
   · subst e4;simp [lgP,lgD,hb,hasS_app,Bool.or_comm]
   by_cases e28:e=28
   · subst e28;simp [lgP,lgD,hb,hasS_app,Bool.or_comm]
   by_cases e24:e=24
   · subst e24;simp [lgP,lgD,hb,hasS_app,Bool.or_comm]
   by_cases e30:e=30
   · subst e30;simp [lgP,lgD,hb,hasS_app,Bool.or_comm]
   by_cases e13:e=13
   · subst e13;simp [lgP,lgD,hb,hasS_app,Bool.or_comm]
   by_cases e1:e=1
   · subst e1;simp [lgP,lgD,hb,hasS_app,Bool.or_comm]
   by_cases e16:e=16
   · subst e16;simp [lgP,lgD,hb,hasS_app,Bool.or_comm]
   by_cases e27:e=27
   · subst e27;simp [lgP,lgD,hb,hasS_app,Bool.or_comm]
   by_cases e31:e=31
   · subst e31;simp [lgP,lgD,hb,hasS_app,Bool.or_comm]
   simp [lgP,lgD,hb,e5,e4,e28,e24,e30,e13,e1,e16,e27,e31]
end
end Go.Proofs.YtgofkccnmmiciaaGreatDoor.Eva
namespace Go.Proofs.YtgofkccnmmiciaaGreatDoor.Eva
open Go.Xe
set_option linter.unusedSimpArgs false
section
variable{lf:Nat}{h h0:HW}{c:ByteArray}
theorem legal_main{C:YC}(Na:NamesOK C)(Lg:LegalOK C)(Rl:RLegalOK C)(hLv: ∀ h,Frm h0 h (fun _=>False)→C (.fn 7) [] h=some (.ret (.bool true),h)){e n:Int}(n0:0≤n)(n1:n < 256):
 ∃ h',fs3 C lf (.str c) (.int .i64 e) (.int .u8 n) h0=some (.ret (.bool true),h'):=by
 obtain ⟨m,rfl⟩: ∃ m:Nat,n=m:=⟨n.toNat,by omega⟩
 have e27:NM.length=27:=rfl
 have hl:=lenE_sl (k:=h0.next) (off:=0) (len:=27) (cap:=some 27) (lo:=0) Tryz.underlying22
 have h27:((27:Nat):Int)=27:=rfl
 rw [h27] at hl
 have hcv:cvI .i64 (.int .u8 (m:Int))=some (.int .i64 (m:Int)):=by
  have:IntKind.i64.wrap (m:Int)=(m:Int):=wrap_i64 (by omega) (by omega)
  simp [cvI,forceI_eq,this]
 have hr:(m:Int).tmod 27=((m % 27:Nat):Int):=by rw [Int.tmod_eq_emod_of_nonneg (by omega)];rfl
 have hix:=ixS_sl (s:=1) (k:=h0.next) (off:=0) (len:=27) (lo:=0) (cap:=some 27) (kd:= .i64) (i:=((m % 27:Nat):Int)) (by omega) (by omega)
 rw [Int.toNat_natCast,Nat.mul_one,Nat.zero_add] at hix
 have A:WsAt (h0.new (rowOb 9 (ss NM))) h0.next NM:=wsAt_new (by rw [e27];omega)
 have hc:=A.cs (m % 27) (by rw [e27];omega)
 have F0:Frm h0 (h0.new (rowOb 9 (ss NM))) (fun _=>False):=frm_new _ _ _
 have nm:=Na h0
 generalize h0.new (rowOb 9 (ss NM))=g at *
 generalize hd:NM[m % 27]'(by rw [e27];omega)=d at *
 obtain ⟨h1,c1,F1⟩:=Lg g c e
 obtain ⟨h2,c2,F2⟩:=Rl h1 c e
 obtain ⟨h3,c3,F3⟩:=Lg h2 d e
 obtain ⟨h4,c4,F4⟩:=Rl h3 d e
 rw [← lg_eq] at c2 c4
 have lv:=hLv h4 ((((F0.trans F1).trans F2).trans F3).trans F4)
 have b1:(lgP c e==lgP c e)=true:=by simp
 have b2:(lgP d e==lgP d e)=true:=by simp
 refine ⟨h4,?_⟩
 unfold fs3 q3_31 ff3
 simp only [EV,nm,hcv,hl,bin_rem (show (27:Int)≠0 by omega),hr,hix,hc,c1,c2,bin_eqlB,b1,c3,c4,b2,lv]
end
end Go.Proofs.YtgofkccnmmiciaaGreatDoor.Eva
namespace Go.Proofs.YtgofkccnmmiciaaGreatDoor.Eva
open Go.Xe
set_option linter.unusedSimpArgs false
@[irreducible] def LF:Nat:=2 ^ 64
theorem le_LF{n:Nat}(h:n≤2 ^ 64):n≤LF:=by unfold LF;exact h
theorem call_fn{P:Program}{tab:Tr (YE P)}{lf n k:Nat}{y:YX P}{f:FuncId}{args:List SV}{h:HW}(hk:k=n+1)(hy:y.x.f=f)(hg:getP (path f) tab=some (.fn y)):(runY tab lf k).call (.fn f) args h=y.s (runY tab lf n).call lf args h:=by
 subst hk
 have:(runY tab lf (n+1)).call (.fn f) args h=runE (runY tab lf n) lf f args h (getP (path f) tab):=rfl
 rw [this,hg]
 simp only [runE,hy,Nat.beq_refl,cond_true]
noncomputable def tabLC{P:Program}:List (FuncId × YE P)→Tr (YE P)
 | []=> .nil
 | (f,x)::xs=>(tabLC xs).put f x
end Go.Proofs.YtgofkccnmmiciaaGreatDoor.Eva
