import Derived.RangeFuncLeaves
import Derived.RecoverIn
import Derived.ProofKit
import Derived.OpenShut
import Derived.Carry
import Derived.ChangeOld
import Derived.Deep.DeepHandedRow
import Derived.Lib.LaidTab
import Derived.Test.YtfldgookpokjeaaWRegexNonem1
set_option linter.unusedSimpArgs false
set_option linter.unusedVariables false
namespace Go.Xe
section
variable{P:Program}{B:Nat}{w0 w:World}{E:Env}{ds:List Deferred}
def JumpOK(P:Program)(ord:Nat→Hint)(rd:Option Nat)(N:Nat)(jump:JumpF):Prop:=∀c rest F X ex F' X',codeOK P ord rd.isSome c=true→codeOK P ord rd.isSome rest=true→jump c rest F X=some (ex,F',X')→Pc X'→
 Pc X∧∃n,∀(ro:Option Nat) B w0 E ds a w (Q:Exit→Act→World→Prop),Emb P B w0 X E w→FrRel ds N E F a→DenDs E X.dfs ds→RoRel E rd ro→Post P B w0 N E ex F' X' Q→rest.wpIn (wideR ro) 0 P (scPost (wideR ro) 0 P c Q n) a w
theorem code_good(callf:CallF)(hcall:CallOK P callf)(hc:KeepsOK callf)(hfrm:FrameOK callf)(hm:P.follows .mixedOrders=true){ord:Nat→Hint}{me:FuncId}{rd:Option Nat}{N fuel:Nat}{jump:JumpF}(hj:JumpOK P ord rd N jump):∀(c:Code) (F:Tr SV) (X:XW) (ex:Ex) (F':Tr SV) (X':XW),codeOK P ord rd.isSome c=true→
 evC P callf ord me rd N fuel jump c F X=some (ex,F',X')→Pc X'→CodeGood P rd N c F X ex F' X'
 | .skip,F,X,ex,F',X',_,h,hp=>by
   simp only[evC,Option.some.injEq,Prod.mk.injEq] at h;obtain⟨rfl,rfl,rfl⟩:=h;exact⟨hp,fun ro B w0 E ds a w Q hE hF hD hR hQ=>wpIn_skip (hQ E ds a w .normal (Le.refl _) hF hD hE rfl)⟩
 | .region id ops false,F,X,ex,F',X',hok,h,hp=>by
   simp only[evC] at h
   have hsel:∀{E:Env} {ro:Option Nat},RoRel E rd ro→∀o∈ops.toList,noSel2 o.op=true∧(isDefer o.op=true→ro=none):=by
    intro E ro hR o ho;have hok':(bif rd.isSome then ops.all (fun o=>noSel o.op) else ops.all fun o=>noSel2 o.op)=true:=hok;cases rd with
    |none=>
     simp only[Option.isSome_none,cond_false,Array.all_eq_true_iff_forall_mem] at hok';exact⟨hok' o (by simpa using ho),fun _=>hR⟩
    |some k=>
     simp only[Option.isSome_some,cond_true,Array.all_eq_true_iff_forall_mem] at hok';have h1:=hok' o (by simpa using ho);refine⟨?_,fun hd=>?_⟩
     ·cases hop:o.op<;>first|rfl|(rw[hop] at h1;simp[noSel] at h1)
     ·cases hop:o.op<;>first|(rw[hop] at hd;simp[isDefer] at hd;done)|(rw[hop] at h1;simp[noSel] at h1)
   split at h<;>try(cases h;done)
   ·rename_i F1 X1 hops;simp only[Option.some.injEq,Prod.mk.injEq] at h;obtain⟨rfl,rfl,rfl⟩:=h;refine⟨evOps_pc hcall hops hp,fun ro B w0 E ds a w Q hE hF hD hR hQ=>wpIn_region_list ?_⟩;exact evOps_sound hcall hc ro hp ops.toList F X E ds a w (hsel hR) hE hF hD hops (fun _ E' ds' a' w' h1 h2 h3 h4=>hQ E' ds' a' w' .normal h1 h2 h3 h4 rfl) (fun ch hr=>by cases hr)
   ·rename_i ch F1 X1 hops;simp only[Option.some.injEq,Prod.mk.injEq] at h;obtain⟨rfl,rfl,rfl⟩:=h;refine⟨evOps_pc hcall hops hp,fun ro B w0 E ds a w Q hE hF hD hR hQ=>wpIn_region_list ?_⟩;exact evOps_sound hcall hc ro hp ops.toList F X E ds a w (hsel hR) hE hF hD hops (fun hr=>by cases hr) (fun ch' hr E' ds' a' w' p h1 h2 h3 h4 h5=>by cases hr;exact hQ E' ds' a' w' (.panic p) h1 h2 h3 h4 ⟨p,h5,rfl⟩)
 | .region id ops true,F,X,ex,F',X',hok,h,hp=>by
   simp only[evC] at h;simp only[codeOK] at hok;split at h<;>try(cases h;done)
   rename_i F1 X1 hd;simp only[Option.some.injEq,Prod.mk.injEq] at h;obtain⟨rfl,rfl,rfl⟩:=h;cases ho:ord id with
   |text=>rw[ho] at hok hd;exact region_good callf hcall hc hm hok hd hp
   |skip=>rw[ho] at hd;cases hd
   |ord is chk=>rw[ho] at hok hd;exact region_good callf hcall hc hm hok hd hp
   |news is rs=>
    rw[ho] at hok hd;simp only[force_eq] at hd;cases hdd:allDead X X.next rs with
    |false=>rw[hdd] at hd;cases hd
    |true=>
     rw[hdd] at hd;exact news_good callf hcall hc hfrm hm hok hdd hd hp
 | .seq x y,F,X,ex,F',X',hok,h,hp=>by
   simp only[codeOK,Bool.and_eq_true] at hok;simp only[evC] at h;split at h
   ·rename_i F1 X1 hx;obtain⟨p1,k1⟩:=code_good callf hcall hc hfrm hm hj y F1 X1 ex F' X' hok.2 h hp;obtain⟨p2,k2⟩:=code_good callf hcall hc hfrm hm hj x F X .nm F1 X1 hok.1 hx p1;refine⟨p2,fun ro B w0 E ds a w Q hE hF hD hR hQ=>wpIn_seq (k2 ro B w0 E ds a w _ hE hF hD hR (fun E' ds' a' w' e a1 a2 a3 a4 a5=>?_))⟩;cases a5;exact k1 ro B w0 E' ds' a' w' Q a4 a2 a3 (hR.sub a1.sub) (hQ.le a1)
   ·rename_i r hne;obtain⟨p2,k2⟩:=code_good callf hcall hc hfrm hm hj x F X ex F' X' hok.1 h hp;refine⟨p2,fun ro B w0 E ds a w Q hE hF hD hR hQ=>wpIn_seq (k2 ro B w0 E ds a w _ hE hF hD hR (hQ.mono fun E' e a w he hq=>?_))⟩;cases ex with
    |nm=>exact absurd h (hne F' X')
    |ex id=>cases he;exact hq
    |ret=>cases he;exact hq
    |gt l=>cases he;exact hq
    |pan ch=>obtain⟨p,_,rfl⟩:=he;exact hq
 | .cond c x y,F,X,ex,F',X',hok,h,hp=>by
   simp only[codeOK,Bool.and_eq_true] at hok;simp only[evC] at h;split at h<;>try(cases h;done)
   rename_i z hz;split at h
   ·rename_i X1 hb;obtain⟨p1,k1⟩:=code_good callf hcall hc hfrm hm hj x F X1 ex F' X' hok.1 h hp;obtain⟨h1,h2,h3,h4⟩:=asB_spec hb;have hd:=asB_dfs hb;exact⟨(h1 p1).1,fun ro B w0 E ds a w Q hE hF hD hR hQ=>wpIn_cond_true ((h1 p1).2 _ _ (look_sound hE hF hz)) (k1 ro B w0 E ds a w Q (hE.same h2 h3 h4) hF (by rw[hd];exact hD) hR hQ)⟩
   ·rename_i X1 hb;obtain⟨p1,k1⟩:=code_good callf hcall hc hfrm hm hj y F X1 ex F' X' hok.2 h hp;obtain⟨h1,h2,h3,h4⟩:=asB_spec hb;have hd:=asB_dfs hb;exact⟨(h1 p1).1,fun ro B w0 E ds a w Q hE hF hD hR hQ=>wpIn_cond_false ((h1 p1).2 _ _ (look_sound hE hF hz)) (k1 ro B w0 E ds a w Q (hE.same h2 h3 h4) hF (by rw[hd];exact hD) hR hQ)⟩
   ·cases h
 | .block id c,F,X,ex,F',X',hok,h,hp=>by
   simp only[codeOK] at hok;simp only[evC] at h;split at h
   ·rename_i id' F1 X1 hx;cases hb:Nat.beq id' id with
    |true=>
     have e:=Nat.eq_of_beq_eq_true hb;simp only[hb,cond_true,Option.some.injEq,Prod.mk.injEq] at h;obtain⟨rfl,rfl,rfl⟩:=h;obtain⟨p1,k1⟩:=code_good callf hcall hc hfrm hm hj c F X _ _ _ hok hx hp;refine⟨p1,fun ro B w0 E ds a w Q hE hF hD hR hQ=>wpIn_block (k1 ro B w0 E ds a w _ hE hF hD hR (fun E' ds' a' w' ee a1 a2 a3 a4 a5=>?_))⟩;cases a5;simp only[Exit.inBlock,e,if_true];exact hQ E' ds' a' w' .normal a1 a2 a3 a4 rfl
    |false=>
     have e:=Nat.ne_of_beq_eq_false hb;simp only[hb,cond_false,Option.some.injEq,Prod.mk.injEq] at h;obtain⟨rfl,rfl,rfl⟩:=h;obtain⟨p1,k1⟩:=code_good callf hcall hc hfrm hm hj c F X _ _ _ hok hx hp;refine⟨p1,fun ro B w0 E ds a w Q hE hF hD hR hQ=>wpIn_block (k1 ro B w0 E ds a w _ hE hF hD hR (fun E' ds' a' w' ee a1 a2 a3 a4 a5=>?_))⟩;cases a5;simp only[Exit.inBlock,e,if_false];exact hQ E' ds' a' w' (.exit id') a1 a2 a3 a4 rfl
   ·rename_i r hne;obtain⟨p1,k1⟩:=code_good callf hcall hc hfrm hm hj c F X ex F' X' hok h hp;refine⟨p1,fun ro B w0 E ds a w Q hE hF hD hR hQ=>wpIn_block (k1 ro B w0 E ds a w _ hE hF hD hR (hQ.mono fun E' e a w he hq=>?_))⟩;cases ex with
    |nm=>cases he;exact hq
    |ex id=>exact absurd h (hne id F' X')
    |ret=>cases he;exact hq
    |gt l=>cases he;exact hq
    |pan ch=>obtain⟨p,_,rfl⟩:=he;exact hq
 | .loop c,F,X,ex,F',X',hok,h,hp=>by
   simp only[codeOK] at hok;simp only[evC] at h;obtain⟨p1,k1⟩:=loop_good (rd:=rd) (fun F X ex F' X' h hp=>code_good callf hcall hc hfrm hm hj c F X ex F' X' hok h hp) fuel F X ex F' X' h hp;exact⟨p1,fun ro B w0 E ds a w Q hE hF hD hR hQ=>wpIn_loop_rounds fuel (k1 ro B w0 E ds a w Q hE hF hD hR hQ)⟩
 | .exit id,F,X,ex,F',X',_,h,hp=>by
   simp only[evC,Option.some.injEq,Prod.mk.injEq] at h;obtain⟨rfl,rfl,rfl⟩:=h;exact⟨hp,fun ro B w0 E ds a w Q hE hF hD hR hQ=>wpIn_exit (hQ E ds a w (.exit id) (Le.refl _) hF hD hE rfl)⟩
 | .label l,F,X,ex,F',X',_,h,hp=>by
   simp only[evC,Option.some.injEq,Prod.mk.injEq] at h;obtain⟨rfl,rfl,rfl⟩:=h;exact⟨hp,fun ro B w0 E ds a w Q hE hF hD hR hQ=>wpIn_label (hQ E ds a w .normal (Le.refl _) hF hD hE rfl)⟩
 | .ret,F,X,ex,F',X',_,h,hp=>by
   simp only[evC,Option.some.injEq,Prod.mk.injEq] at h;obtain⟨rfl,rfl,rfl⟩:=h;exact⟨hp,fun ro B w0 E ds a w Q hE hF hD hR hQ=>wpIn_ret (hQ E ds a w .ret (Le.refl _) hF hD hE rfl)⟩
 | .goto l,F,X,ex,F',X',_,h,hp=>by
   simp only[evC,Option.some.injEq,Prod.mk.injEq] at h;obtain⟨rfl,rfl,rfl⟩:=h;exact⟨hp,fun ro B w0 E ds a w Q hE hF hD hR hQ=>wpIn_goto (hQ E ds a w (.goto l) (Le.refl _) hF hD hE rfl)⟩
 | .scope c,F,X,ex,F',X',hok,h,hp=>by
   simp only[codeOK] at hok;simp only[evC] at h;split at h
   ·rename_i l F1 X1 hx;split at h
    ·rename_i rest hf;obtain⟨p1,n,k1⟩:=hj c rest F1 X1 ex F' X' hok (codeOK_label c l rest hok hf) h hp;obtain⟨p2,k2⟩:=code_good callf hcall hc hfrm hm hj c F X _ F1 X1 hok hx p1;refine⟨p2,fun ro B w0 E ds a w Q hE hF hD hR hQ=>wpIn_scope (n:=n+1) (k2 ro B w0 E ds a w _ hE hF hD hR (fun E' ds' a' w' ee a1 a2 a3 a4 a5=>?_))⟩;cases a5;simp only[scPost,hf];exact k1 ro B w0 E' ds' a' w' Q a4 a2 a3 (hR.sub a1.sub) (hQ.le a1)
    ·rename_i hf;simp only[Option.some.injEq,Prod.mk.injEq] at h;obtain⟨rfl,rfl,rfl⟩:=h;obtain⟨p2,k2⟩:=code_good callf hcall hc hfrm hm hj c F X _ _ _ hok hx hp;refine⟨p2,fun ro B w0 E ds a w Q hE hF hD hR hQ=>wpIn_scope (n:=0) (k2 ro B w0 E ds a w _ hE hF hD hR (fun E' ds' a' w' ee a1 a2 a3 a4 a5=>?_))⟩;cases a5;simp only[scPost,hf];exact hQ E' ds' a' w' (.goto l) a1 a2 a3 a4 rfl
   ·rename_i r hne;obtain⟨p2,k2⟩:=code_good callf hcall hc hfrm hm hj c F X ex F' X' hok h hp;refine⟨p2,fun ro B w0 E ds a w Q hE hF hD hR hQ=>wpIn_scope (n:=0) (k2 ro B w0 E ds a w _ hE hF hD hR (hQ.mono fun E' e a w he hq=>?_))⟩;cases ex with
    |nm=>cases he;exact hq
    |ex id=>cases he;exact hq
    |ret=>cases he;exact hq
    |gt l=>exact absurd h (hne l F' X')
    |pan ch=>obtain⟨p,_,rfl⟩:=he;exact hq
 | .rangeFunc g ps az body,F,X,ex,F',X',hok,h,hp=>by
   simp only[codeOK,Bool.and_eq_true] at hok;simp only[evC] at h;split at h<;>try(cases h;done)
   rename_i y hy;exact range_good2 callf hcall hc hok.1 hok.2 hy h hp
 | .refuse _,_,_,_,_,_,_,h,_=>by simp[evC] at h
theorem jump_good(callf:CallF)(hcall:CallOK P callf)(hc:KeepsOK callf)(hfrm:FrameOK callf)(hm:P.follows .mixedOrders=true){ord:Nat→Hint}{me:FuncId}{rd:Option Nat}{N fuel:Nat}:∀n,JumpOK P ord rd N (jumpE P callf ord me rd N fuel n)
 |0,_,_,_,_,_,_,_,_,_,h,_=>by simp[jumpE] at h
 |n+1,c,rest,F,X,ex,F',X',hok,hok2,h,hp=>by
  have ih:=jump_good callf hcall hc hfrm hm (ord:=ord) (me:=me) (rd:=rd) (N:=N) (fuel:=fuel) n
  have h':(match evC P callf ord me rd N fuel (jumpE P callf ord me rd N fuel n) rest F X with
   |some (.gt l,F,X)=>(match findLabel c l with
    |some rest=>jumpE P callf ord me rd N fuel n c rest F X
    |none=>some (.gt l,F,X))
   |r=>r)=some (ex,F',X'):=h
  split at h'
  ·rename_i l F1 X1 hx;split at h'
   ·rename_i rest2 hf;obtain⟨p1,m,k1⟩:=ih c rest2 F1 X1 ex F' X' hok (codeOK_label c l rest2 hok hf) h' hp;obtain⟨p2,k2⟩:=code_good callf hcall hc hfrm hm ih rest F X _ F1 X1 hok2 hx p1;refine⟨p2,m+1,fun ro B w0 E ds a w Q hE hF hD hR hQ=>k2 ro B w0 E ds a w _ hE hF hD hR (fun E' ds' a' w' ee a1 a2 a3 a4 a5=>?_)⟩;cases a5;simp only[scPost,hf];exact k1 ro B w0 E' ds' a' w' Q a4 a2 a3 (hR.sub a1.sub) (hQ.le a1)
   ·rename_i hf;simp only[Option.some.injEq,Prod.mk.injEq] at h';obtain⟨rfl,rfl,rfl⟩:=h';obtain⟨p2,k2⟩:=code_good callf hcall hc hfrm hm ih rest F X _ _ _ hok2 hx hp;refine⟨p2,0,fun ro B w0 E ds a w Q hE hF hD hR hQ=>k2 ro B w0 E ds a w _ hE hF hD hR (fun E' ds' a' w' ee a1 a2 a3 a4 a5=>?_)⟩;cases a5;simp only[scPost,hf];exact hQ E' ds' a' w' (.goto l) a1 a2 a3 a4 rfl
  ·rename_i r hne;obtain⟨p2,k2⟩:=code_good callf hcall hc hfrm hm ih rest F X ex F' X' hok2 h' hp;refine⟨p2,0,fun ro B w0 E ds a w Q hE hF hD hR hQ=>k2 ro B w0 E ds a w _ hE hF hD hR (hQ.mono fun E' e a w he hq=>?_)⟩;cases ex with
   |nm=>cases he;exact hq
   |ex id=>cases he;exact hq
   |ret=>cases he;exact hq
   |gt l=>exact absurd h' (hne l F' X')
   |pan ch=>obtain⟨p,_,rfl⟩:=he;exact hq
end
end Go.Xe
namespace Go.Xe
section
variable{P:Program}
def KeepsD(X X':XW):Prop:=Keeps X {X' with dfs:=X.dfs}
theorem KeepsD.refl(X:XW):KeepsD X X:=Keeps.refl X
theorem KeepsD.trans{X Y Z:XW}(h:KeepsD X Y)(h':KeepsD Y Z):KeepsD X Z:=Keeps.noD h h'
theorem Keeps.toD{X Y:XW}(h:Keeps X Y):KeepsD X Y:=⟨h.orc,h.ng,h.next,h.ver,h.dead,rfl,h.pc⟩
theorem KeepsD.reD{X Y:XW}(h:KeepsD X Y)(l:List SD):KeepsD X {Y with dfs:=l}:=⟨h.orc,h.ng,h.next,h.ver,h.dead,rfl,h.pc⟩
theorem KeepsD.reD'{X Y:XW}{l:List SD}(h:KeepsD {X with dfs:=l} Y):KeepsD X Y:=⟨h.orc,h.ng,h.next,h.ver,h.dead,rfl,h.pc⟩
theorem KeepsD.to{X Y:XW}(h:KeepsD X Y)(hd:Y.dfs=X.dfs):Keeps X Y:=⟨h.orc,h.ng,h.next,h.ver,h.dead,hd,h.pc⟩
def KeepsJ(jump:JumpF):Prop:=∀c rest F X ex F' X',jump c rest F X=some (ex,F',X')→KeepsD X X'
theorem blk_keeps{rd:Option Nat}{X X1:XW}{b:Nat}(h:blkOf rd X=some (b,X1)):KeepsD X X1:=by
 unfold blkOf at h;split at h
 ·cases h;exact(Keeps.new X mkBlk).toD.reD _
 ·split at h<;>try(cases h;done)
  split at h<;>cases h
  exact KeepsD.refl _
theorem end_keeps{F F':Tr SV}{l:Nat}{X X':XW}{ex:Ex}(h:endE F l X=some (ex,F',X')):KeepsD X X':=by
 unfold endE at h;split at h<;>try(cases h;done)
 rename_i o ho;split at h<;>try(cases h;done)
 split at h<;>cases h
 all_goals exact(Keeps.store ho (Nat.lt_succ_self _)).toD
theorem range_keeps{callf:CallF}(hc:KeepsOK callf){ord:Nat→Hint}{me:FuncId}{rd:Option Nat}{N:Nat}{ps:Array Tmp}{az body:Code}{F F':Tr SV}{X X':XW}{y:SV}{ex:Ex}(h:rangeE callf ord me rd N ps az body y F X=some (ex,F',X')):KeepsD X X':=by
 unfold rangeE at h;split at h<;>try(cases h;done)
 rename_i f fa fb b X1 hb;have k1:=(blk_keeps hb).trans (Keeps.new X1 (mkLoop ord me N (normT (keepOf ord N body) F.get) ps az body b)).toD;split at h
 ·rename_i z X2 hcl;have k2:=k1.trans (KeepsD.reD' (l:=[]) (hc _ _ _ _ _ hcl).toD);exact(k2.reD _).trans (end_keeps h)
 ·rename_i ch X2 hcl;cases h;have k2:=k1.trans (KeepsD.reD' (l:=[]) (hc _ _ _ _ _ hcl).toD);exact k2.reD _
 ·cases h
theorem code_keeps{callf:CallF}(hc:KeepsOK callf){ord:Nat→Hint}{me:FuncId}{rd:Option Nat}{N fuel:Nat}{jump:JumpF}(hj:KeepsJ jump):∀(c:Code) (F:Tr SV) (X:XW) (ex:Ex) (F':Tr SV) (X':XW),
 evC P callf ord me rd N fuel jump c F X=some (ex,F',X')→KeepsD X X'
 | .skip,F,X,ex,F',X',h=>by simp only[evC,Option.some.injEq,Prod.mk.injEq] at h;obtain⟨rfl,rfl,rfl⟩:=h;exact KeepsD.refl _
 | .region id ops false,F,X,ex,F',X',h=>by
   simp only[evC] at h;split at h<;>try(cases h;done)
   ·rename_i F1 X1 hops;simp only[Option.some.injEq,Prod.mk.injEq] at h;obtain⟨rfl,rfl,rfl⟩:=h;exact evOps_keeps hc hops
   ·rename_i ch F1 X1 hops;simp only[Option.some.injEq,Prod.mk.injEq] at h;obtain⟨rfl,rfl,rfl⟩:=h;exact evOps_keeps hc hops
 | .region id ops true,F,X,ex,F',X',h=>by
   simp only[evC] at h;split at h<;>try(cases h;done)
   rename_i F1 X1 hd;simp only[Option.some.injEq,Prod.mk.injEq] at h;obtain⟨rfl,rfl,rfl⟩:=h
   have key:∀{is:List Nat} {chk:List (Nat×List Nat)},evD P callf N ops.toList chk is [] F {X with orc:=[]}=some (F1,X1)→KeepsD X {X1 with orc:=X.orc}:=fun h=>
    have k:=d_keeps hc h
    ⟨fun ho=>ho,k.ng,k.next,k.ver,k.dead,rfl,k.pc⟩
   cases ho:ord id with
   |text=>rw[ho] at hd;exact key hd
   |skip=>rw[ho] at hd;cases hd
   |ord is chk=>rw[ho] at hd;exact key hd
   |news is rs=>
    rw[ho] at hd;simp only[force_eq] at hd;cases hdd:allDead X X.next rs with
    |false=>rw[hdd] at hd;cases hd
    |true=>
     rw[hdd] at hd;obtain⟨k,k2⟩:=evN_keeps hc (Nat.le_add_right _ _) hd;exact⟨fun ho=>ho,k.ng,k2,k.ver,k.dead,rfl,k.pc⟩
 | .seq x y,F,X,ex,F',X',h=>by
   simp only[evC] at h;split at h
   ·rename_i F1 X1 hx;exact(code_keeps hc hj x _ _ _ _ _ hx).trans (code_keeps hc hj y _ _ _ _ _ h)
   ·exact code_keeps hc hj x _ _ _ _ _ h
 | .cond c x y,F,X,ex,F',X',h=>by
   simp only[evC] at h;split at h<;>try(cases h;done)
   split at h
   ·rename_i X1 hb;exact(asB_keeps hb).toD.trans (code_keeps hc hj x _ _ _ _ _ h)
   ·rename_i X1 hb;exact(asB_keeps hb).toD.trans (code_keeps hc hj y _ _ _ _ _ h)
   ·cases h
 | .block id c,F,X,ex,F',X',h=>by
   simp only[evC] at h;split at h
   ·rename_i id' F1 X1 hx
    have:=code_keeps hc hj c _ _ _ _ _ hx
    cases hb:Nat.beq id' id<;>simp only[hb,cond_true,cond_false,Option.some.injEq,Prod.mk.injEq] at h<;>(obtain⟨rfl,rfl,rfl⟩:=h;exact this)
   ·exact code_keeps hc hj c _ _ _ _ _ h
 | .loop c,F,X,ex,F',X',h=>by
   simp only[evC] at h
   have key:∀(k:Nat) (F:Tr SV) (X:XW),loopE (evC P callf ord me rd N fuel jump c) k F X=some (ex,F',X')→KeepsD X X':=by
    intro k
    induction k with
    |zero=>intro F X h;simp[loopE] at h
    |succ k ih=>
     intro F X h;have h':(match evC P callf ord me rd N fuel jump c F X with|some (.nm,F,X)=>loopE (evC P callf ord me rd N fuel jump c) k F X|r=>r)=some (ex,F',X'):=h;split at h'
     ·rename_i F1 X1 hb;exact(code_keeps hc hj c _ _ _ _ _ hb).trans (ih _ _ h')
     ·exact code_keeps hc hj c _ _ _ _ _ h'
   exact key fuel F X h
 | .exit id,F,X,ex,F',X',h=>by simp only[evC,Option.some.injEq,Prod.mk.injEq] at h;obtain⟨rfl,rfl,rfl⟩:=h;exact KeepsD.refl _
 | .label l,F,X,ex,F',X',h=>by simp only[evC,Option.some.injEq,Prod.mk.injEq] at h;obtain⟨rfl,rfl,rfl⟩:=h;exact KeepsD.refl _
 | .ret,F,X,ex,F',X',h=>by simp only[evC,Option.some.injEq,Prod.mk.injEq] at h;obtain⟨rfl,rfl,rfl⟩:=h;exact KeepsD.refl _
 | .goto _,F,X,ex,F',X',h=>by simp only[evC,Option.some.injEq,Prod.mk.injEq] at h;obtain⟨rfl,rfl,rfl⟩:=h;exact KeepsD.refl _
 | .scope c,F,X,ex,F',X',h=>by
   simp only[evC] at h;split at h
   ·rename_i l F1 X1 hx;have k1:=code_keeps hc hj c _ _ _ _ _ hx;split at h
    ·exact k1.trans (hj _ _ _ _ _ _ _ h)
    ·simp only[Option.some.injEq,Prod.mk.injEq] at h;obtain⟨rfl,rfl,rfl⟩:=h;exact k1
   ·exact code_keeps hc hj c _ _ _ _ _ h
 | .rangeFunc _ _ _ _,F,X,ex,F',X',h=>by
   simp only[evC] at h;split at h<;>try(cases h;done)
   exact range_keeps hc h
 | .refuse _,_,_,_,_,_,h=>by simp[evC] at h
theorem jump_keeps{callf:CallF}(hc:KeepsOK callf){ord:Nat→Hint}{me:FuncId}{rd:Option Nat}{N fuel:Nat}:∀n,KeepsJ (jumpE P callf ord me rd N fuel n)
 |0,_,_,_,_,_,_,_,h=>by simp[jumpE] at h
 |n+1,c,rest,F,X,ex,F',X',h=>by
  have ih:=jump_keeps hc (ord:=ord) (me:=me) (rd:=rd) (N:=N) (fuel:=fuel) n
  have h':(match evC P callf ord me rd N fuel (jumpE P callf ord me rd N fuel n) rest F X with
   |some (.gt l,F,X)=>(match findLabel c l with
    |some rest=>jumpE P callf ord me rd N fuel n c rest F X
    |none=>some (.gt l,F,X))
   |r=>r)=some (ex,F',X'):=h
  split at h'
  ·rename_i l F1 X1 hx;have k1:=code_keeps hc ih rest _ _ _ _ _ hx;split at h'
   ·exact k1.trans (ih _ _ _ _ _ _ _ h')
   ·simp only[Option.some.injEq,Prod.mk.injEq] at h';obtain⟨rfl,rfl,rfl⟩:=h';exact k1
  ·exact code_keeps hc ih rest _ _ _ _ _ h'
section
variable{m:Nat}{ob:Ob}
theorem stepN_frame{callf:CallF}(hfr:FrameOK callf){N base k:Nat}{rs:List Nat}{ops:List Oper}{o:Oper}{F F':Tr SV}{X X':XW}(hf:Free X m)(hm:m<base)(h:stepN P callf N ops rs base k o F X=some (F',X')):
 stepN P callf N ops rs base k o F (X.add m ob)=some (F',X'.add m ob):=by
 obtain⟨y,hy,rfl⟩:=stepN_eq.1 h;refine stepN_eq.2 ⟨y,?_,rfl⟩;cases hn:newR rs k o.op with
 |true=>
  obtain⟨ob2,rfl,hind⟩:=stepNV_new hn hy;rw[hind (X.add m ob) rfl];unfold XW.add;simp only[Option.some.injEq,Prod.mk.injEq,true_and];rw[Hp.put_comm _ _ _ (by omega)]
 |false=>
  rw[stepNV_old hn] at hy⊢;exact stepV_frame hfr hf hy
theorem lowRead_frame{callf:CallF}{N base k:Nat}{rs:List Nat}{ops:List Oper}{o:Oper}{F:Tr SV}{X:XW}{r:Tr SV×XW}(h:stepN P callf N ops rs base k o F X=some r):lowRead P ops base o F (X.add m ob)=lowRead P ops base o F X:=by
 unfold lowRead;cases hr:isRead P o.op with
 |false=>rfl
 |true=>
  have hn:=read_noNew (rs:=rs) (k:=k) hr;unfold stepN at h;rw[hn] at h;simp only[cond_false] at h;rw[addrOf_frame h]
theorem recs_frame{callf:CallF}{N base k:Nat}{rs:List Nat}{recs:List (Nat×Option Nat)}{ops:List Oper}{o:Oper}{F:Tr SV}{X:XW}{r:Tr SV×XW}(h:stepN P callf N ops rs base k o F X=some r):
 (bif isRead P o.op then(k,addrOf ops o F (X.add m ob))::recs else recs)=(bif isRead P o.op then(k,addrOf ops o F X)::recs else recs):=by
 cases hr:isRead P o.op with
 |false=>rfl
 |true=>
  have hn:=read_noNew (rs:=rs) (k:=k) hr;unfold stepN at h;rw[hn] at h;simp only[cond_false] at h;rw[addrOf_frame h]
theorem evN_frame{callf:CallF}(hfr:FrameOK callf)(hc:KeepsOK callf){N base:Nat}{rs:List Nat}{chk:List (Nat×List Nat)}{ops:List Oper}(hm:m<base):∀{ks:List Nat} {recs:List (Nat×Option Nat)} {F F':Tr SV} {X X':XW},base≤X.next→Free X m→evN P callf N ops rs chk base ks recs F X=some (F',X')→
 evN P callf N ops rs chk base ks recs F (X.add m ob)=some (F',X'.add m ob)
 | [],_,_,_,_,_,_,_,h=>by simp only[evN,Option.some.injEq,Prod.mk.injEq] at h⊢;obtain⟨rfl,rfl⟩:=h;exact⟨rfl,rfl⟩
 |k::ks,recs,F,F',X,X',hb,hf,h=>by
  simp only[evN] at h⊢;split at h<;>try(cases h;done)
  rename_i o _;cases hl:lowRead P ops base o F X with
  |false=>rw[hl] at h;cases h
  |true=>
   rw[hl] at h;simp only[cond_true] at h;split at h<;>try(cases h;done)
   rename_i F1 X1 hs;rw[lowRead_frame hs,hl];simp only[cond_true];rw[stepN_frame hfr hf hm hs];simp only[];cases hck:chkOK recs X X1 (chkOf chk k) with
   |false=>rw[hck] at h;cases h
   |true=>
   rw[hck] at h;simp only[cond_true] at h;rw[chkOK_frame hf hck,recs_frame hs];simp only[cond_true];obtain⟨y,hy,_⟩:=stepN_eq.1 hs;obtain⟨k1,k2⟩:=stepNV_keeps hc hb hy;have hnx:=stepNV_next hc hy;exact evN_frame hfr hc hm k2 ⟨k1.dead m hm hf.dead,Nat.lt_of_lt_of_le hf.lt hnx⟩ h
theorem allDead_frame{X:XW}{base:Nat}(hm:m<base):∀{rs:List Nat},allDead X base rs=true→allDead (X.add m ob) base rs=true
 | [],_=>rfl
 |k::ks,h=>by
  simp only[allDead,Bool.and_eq_true] at h⊢;refine⟨?_,allDead_frame hm h.2⟩
  have:(X.add m ob).objs.get (base+k)=X.objs.get (base+k):=by
   show(X.objs.put m ob).get (base+k)=_;rw[Hp.get_put,if_neg (by omega)]
  rw[this];exact h.1
def FrameJ(jump:JumpF):Prop:=∀m ob c rest F X ex F' X',Free X m→jump c rest F X=some (ex,F',X')→jump c rest F (X.add m ob)=some (ex,F',X'.add m ob)
theorem Free.kD{X X':XW}(h:Free X m)(k:KeepsD X X'):Free X' m:=h.keepsD k
theorem Free.reD{X:XW}(h:Free X m)(l:List SD):Free {X with dfs:=l} m:=⟨h.dead,h.lt⟩
theorem blk_frame{rd:Option Nat}{X X1:XW}{b:Nat}(hf:Free X m)(h:blkOf rd X=some (b,X1)):blkOf rd (X.add m ob)=some (b,X1.add m ob):=by
 unfold blkOf at h⊢;split at h
 ·cases h;simp only[add_new hf];rfl
 ·split at h<;>try(cases h;done)
  rename_i o ho;simp only[(add_get hf ho).1];split at h<;>cases h
  rfl
theorem end_frame{F F':Tr SV}{l:Nat}{X X':XW}{ex:Ex}(hf:Free X m)(h:endE F l X=some (ex,F',X')):endE F l (X.add m ob)=some (ex,F',X'.add m ob):=by
 unfold endE at h⊢;split at h<;>try(cases h;done)
 rename_i o ho;simp only[(add_get hf ho).1];split at h<;>try(cases h;done)
 split at h
 ·cases h
 ·rename_i hb;cases h;rw[add_set hf ho]
theorem range_frame2{callf:CallF}(hfr:FrameOK callf)(hc:KeepsOK callf){ord:Nat→Hint}{me:FuncId}{rd:Option Nat}{N:Nat}{ps:Array Tmp}{az body:Code}{F F':Tr SV}{X X':XW}{y:SV}{ex:Ex}(hf:Free X m)(h:rangeE callf ord me rd N ps az body y F X=some (ex,F',X')):
 rangeE callf ord me rd N ps az body y F (X.add m ob)=some (ex,F',X'.add m ob):=by
 unfold rangeE at h⊢;split at h<;>try(cases h;done)
 rename_i f fa fb b X1 hb;have hf1:Free X1 m:=hf.kD (blk_keeps hb);have hf2:Free (X1.new (mkLoop ord me N (normT (keepOf ord N body) F.get) ps az body b)).2 m:=hf1.keeps (Keeps.new _ _);rw[blk_frame (ob:=ob) hf hb];simp only[add_new hf1];split at h
 ·rename_i z X2 hcl;have e:=hfr _ _ _ _ _ m ob hcl (hf2.reD _);have hf3:Free X2 m:=(hf2.reD []).keeps (hc _ _ _ _ _ hcl);rw[show({((X1.new (mkLoop ord me N (normT (keepOf ord N body) F.get) ps az body b)).2).add m ob with dfs:=[]}:XW)=({(X1.new (mkLoop ord me N (normT (keepOf ord N body) F.get) ps az body b)).2 with dfs:=[]}:XW).add m ob from rfl,e];exact end_frame (ob:=ob) (hf3.reD _) h
 ·rename_i ch X2 hcl;cases h;have e:=hfr _ _ _ _ _ m ob hcl (hf2.reD _);rw[show({((X1.new (mkLoop ord me N (normT (keepOf ord N body) F.get) ps az body b)).2).add m ob with dfs:=[]}:XW)=({(X1.new (mkLoop ord me N (normT (keepOf ord N body) F.get) ps az body b)).2 with dfs:=[]}:XW).add m ob from rfl,e];rfl
 ·cases h
theorem code_frame{callf:CallF}(hfr:FrameOK callf)(hc:KeepsOK callf){ord:Nat→Hint}{me:FuncId}{rd:Option Nat}{N fuel:Nat}{jump:JumpF}(hj:FrameJ jump)(hjk:KeepsJ jump):∀(c:Code) (F:Tr SV) (X:XW) (ex:Ex) (F':Tr SV) (X':XW),Free X m→
 evC P callf ord me rd N fuel jump c F X=some (ex,F',X')→evC P callf ord me rd N fuel jump c F (X.add m ob)=some (ex,F',X'.add m ob)
 | .skip,F,X,ex,F',X',_,h=>by simp only[evC,Option.some.injEq,Prod.mk.injEq] at h⊢;obtain⟨rfl,rfl,rfl⟩:=h;exact⟨rfl,rfl,rfl⟩
 | .region id ops false,F,X,ex,F',X',hf,h=>by
   simp only[evC] at h⊢;split at h<;>try(cases h;done)
   ·rename_i F1 X1 hops;simp only[Option.some.injEq,Prod.mk.injEq] at h;obtain⟨rfl,rfl,rfl⟩:=h;rw[evOps_frame hfr hc hf hops]
   ·rename_i ch F1 X1 hops;simp only[Option.some.injEq,Prod.mk.injEq] at h;obtain⟨rfl,rfl,rfl⟩:=h;rw[evOps_frame hfr hc hf hops]
 | .region id ops true,F,X,ex,F',X',hf,h=>by
   simp only[evC] at h⊢;split at h<;>try(cases h;done)
   rename_i F1 X1 hd;simp only[Option.some.injEq,Prod.mk.injEq] at h;obtain⟨rfl,rfl,rfl⟩:=h;have hf0:Free {X with orc:=[]} m:=⟨hf.dead,hf.lt⟩;cases ho:ord id with
   |text=>
    rw[ho] at hd
    have:=evD_frame (ob:=ob) hfr hc hf0 hd
    simp only[];rw[show({X.add m ob with orc:=[]}:XW)=({X with orc:=[]}:XW).add m ob from rfl,this];rfl
   |skip=>rw[ho] at hd;cases hd
   |ord is chk=>
    rw[ho] at hd
    have:=evD_frame (ob:=ob) hfr hc hf0 hd
    simp only[];rw[show({X.add m ob with orc:=[]}:XW)=({X with orc:=[]}:XW).add m ob from rfl,this];rfl
   |news is rs=>
    rw[ho] at hd;simp only[force_eq] at hd⊢;cases hdd:allDead X X.next rs with
    |false=>rw[hdd] at hd;cases hd
    |true=>
     rw[hdd] at hd;have h2:allDead (X.add m ob) (X.add m ob).next rs=true:=allDead_frame hf.lt hdd
     rw[h2];have hf1:Free {X with orc:=[],next:=X.next+ops.size} m:=⟨hf.dead,Nat.lt_of_lt_of_le hf.lt (Nat.le_add_right _ _)⟩
     have:=evN_frame (ob:=ob) hfr hc hf.lt (Nat.le_add_right _ _) hf1 hd
     simp only[cond_true]
     rw[show({X.add m ob with orc:=[],next:=(X.add m ob).next+ops.size}:XW)=({X with orc:=[],next:=X.next+ops.size}:XW).add m ob from rfl,
      show(X.add m ob).next=X.next from rfl,this]
     rfl
 | .seq x y,F,X,ex,F',X',hf,h=>by
   simp only[evC] at h⊢;split at h
   ·rename_i F1 X1 hx;rw[code_frame hfr hc hj hjk x _ _ _ _ _ hf hx];exact code_frame hfr hc hj hjk y _ _ _ _ _ (hf.kD (code_keeps hc hjk x _ _ _ _ _ hx)) h
   ·rename_i hne;rw[code_frame hfr hc hj hjk x _ _ _ _ _ hf h];cases ex with
    |nm=>exact absurd h (hne F' X')
    |_=>rfl
 | .cond c x y,F,X,ex,F',X',hf,h=>by
   simp only[evC] at h⊢;split at h<;>try(cases h;done)
   rename_i z hz;have hz':look (X.add m ob).ng F c=some z:=hz;simp only[hz'];split at h
   ·rename_i X1 hb;rw[asB_frame (m:=m) (ob:=ob) hb];exact code_frame hfr hc hj hjk x _ _ _ _ _ (hf.keeps (asB_keeps hb)) h
   ·rename_i X1 hb;rw[asB_frame (m:=m) (ob:=ob) hb];exact code_frame hfr hc hj hjk y _ _ _ _ _ (hf.keeps (asB_keeps hb)) h
   ·cases h
 | .block id c,F,X,ex,F',X',hf,h=>by
   simp only[evC] at h⊢;split at h
   ·rename_i id' F1 X1 hx;rw[code_frame hfr hc hj hjk c _ _ _ _ _ hf hx];simp only[];cases hb:Nat.beq id' id<;>simp only[hb,cond_true,cond_false,Option.some.injEq,Prod.mk.injEq] at h⊢ <;>(obtain⟨rfl,rfl,rfl⟩:=h;exact⟨rfl,rfl,rfl⟩)
   ·rename_i hne;rw[code_frame hfr hc hj hjk c _ _ _ _ _ hf h];cases ex with
    |ex id'=>exact absurd h (hne id' F' X')
    |_=>rfl
 | .loop c,F,X,ex,F',X',hf,h=>by
   simp only[evC] at h⊢
   have key:∀(k:Nat) (F:Tr SV) (X:XW),Free X m→loopE (evC P callf ord me rd N fuel jump c) k F X=some (ex,F',X')→loopE (evC P callf ord me rd N fuel jump c) k F (X.add m ob)=some (ex,F',X'.add m ob):=by
    intro k
    induction k with
    |zero=>intro F X _ h;simp[loopE] at h
    |succ k ih=>
     intro F X hf h;have h':(match evC P callf ord me rd N fuel jump c F X with|some (.nm,F,X)=>loopE (evC P callf ord me rd N fuel jump c) k F X|r=>r)=some (ex,F',X'):=h;show(match evC P callf ord me rd N fuel jump c F (X.add m ob) with|some (.nm,F,X)=>loopE (evC P callf ord me rd N fuel jump c) k F X|r=>r)=some (ex,F',X'.add m ob);split at h'
     ·rename_i F1 X1 hb;rw[code_frame hfr hc hj hjk c _ _ _ _ _ hf hb];exact ih _ _ (hf.kD (code_keeps hc hjk c _ _ _ _ _ hb)) h'
     ·rename_i hne;rw[code_frame hfr hc hj hjk c _ _ _ _ _ hf h'];cases ex with
      |nm=>exact absurd h' (hne F' X')
      |_=>rfl
   exact key fuel F X hf h
 | .exit id,F,X,ex,F',X',_,h=>by simp only[evC,Option.some.injEq,Prod.mk.injEq] at h⊢;obtain⟨rfl,rfl,rfl⟩:=h;exact⟨rfl,rfl,rfl⟩
 | .label l,F,X,ex,F',X',_,h=>by simp only[evC,Option.some.injEq,Prod.mk.injEq] at h⊢;obtain⟨rfl,rfl,rfl⟩:=h;exact⟨rfl,rfl,rfl⟩
 | .ret,F,X,ex,F',X',_,h=>by simp only[evC,Option.some.injEq,Prod.mk.injEq] at h⊢;obtain⟨rfl,rfl,rfl⟩:=h;exact⟨rfl,rfl,rfl⟩
 | .goto _,F,X,ex,F',X',_,h=>by simp only[evC,Option.some.injEq,Prod.mk.injEq] at h⊢;obtain⟨rfl,rfl,rfl⟩:=h;exact⟨rfl,rfl,rfl⟩
 | .scope c,F,X,ex,F',X',hf,h=>by
   simp only[evC] at h⊢;split at h
   ·rename_i l F1 X1 hx;rw[code_frame hfr hc hj hjk c _ _ _ _ _ hf hx];have hf1:=hf.kD (code_keeps hc hjk c _ _ _ _ _ hx);simp only[];split at h
    ·rename_i rest hl;exact hj _ _ _ _ _ _ _ _ _ hf1 h
    ·simp only[Option.some.injEq,Prod.mk.injEq] at h⊢;obtain⟨rfl,rfl,rfl⟩:=h;exact⟨rfl,rfl,rfl⟩
   ·rename_i hne;rw[code_frame hfr hc hj hjk c _ _ _ _ _ hf h];cases ex with
    |gt l=>exact absurd h (hne l F' X')
    |_=>rfl
 | .rangeFunc g _ _ _,F,X,ex,F',X',hf,h=>by
   simp only[evC] at h⊢;split at h<;>try(cases h;done)
   rename_i z hz;have hz':look (X.add m ob).ng F g=some z:=hz;simp only[hz'];exact range_frame2 hfr hc hf h
 | .refuse _,_,_,_,_,_,_,h=>by simp[evC] at h
end
theorem jump_frame{callf:CallF}(hfr:FrameOK callf)(hc:KeepsOK callf){ord:Nat→Hint}{me:FuncId}{rd:Option Nat}{N fuel:Nat}:∀n,FrameJ (jumpE P callf ord me rd N fuel n)
 |0,_,_,_,_,_,_,_,_,_,_,h=>by simp[jumpE] at h
 |n+1,m,ob,c,rest,F,X,ex,F',X',hf,h=>by
  have ih:=jump_frame hfr hc (ord:=ord) (me:=me) (rd:=rd) (N:=N) (fuel:=fuel) n;have ihk:KeepsJ (jumpE P callf ord me rd N fuel n):=jump_keeps hc n
  have h':(match evC P callf ord me rd N fuel (jumpE P callf ord me rd N fuel n) rest F X with
   |some (.gt l,F,X)=>(match findLabel c l with
    |some rest=>jumpE P callf ord me rd N fuel n c rest F X
    |none=>some (.gt l,F,X))
   |r=>r)=some (ex,F',X'):=h
  show(match evC P callf ord me rd N fuel (jumpE P callf ord me rd N fuel n) rest F (X.add m ob) with
   |some (.gt l,F,X)=>(match findLabel c l with
    |some rest=>jumpE P callf ord me rd N fuel n c rest F X
    |none=>some (.gt l,F,X))
   |r=>r)=some (ex,F',X'.add m ob)
  split at h'
  ·rename_i l F1 X1 hx;rw[code_frame hfr hc ih ihk rest _ _ _ _ _ hf hx];have hf1:=hf.kD (code_keeps hc ihk rest _ _ _ _ _ hx);simp only[];split at h'
   ·exact ih _ _ _ _ _ _ _ _ _ hf1 h'
   ·simp only[Option.some.injEq,Prod.mk.injEq] at h'⊢;obtain⟨rfl,rfl,rfl⟩:=h';exact⟨rfl,rfl,rfl⟩
  ·rename_i hne;rw[code_frame hfr hc ih ihk rest _ _ _ _ _ hf h'];cases ex with
   |gt l=>exact absurd h' (hne l F' X')
   |_=>rfl
end
end Go.Xe
namespace Go.Xe
section
variable{P:Program}{B:Nat}{w0 w:World}{E:Env}{ds:List Deferred}{X:XW}
def resS(a:Act):ResultVar→Sem Value
 | .tmp t=>Pure.pure (a.tmps.getD t undef)
 | .cell b t=>do loadVar t (← asAddr (a.tmps.getD b undef))
theorem results_eq(fn:Func)(a:Act):results fn a.tmps=(do let vs ← fn.results.mapM (resS a);Pure.pure (if h:vs.size=1 then vs[0] else .tuple vs)):=by
 unfold results;congr 1
theorem resultE_sound{N:Nat}{F:Tr SV}{a:Act}(hE:Emb P B w0 X E w)(hF:FrRel ds N E F a){r:ResultVar}{y:SV}(h:resultE P F X r=some y):
 ∃v,(resS a r).run P w= .ok v w∧Den E y v:=by
 cases r with
 |tmp t=>
  obtain⟨_,v,h1,h2⟩:=hF.2.2 t y h;exact⟨v,by simp[resS,h1],h2⟩
 |cell b t=>
  simp only[resultE] at h;split at h<;>try(cases h;done)
  rename_i k off hb;obtain⟨_,v,h1,id,c,hk,h2⟩:=hF.2.2 b _ hb;obtain⟨u,hr,hd⟩:=load_good hE h hk;exact⟨u,by simp[resS,h1,h2,asAddr,hr],hd⟩
theorem resultsE_sound{N:Nat}{F:Tr SV}{a:Act}(hE:Emb P B w0 X E w)(hF:FrRel ds N E F a):∀{rs:List ResultVar} {ys:List SV},resultsE P F X rs=some ys→
 ∃vs,(rs.mapM (resS a)).run P w= .ok vs w∧DenL E ys vs
 | [],ys,h=>by simp[resultsE] at h;subst h;exact⟨[],rfl,rfl⟩
 |r::rs,ys,h=>by
  simp only[resultsE] at h;split at h<;>try(cases h;done)
  rename_i y hy;split at h<;>try(cases h;done)
  rename_i ys' hys;cases h;obtain⟨v,h1,h2⟩:=resultE_sound hE hF hy;obtain⟨vs,h3,h4⟩:=resultsE_sound hE hF hys;refine⟨v::vs,?_,v,vs,h2,h4,rfl⟩;rw[List.mapM_cons,Sem.run_bind,h1];simp only[Result.andThen_ok,Sem.run_bind,h3,Sem.run_pure]
theorem result1_den{ys:List SV}{vs:List Value}(h:DenL E ys vs):Den E (result1 ys) (if h:vs.toArray.size=1 then vs.toArray[0] else .tuple vs.toArray):=by
 match ys,vs,h with
 | [],vs,h=>cases h;exact⟨[],rfl,rfl⟩
 | [y],_,⟨v,vs,hv,hvs,e⟩=>cases hvs;subst e;exact hv
 |y::z::ys,_,⟨v,vs,hv,⟨u,us,hu,hus,e'⟩,e⟩=>
  subst e';subst e;rw[dif_neg (by simp)];exact⟨_,⟨v,_,hv,⟨u,us,hu,hus,rfl⟩,rfl⟩,rfl⟩
theorem results_sound{N:Nat}{F:Tr SV}{a:Act}{fn:Func}(hE:Emb P B w0 X E w)(hF:FrRel ds N E F a){ys:List SV}(h:resultsE P F X fn.results.toList=some ys):
 ∃v,(results fn a.tmps).run P w= .ok v w∧Den E (result1 ys) v:=by
 obtain⟨vs,h1,h2⟩:=resultsE_sound hE hF h;refine⟨_,?_,result1_den h2⟩;rw[results_eq,Sem.run_bind,Array.mapM_eq_mapM_toList];simp only[Sem.run_map];rw[h1];simp
theorem tmpsRel_init{args:List SV}{argv:List Value}{n:Nat}(h:DenL E args argv)(hn:args.length≤n):
 TmpsRel n E (storeN .nil 0 args) (argv.toArray++Array.replicate (n-argv.toArray.size) undef):=by
 have hl:=h.length;refine⟨by simp;omega,fun j y hj=>?_⟩;rcases get_storeN _ _ _ _ _ hj with⟨_,h2⟩|⟨_,h2⟩
 ·simp only[Nat.sub_zero] at h2;obtain⟨v,h3,h4⟩:=h.get _ _ h2
  have:=(List.getElem?_eq_some_iff.1 h3).1
  refine⟨by omega,v,?_,h4⟩;rw[Array.getElem?_append_left (by simpa using this)];simpa using h3
 ·cases h2
theorem put_tmps{N:Nat}{F:Tr SV}{tmps:Array Value}(h:TmpsRel N E F tmps){d:Nat}{y:SV}{v:Value}(hd:Den E y v):TmpsRel N E (put N F (some d) y) (tmps.setIfInBounds d v):=by
 have hF:FrRel [] N E F {tmps,defers:=[]}:=⟨rfl,h⟩;exact(hF.put (d:=some d) hd).2
theorem puts_rel{N:Nat}:∀{ps:List Tmp} {F:Tr SV} {tmps:Array Value} {args:List SV} {argv:List Value},TmpsRel N E F tmps→DenL E args argv→args.length=ps.length→
 TmpsRel N E (puts N F ps args) ((ps.zip argv).foldl (fun tmps (t,a)=>tmps.setIfInBounds t a) tmps)
 | [],_,_,[],_,h,h',_=>by cases h';exact h
 | [],_,_,_::_,_,_,_,hl=>by simp at hl
 |_::_,_,_,[],_,_,_,hl=>by simp at hl
 |p::ps,F,tmps,x::xs,_,h,⟨v,vs,hv,hvs,e⟩,hl=>by
  subst e;simp only[puts,List.zip_cons_cons,List.foldl_cons];exact puts_rel (put_tmps h hv) hvs (by simpa using hl)
theorem setSt_spec{o o':Ob}{st:LoopState}{p:Option Jump}(h:setSt o st p=some o'):∃st0 q ord me N G ps a c b,o.sp= .loop st0 q ord me N G ps a c b∧o'={o with ver:=o.ver+1,sp:= .loop st (orJ p q) ord me N G ps a c b}:=by
 unfold setSt at h;split at h<;>cases h
 rename_i hs;exact⟨_,_,_,_,_,_,_,_,_,_,hs,rfl⟩
def orC(p:Option Jump)(q:Option Code):Option Code:=match p with
 |some p=>jumpCode p
 |none=>q
theorem setLoop_run(hE:Emb P B w0 X E w){k id c:Nat}{st:LoopState}{p:Option Jump}{X':XW}(hk:E k=some (id,c))(h:setLoop X k st p=some X'):
 ∃(r:Loop) (w':World),w.heap[id]?=some (.loop r)∧(setObj id (.loop {r with state:=st,pending:=orC p r.pending})).run P w= .ok () w'∧Emb P B w0 X' E w':=by
 unfold setLoop at h;split at h<;>try(cases h;done)
 rename_i o ho;split at h<;>try(cases h;done)
 rename_i o' hs;cases h;obtain⟨st0,q,ord,me,N,G,ps,a,cc,b,hsp,rfl⟩:=setSt_spec hs;have hne:o.sp≠ .cells:=by rw[hsp];simp
 obtain⟨id',c',hk',hrel,_⟩:=hE.spAt ho hne;rw[hk] at hk';cases hk';rw[hsp] at hrel;obtain⟨g0,r3,g1,g2,g3,g4,g5,g6,g7,g8⟩:=hrel
 obtain⟨w4,hset,hE4⟩:=hE.setSp (s:= .loop st (orJ p q) ord me N G ps a cc b) (obj':= .loop {r3 with state:=st,pending:=orC p r3.pending}) ho hne hk
  ⟨g0,_,rfl,rfl,by cases p<;>simp[g3,orJ,orC],g4,g5,g6,g7,g8⟩ P
 exact⟨r3,w4,g1,hset,hE4⟩
theorem setLoop_pc{k:Nat}{st:LoopState}{p:Option Jump}{X':XW}(h:setLoop X k st p=some X'):X'.pc=X.pc∧X'.dfs=X.dfs:=by
 unfold setLoop at h;split at h<;>try(cases h;done)
 split at h<;>cases h
 exact⟨rfl,rfl⟩
theorem isReady_spec{o:Ob}(h:isReady o=true):∃q ord me N G ps a c b,o.sp= .loop .ready q ord me N G ps a c b:=by
 unfold isReady at h;split at h
 ·exact⟨_,_,_,_,_,_,_,_,_,rfl⟩
 ·cases h
theorem endRound_run(hE:Emb P B w0 X E w){k id c:Nat}{D:List SD}{st:LoopState}{j:Jump}{b:Bool}{y:Out}{X':XW}(hk:E k=some (id,c))(h:endRound D X k st j b=some (y,X'))(hst:st=if(jumpCode j).isNone then .ready else .done)(hb:b=(jumpCode j).isNone):
 y= .ret (.bool b)∧∃w',(Instr.endRound id (jumpCode j)).run P w= .ok (.bool b) w'∧Emb P B w0 X' E w':=by
 unfold endRound at h;split at h<;>try(cases h;done)
 rename_i X1 hs;cases h;obtain⟨r,w',h1,h2,h3⟩:=setLoop_run hE hk hs;refine⟨rfl,w',?_,h3.reD _⟩;subst hst;subst hb;cases j<;>simp[orC,jumpCode] at h2<;>simp[Instr.endRound,getLoop_run h1,jumpCode,h2]
theorem endRound_pc{k:Nat}{D:List SD}{st:LoopState}{j:Jump}{b:Bool}{y:Out}{X':XW}(h:endRound D X k st j b=some (y,X'))(hp:Pc X'):Pc X:=by
 unfold endRound at h;split at h<;>try(cases h;done)
 rename_i X1 hs;cases h
 have:=(setLoop_pc hs).1
 intro p hpp;exact hp p (by show p∈X1.pc;rw[this];exact hpp)
theorem round_good{ord:Nat→Hint}{k N:Nat}{ev:Code→Tr SV→XW→R}{ps:Array Tmp}{az body:Code}{F:Tr SV}
 (hev:∀c F X ex F' X',codeOK P ord true c=true→ev c F X=some (ex,F',X')→Pc X'→CodeGood P (some k) N c F X ex F' X')(hek:∀c F X ex F' X',ev c F X=some (ex,F',X')→KeepsD X X')
 {o:Ob}{st:LoopState}{pend:Jump}{me:FuncId}{blk:Nat}(ho:X.objs.get k=some o)(hs:o.sp= .loop st pend ord me N F ps az body blk){args:List SV}{y:Out}{X':XW}(h:roundE ev k N F ps az body args X=some (y,X'))(hp:Pc X'):
 Pc X∧∀B w0 E w argv,Emb P B w0 X E w→DenL E args argv→CalIn P E (.yld k) argv w (RetPost P B w0 E y X'):=by
 unfold roundE at h;cases hlen:Nat.beq args.length ps.size with
 |false=>simp[hlen] at h
 |true=>
 have hlen':=Nat.eq_of_beq_eq_true hlen;simp only[hlen,cond_true] at h;split at h<;>try(cases h;done)
 rename_i F1 X1 ha;split at h<;>try(cases h;done)
 rename_i o1 ho1;cases hr:isReady o1 with
 |false=>simp[hr] at h
 |true=>
 simp only[hr,cond_true] at h;split at h<;>try(cases h;done)
 rename_i X2 hb;obtain⟨q1,od1,me1,N1,G1,ps1,a1,c1,b1,hs1⟩:=isReady_spec hr;have hpcb:=setLoop_pc hb
 have main:∀(j:Jump) (ex:Ex) (F3:Tr SV) (X3:XW) (st3:LoopState) (b3:Bool),ev body F1 X2=some (ex,F3,X3)→endRound X.dfs X3 k st3 j b3=some (y,X')→(ex=jumpEx j)→(st3=if(jumpCode j).isNone then .ready else .done)→(b3=(jumpCode j).isNone)→
  Pc X∧∀B w0 E w argv,Emb P B w0 X E w→DenL E args argv→CalIn P E (.yld k) argv w (RetPost P B w0 E y X'):=by
  intro j ex F3 X3 st3 b3 hbody hend hex hst3 hb3;have hp3:Pc X3:=endRound_pc hend hp;have hp2:Pc X2:=(hek _ _ _ _ _ _ hbody).pc hp3;have hp1:Pc X1:=fun p hpp=>hp2 p (by rw[hpcb.1];exact hpp)
  refine⟨(KeepsD.reD' (l:=[]) (hek _ _ _ _ _ _ ha)).pc hp1,fun B w0 E w argv hE hargs=>?_⟩;have hne:o.sp≠ .cells:=by rw[hs];simp
  obtain⟨id,c,hk,hrel,_⟩:=hE.spAt ho hne;rw[hs] at hrel;obtain⟨⟨ok1,ok2⟩,r,g1,g2,g3,g4,g5,g6,g7,g8⟩:=hrel;have hsz:argv.toArray.size=r.params.size:=by rw[g4];have:=hargs.length;simp;omega
  refine⟨id,c,r.fn,(r.params.zip argv.toArray).foldl (fun tmps (t,a)=>tmps.setIfInBounds t a) r.tmps,r.assign,r.body,hk,?_,?_⟩
  ·simp only[Instr.yield,Sem.run_bind,getLoop_run g1,Result.andThen_ok];rw[if_neg (by simpa using hsz)];rfl
  ·refine roundIn_of_wpIn (F:=wideR none) trivial ?_;show Code.wpIn (wideR (some id)) 0 P r.assign _ _ w;rw[g5,g6];obtain⟨_,ka⟩:=hev az _ _ _ _ _ ok1 ha hp1
   have hfold:(r.params.zip argv.toArray).foldl (fun tmps (t,a)=>tmps.setIfInBounds t a) r.tmps=(ps.toList.zip argv).foldl (fun tmps (t,a)=>tmps.setIfInBounds t a) r.tmps:=by
    rw[← Array.foldl_toList,Array.toList_zip,g4]
   have hF1:FrRel [] N E (puts N F ps.toList args) {tmps:=(r.params.zip argv.toArray).foldl (fun tmps (t,a)=>tmps.setIfInBounds t a) r.tmps,defers:=[]}:=by
    refine⟨rfl,?_⟩;rw[hfold];exact puts_rel g8 hargs (by simpa using hlen')
   refine ka (some id) B w0 E [] _ w _ (hE.reD []) hF1 rfl ⟨id,c,hk,rfl⟩ ?_;intro E1 ds1 a1' w1 e1 l1 l2 l3 l4 l5;cases l5;obtain⟨r1,w2,t1,t2,t3⟩:=setLoop_run l4 (l1.sub _ _ hk) hb
   have hst1:r1.state= .ready:=by
    obtain⟨i2,c2,hk2,hrel2,_⟩:=l4.spAt ho1 (by rw[hs1];simp);rw[l1.sub _ _ hk] at hk2;cases hk2;rw[hs1] at hrel2;obtain⟨_,r2,u1,u2,_⟩:=hrel2;rw[t1] at u1;cases u1;exact u2
   refine⟨w2,?_,?_⟩
   ·simp only[orC] at t2;simp[Instr.beginRound,getLoop_run t1,t2,hst1]
   ·obtain⟨_,kb⟩:=hev body _ _ _ _ _ ok2 hbody hp3;refine kb (some id) B w0 E1 ds1 a1' w2 _ t3 l2 (by rw[hpcb.2];exact l3) ⟨id,c,l1.sub _ _ hk,rfl⟩ ?_;intro E2 ds2 a2 w3 e2 m1 m2 m3 m4 m5;obtain⟨rfl,w4,n1,n2⟩:=endRound_run m4 (m1.sub _ _ (l1.sub _ _ hk)) hend hst3 hb3;have post:RetPost P B w0 E (.ret (.bool b3)) X' (.returned (.bool b3)) w4:=⟨E2,l1.trans m1,n2,_,rfl,rfl⟩;subst hex;cases j with
    |none=>cases m5;exact⟨_,w4,n1,post⟩
    |ret=>cases m5;exact⟨_,w4,n1,post⟩
    |ex id'=>cases m5;exact⟨_,w4,n1,post⟩
 split at h
 ·rename_i F3 X3 hbody;exact main .none .nm F3 X3 _ _ hbody h rfl rfl rfl
 ·rename_i F3 X3 hbody;exact main .ret .ret F3 X3 _ _ hbody h rfl rfl rfl
 ·rename_i id F3 X3 hbody;exact main (.ex id) (.ex id) F3 X3 _ _ hbody h rfl rfl rfl
 ·cases h
def ModeRel(E:Env):Mode→FrameMode→Prop
 | .ret,m=>m= .returning
 | .pan ch,m=>∃l,DenCh E ch l∧m= .panicking l
theorem ModeRel.sub{E E':Env}(hE:Sub E E'){u:Mode}{m:FrameMode}(h:ModeRel E u m):ModeRel E' u m:=by
 cases u with
 |ret=>exact h
 |pan ch=>obtain⟨l,a,b⟩:=h;exact⟨l,a.sub hE,b⟩
def OutRel(E:Env):Out→Ending→Prop
 | .ret y,e=>∃v,e= .returned v∧Den E y v
 | .pan ch,e=>∃l,e= .panicked l∧DenCh E ch l
theorem ModeRel.ne{u:Mode}{m:FrameMode}(h:ModeRel E u m):m≠ .run:=by
 cases u with
 |ret=>cases h;simp
 |pan ch=>obtain⟨l,_,rfl⟩:=h;simp
theorem denCh_noexit:∀{ch:Chain} {l:List PanicEntry},DenCh E ch l→l.dropWhile (!·.goexit)=[]
 | [],_,h=>by cases h;rfl
 |(_,_)::ch,_,⟨v,l',_,h2,e⟩=>by subst e;simp[denCh_noexit h2]
theorem settle_rel{u:Mode}{m:FrameMode}(h:ModeRel E u m):ModeRel E (settleE u) (settle m):=by
 cases u with
 |ret=>cases h;rfl
 |pan ch=>
  obtain⟨l,h1,rfl⟩:=h;cases ch with
  |nil=>cases h1;exact⟨[],rfl,rfl⟩
  |cons p ch=>
   obtain⟨v,r⟩:=p;have h1':=h1;obtain⟨u,l',a,b,rfl⟩:=h1';cases r with
   |false=>exact⟨_,h1,rfl⟩
   |true=>
    show settle (.panicking ({v:=u,recovered:=true}::l'))= .returning;simp[settle,denCh_noexit b]
theorem raised_rel{u:Mode}{m:FrameMode}{ch:Chain}{l:List PanicEntry}(h:ModeRel E u m)(hc:DenCh E ch l):ModeRel E (raisedE u ch) (raised m l):=by
 cases u with
 |ret=>cases h;exact⟨l,hc,rfl⟩
 |pan old=>obtain⟨l',h1,rfl⟩:=h;exact⟨l++l',hc.append h1,rfl⟩
def DCallOK(P:Program)(dcall:DCallF):Prop:=∀f args u X y u' X',dcall f args u X=some (y,u',X')→Pc X'→
 (∃fn,P.funcs[f]?=some fn∧fn.body.isSome=true∧fn.name≠"runtime.NumGoroutine")∧∀B w0 E w argv m,Emb P B w0 X E w→DenL E args argv→ModeRel E u m→
   CallsDIn (wideR none) 0 P f argv.toArray m w fun e m' w'=>∃E',Le E E'∧Emb P B w0 X' E' w'∧ModeRel E' u' m'∧OutRel E' y e
def DKeeps(dcall:DCallF):Prop:=∀f args u X y u' X',dcall f args u X=some (y,u',X')→Keeps X X'
theorem leave_keeps{dcall:DCallF}(hk:DKeeps dcall){fn:Func}{F:Tr SV}:∀{D:List SD} {u:Mode} {X X':XW} {y:Out},leaveE P dcall fn F D u X=some (y,X')→Keeps X X'
 | [],.ret,X,X',y,h=>by
   simp only[leaveE] at h;split at h<;>cases h
   exact Keeps.refl _
 | [],.pan ch,X,X',y,h=>by simp only[leaveE,Option.some.injEq,Prod.mk.injEq] at h;obtain⟨_,rfl⟩:=h;exact Keeps.refl _
 | .coll k::D,u,X,X',y,h=>by
   simp only[leaveE] at h;split at h<;>try(cases h;done)
   rename_i o ho;split at h<;>try(cases h;done)
   exact(Keeps.store ho (Nat.lt_succ_self _)).trans (leave_keeps hk h)
 | .call f xs ys::D,u,X,X',y,h=>by
   simp only[leaveE] at h;split at h
   ·rename_i hd;exact(hk _ _ _ _ _ _ _ hd).trans (leave_keeps hk h)
   ·rename_i hd;exact(hk _ _ _ _ _ _ _ hd).trans (leave_keeps hk h)
   ·cases h
theorem leave_good{dcall:DCallF}(hd:DCallOK P dcall)(hk:DKeeps dcall){fn:Func}{F:Tr SV}{N:Nat}{R:Ending→World→Prop}{X':XW}{y:Out}(hp:Pc X'):
 ∀(D:List SD) (u:Mode) (X:XW) (E:Env) (ds ds0:List Deferred) (a:Act) (w:World) (m:FrameMode),leaveE P dcall fn F D u X=some (y,X')→Emb P B w0 X E w→FrRel ds0 N E F a→DenDs E D ds→ModeRel E u m→
  (∀E' e w',Le E E'→Emb P B w0 X' E' w'→OutRel E' y e→R e w')→LeavesInM (wideR none) 0 P fn a.tmps R ds m w
 | [],.ret,X,E,ds,ds0,a,w,m,h,hE,hF,hD,hM,hR=>by
   cases hD;cases hM;simp only[leaveE] at h;split at h<;>cases h
   rename_i ys hys;obtain⟨v,hr,hv⟩:=results_sound (fn:=fn) hE hF hys;exact⟨v,hr,hR E _ w (Le.refl _) hE ⟨v,rfl,hv⟩⟩
 | [],.pan ch,X,E,ds,ds0,a,w,m,h,hE,hF,hD,hM,hR=>by
   cases hD;obtain⟨l,hch,rfl⟩:=hM;simp only[leaveE,Option.some.injEq,Prod.mk.injEq] at h;obtain⟨rfl,rfl⟩:=h;exact hR E _ w (Le.refl _) hE ⟨l,rfl,hch⟩
 | .coll k::D,u,X,E,ds,ds0,a,w,m,h,hE,hF,hD,hM,hR=>by
   obtain⟨d,ds',⟨id,c,hid,rfl⟩,hD',rfl⟩:=hD;simp only[leaveE] at h;split at h<;>try(cases h;done)
   rename_i o ho;split at h<;>try(cases h;done)
   rename_i hs;have hne:o.sp≠ .cells:=by rw[hs];simp
   obtain⟨id',c',hk',hrel,_⟩:=hE.spAt ho hne;rw[hid] at hk';cases hk';rw[hs] at hrel;have hobj:w.heap[id]?=some (.deferred (some [])):=hrel;obtain⟨w',hset,hE'⟩:=hE.setSp (s:= .blk true) (obj':= .deferred none) ho hne hid rfl P;refine⟨hM.ne,.inl ⟨id,w',rfl,?_,leave_good hd hk hp D u _ E ds' ds0 a w' m h hE' hF hD' hM hR⟩⟩;have hg:(getObj id).run P w= .ok (.deferred (some [])) w:=getObj_run hobj (hobj▸hrel);simp[Instr.takeDeferred,hg,hset]
 | .call f xs ys::D,u,X,E,ds,ds0,a,w,m,h,hE,hF,hD,hM,hR=>by
   obtain⟨d,ds',⟨xv,yv,hxv,hyv,rfl⟩,hD',rfl⟩:=hD;simp only[leaveE] at h
   have core:∀{y1:Out} {u1:Mode} {X1:XW},dcall f (xs++ys) u X=some (y1,u1,X1)→Pc X1→
    (∀E1 e m1 w1,Le E E1→Emb P B w0 X1 E1 w1→ModeRel E1 u1 m1→OutRel E1 y1 e→(match e with
      | .returned _=>LeavesInM (wideR none) 0 P fn a.tmps R ds' (settle m1) w1
      | .panicked chain=>LeavesInM (wideR none) 0 P fn a.tmps R ds' (raised m1 chain) w1
      | .outgrown=>R .outgrown w1))→LeavesInM (wideR none) 0 P fn a.tmps R ({target:= .fn (.func f) yv.toArray,args:=xv.toArray}::ds') m w:=by
    intro y1 u1 X1 hcl hp1 hpost;obtain⟨⟨fn1,hfn,hbody,hname⟩,hc⟩:=hd _ _ _ _ _ _ _ hcl hp1;have hbn:fn1.body≠none:=fun e=>by rw[e] at hbody;cases hbody
    refine⟨hM.ne,.inr ⟨(fun h=>by cases h),.func f,yv.toArray,f,(xv++yv).toArray,rfl,?_,fun _ _=>trivial,?_⟩⟩
    ·simp[invoke,callFunc,hfn,hname,hbn]
    ·refine(hc B w0 E w (xv++yv) m hE (hxv.append hyv) hM).mono ?_
     rintro e m1 w1 ⟨E1,h1,h2,h3,h4⟩
     have:=hpost E1 e m1 w1 h1 h2 h3 h4
     cases e<;>exact this
   split at h
   ·rename_i z u1 X1 hcl;refine core hcl ((leave_keeps hk h).pc hp) ?_
    rintro E1 e m1 w1 h1 h2 h3 ⟨v,rfl,_⟩
    exact leave_good hd hk hp D _ X1 E1 ds' ds0 a w1 _ h h2 (hF.mono h1) (hD'.sub h1.sub) (settle_rel h3) (fun E' e w' l1=>hR E' e w' (h1.trans l1))
   ·rename_i ch u1 X1 hcl;refine core hcl ((leave_keeps hk h).pc hp) ?_
    rintro E1 e m1 w1 h1 h2 h3 ⟨l,rfl,hl⟩
    exact leave_good hd hk hp D _ X1 E1 ds' ds0 a w1 _ h h2 (hF.mono h1) (hD'.sub h1.sub) (raised_rel h3 hl) (fun E' e w' l1=>hR E' e w' (h1.trans l1))
   ·cases h
end
end Go.Xe
namespace Go.Xe
section
variable{P:Program}{B:Nat}{w0 w:World}{E:Env}{ds:List Deferred}{X:XW}
def PostD(P:Program)(B:Nat)(w0:World)(N:Nat)(E:Env)(ex:Ex)(F':Tr SV)(X':XW)(u':Mode)(Q:Exit→Act→FrameMode→World→Prop):Prop:=
 ∀E' ds' a' w' e m',Le E E'→FrRel ds' N E' F' a'→DenDs E' X'.dfs ds'→Emb P B w0 X' E' w'→ModeRel E' u' m'→ExRel E' ex e→Q e a' m' w'
theorem PostD.le{N:Nat}{E E1:Env}{ex:Ex}{F':Tr SV}{X':XW}{u':Mode}{Q:Exit→Act→FrameMode→World→Prop}(h:PostD P B w0 N E ex F' X' u' Q)(hle:Le E E1):PostD P B w0 N E1 ex F' X' u' Q:=
 fun E' ds' a' w' e m' h1=>h E' ds' a' w' e m' (hle.trans h1)
def OnMode(c0:Frame)(cs:List Frame)(Q:Exit→Act→FrameMode→World→Prop)(e:Exit)(a:Act)(cs':List Frame)(w:World):Prop:=∃m',cs'={c0 with mode:=m'}::cs∧Q e a m' w
def CodeDGood(P:Program)(N:Nat)(c:Code)(F:Tr SV)(X:XW)(u:Mode)(ex:Ex)(F':Tr SV)(X':XW)(u':Mode):Prop:=
 ∀B w0 E ds a w m (c0:Frame) (cs:List Frame) (Q:Exit→Act→FrameMode→World→Prop),Emb P B w0 X E w→FrRel ds N E F a→DenDs E X.dfs ds→ModeRel E u m→PostD P B w0 N E ex F' X' u' Q→
  c.wpSIn (wideR none) 0 P (OnMode c0 cs Q) a ({c0 with mode:=m}::cs) w
theorem recE_rel{u:Mode}{m:FrameMode}{c0:Frame}{cs:List Frame}(h:ModeRel E u m):
 (∃v m',recoverD ({c0 with mode:=m}::cs)=some (v,{c0 with mode:=m'}::cs)∧Den E (recE u).1 v∧ModeRel E (recE u).2 m')∨
 (recoverD ({c0 with mode:=m}::cs)=none∧(recE u).1= .val .nilIface∧(recE u).2=u):=by
 cases u with
 |ret=>cases h;exact .inr ⟨rfl,rfl,rfl⟩
 |pan ch=>
  obtain⟨l,h1,rfl⟩:=h;cases ch with
  |nil=>cases h1;exact .inr ⟨rfl,rfl,rfl⟩
  |cons p ch=>
   obtain⟨y,r⟩:=p;obtain⟨v,l',a,b,rfl⟩:=h1;cases r with
   |false=>exact .inl ⟨v,.panicking ({v,recovered:=true}::l'),rfl,a,_,⟨v,l',a,b,rfl⟩,rfl⟩
   |true=>exact .inr ⟨rfl,rfl,rfl⟩
theorem evOpsD_keeps{N:Nat}:∀{l:List Oper} {F F':Tr SV} {X X':XW} {u u':Mode},evOpsD P N l F X u=some (F',X',u')→Keeps X X'
 | [],_,_,_,_,_,_,h=>by simp only[evOpsD,Option.some.injEq,Prod.mk.injEq] at h;obtain⟨_,rfl,_⟩:=h;exact Keeps.refl _
 |o::l,F,F',X,X',u,u',h=>by
  simp only[evOpsD] at h;split at h<;>try(cases h;done)
  cases hr:isRec o.op with
  |true=>rw[hr] at h;exact evOpsD_keeps h
  |false=>
   rw[hr] at h;simp only[cond_false] at h;split at h<;>try(cases h;done)
   split at h<;>try(cases h;done)
   rename_i hs;exact(sem_keeps hs).trans (evOpsD_keeps h)
theorem evOpsD_sound{N:Nat}{ops:Array Oper}{c0:Frame}{cs:List Frame}{Q:Exit→Act→FrameMode→World→Prop}{F':Tr SV}{X':XW}{u':Mode}(hp:Pc X'):
 ∀(n k:Nat) (F:Tr SV) (X:XW) (u:Mode) (E:Env) (a:Act) (w:World) (m:FrameMode),k+n=ops.size→evOpsD P N (ops.toList.drop k) F X u=some (F',X',u')→Emb P B w0 X E w→FrRel ds N E F a→ModeRel E u m→
  (∀E' a' w' m',Le E E'→FrRel ds N E' F' a'→Emb P B w0 X' E' w'→ModeRel E' u' m'→Q .normal a' m' w')→wpOpsSIn (wideR none) 0 P ops (OnMode c0 cs Q) (List.range' k n) a ({c0 with mode:=m}::cs) w
 |0,k,F,X,u,E,a,w,m,hk,h,hE,hF,hM,hQ=>by
  rw[List.drop_of_length_le (by simp;omega)] at h;simp only[evOpsD,Option.some.injEq,Prod.mk.injEq] at h;obtain⟨rfl,rfl,rfl⟩:=h;exact⟨m,rfl,hQ E a w m (Le.refl _) hF hE hM⟩
 |n+1,k,F,X,u,E,a,w,m,hk,h,hE,hF,hM,hQ=>by
  have hlt:k<ops.toList.length:=by simp;omega
  rw[List.drop_eq_getElem_cons hlt] at h;have ho:ops[k]?=some ops.toList[k]:=by simp[Array.getElem?_eq_getElem (show k<ops.size by omega)]
  generalize ops.toList[k]=o at h ho;rw[List.range'_succ];simp only[wpOpsSIn,ho];refine⟨fun _ _=>trivial,?_⟩;simp only[evOpsD] at h;split at h<;>try(cases h;done)
  rename_i hg;have hw:Region.wanted o (yielded ops a.tmps)=true:=by simp[Region.wanted,hg]
  rw[if_pos hw];cases hr:isRec o.op with
  |true=>
   rw[hr] at h;simp only[cond_true] at h
   have hrun:(execOp a.eval o).run P w= .ok .recover w:=by
    unfold isRec at hr;split at hr<;>try(cases hr;done)
    rename_i c hc;split at hr<;>try(cases hr;done)
    rename_i hb;simp[execOp,hc,resolve,hb,invoke,builtin]
   simp only[hrun];rcases recE_rel (c0:=c0) (cs:=cs) hM with⟨v,m',h1,h2,h3⟩|⟨h1,h2,h3⟩
   ·simp only[h1];exact evOpsD_sound hp n (k+1) _ X _ E _ w m' (by omega) h hE (hF.put h2) h3 hQ
   ·simp only[h1];rw[h2,h3] at h;exact evOpsD_sound hp n (k+1) _ X _ E _ w m (by omega) h hE (hF.put (d:=o.dst) (v:= .nilIface) rfl) hM hQ
  |false=>
   rw[hr] at h;simp only[cond_false] at h;split at h<;>try(cases h;done)
   rename_i vals hl;split at h<;>try(cases h;done)
   rename_i y X1 hs;have hp1:Pc X1:=(evOpsD_keeps h).pc hp;obtain⟨E1,v,w1,a1,a2,a3,a4⟩:=sem_sound hE (looks_sound hE hF hl) hp1 hs;rcases a2 with a2|⟨a2,rfl⟩
   ·simp only[a2];exact evOpsD_sound hp n (k+1) _ X1 _ E1 _ w1 m (by omega) h a4 ((hF.mono a1).put a3) (hM.sub a1.sub) (fun E' a' w' m' b1=>hQ E' a' w' m' (a1.trans b1))
   ·simp only[a2];exact evOpsD_sound hp n (k+1) _ X1 _ E1 _ w1 m (by omega) h a4 ((hF.mono a1).put a3) (hM.sub a1.sub) (fun E' a' w' m' b1=>hQ E' a' w' m' (a1.trans b1))
theorem codeD_keeps{N:Nat}{ev:Code→Tr SV→XW→R}(hek:∀c F X ex F' X',ev c F X=some (ex,F',X')→KeepsD X X'):∀(c:Code) (F:Tr SV) (X:XW) (u:Mode) (ex:Ex) (F':Tr SV) (X':XW) (u':Mode),evCD P N ev c F X u=some (ex,F',X',u')→KeepsD X X':=by
 have plain:∀(c:Code) (F:Tr SV) (X:XW) (u:Mode) (ex:Ex) (F':Tr SV) (X':XW) (u':Mode),(match ev c F X with|some (ex,F,X)=>some (ex,F,X,u)|none=>none)=some (ex,F',X',u')→KeepsD X X':=by
  intro c F X u ex F' X' u' h;split at h<;>cases h
  rename_i he;exact hek _ _ _ _ _ _ he
 intro c
 induction c with
 |seq a b iha ihb=>
  intro F X u ex F' X' u' h;simp only[evCD] at h;split at h
  ·rename_i h1;exact(iha _ _ _ _ _ _ _ h1).trans (ihb _ _ _ _ _ _ _ h)
  ·exact iha _ _ _ _ _ _ _ h
 |cond c a b iha ihb=>
  intro F X u ex F' X' u' h;simp only[evCD] at h;split at h<;>try(cases h;done)
  split at h
  ·rename_i hb;exact(asB_keeps hb).toD.trans (iha _ _ _ _ _ _ _ h)
  ·rename_i hb;exact(asB_keeps hb).toD.trans (ihb _ _ _ _ _ _ _ h)
  ·cases h
 |region id ops d=>
  intro F X u ex F' X' u' h;cases d with
  |true=>exact plain _ _ _ _ _ _ _ _ h
  |false=>
   simp only[evCD] at h;cases hr:hasRec ops.toList with
   |true=>
    rw[hr] at h;simp only[cond_true] at h;split at h<;>cases h
    rename_i he;exact(evOpsD_keeps he).toD
   |false=>rw[hr] at h;exact plain _ _ _ _ _ _ _ _ h
 |_=>intro F X u ex F' X' u' h;exact plain _ _ _ _ _ _ _ _ h
theorem codeD_good{N:Nat}{ord:Nat→Hint}{ev:Code→Tr SV→XW→R}(hev:∀c F X ex F' X',codeOK P ord false c=true→ev c F X=some (ex,F',X')→Pc X'→CodeGood P none N c F X ex F' X')
 (hek:∀c F X ex F' X',ev c F X=some (ex,F',X')→KeepsD X X'):∀(c:Code) (F:Tr SV) (X:XW) (u:Mode) (ex:Ex) (F':Tr SV) (X':XW) (u':Mode),codeOK P ord false c=true→evCD P N ev c F X u=some (ex,F',X',u')→Pc X'→CodeDGood P N c F X u ex F' X' u':=by
 have plain:∀(c:Code) (F:Tr SV) (X:XW) (u:Mode) (ex:Ex) (F':Tr SV) (X':XW) (u':Mode),codeOK P ord false c=true→(match ev c F X with|some (ex,F,X)=>some (ex,F,X,u)|none=>none)=some (ex,F',X',u')→Pc X'→CodeDGood P N c F X u ex F' X' u':=by
  intro c F X u ex F' X' u' hok h hp;split at h<;>cases h
  rename_i he;obtain⟨_,k⟩:=hev _ _ _ _ _ _ hok he hp;intro B w0 E ds a w m c0 cs Q hE hF hD hM hQ;refine wpSIn_of_wpIn rfl (k none B w0 E ds a w _ hE hF hD rfl ?_);intro E' ds' a' w' e h1 h2 h3 h4 h5;exact⟨m,rfl,hQ E' ds' a' w' e m h1 h2 h3 h4 (hM.sub h1.sub) h5⟩
 intro c
 induction c with
 |seq a b iha ihb=>
  intro F X u ex F' X' u' hok h hp;simp only[codeOK,Bool.and_eq_true] at hok;simp only[evCD] at h;split at h
  ·rename_i F1 X1 u1 h1;have hp1:Pc X1:=(codeD_keeps hek _ _ _ _ _ _ _ _ h).pc hp;have k1:=iha _ _ _ _ _ _ _ hok.1 h1 hp1;have k2:=ihb _ _ _ _ _ _ _ hok.2 h hp;intro B w0 E ds a' w m c0 cs Q hE hF hD hM hQ;refine wpSIn_seq ?_
   have:=k1 B w0 E ds a' w m c0 cs (fun e a2 m2 w2=>Exit.thenS (b.wpSIn (wideR none) 0 P (OnMode c0 cs Q)) (OnMode c0 cs Q) e a2 ({c0 with mode:=m2}::cs) w2) hE hF hD hM ?_
   ·intro fr k x1 x2 x3 x4;obtain⟨e,a2,cs2,w2,l,⟨m2,rfl,q⟩,r⟩:=this fr k x1 x2 x3 x4;exact⟨e,a2,_,w2,l,q,r⟩
   ·intro E' ds' a2 w2 e m2 g1 g2 g3 g4 g5 g6;cases g6;exact k2 B w0 E' ds' a2 w2 m2 c0 cs Q g4 g2 g3 g5 (hQ.le g1)
  ·rename_i r hne;have k1:=iha _ _ _ _ _ _ _ hok.1 h hp;intro B w0 E ds a' w m c0 cs Q hE hF hD hM hQ;refine wpSIn_seq ?_
   have:=k1 B w0 E ds a' w m c0 cs (fun e a2 m2 w2=>Exit.thenS (b.wpSIn (wideR none) 0 P (OnMode c0 cs Q)) (OnMode c0 cs Q) e a2 ({c0 with mode:=m2}::cs) w2) hE hF hD hM ?_
   ·intro fr k x1 x2 x3 x4;obtain⟨e,a2,cs2,w2,l,⟨m2,rfl,q⟩,r⟩:=this fr k x1 x2 x3 x4;exact⟨e,a2,_,w2,l,q,r⟩
   ·intro E' ds' a2 w2 e m2 g1 g2 g3 g4 g5 g6;have hq:=hQ E' ds' a2 w2 e m2 g1 g2 g3 g4 g5 g6;cases ex with
    |nm=>exact absurd h (hne F' X' u')
    |ex id=>cases g6;exact⟨m2,rfl,hq⟩
    |ret=>cases g6;exact⟨m2,rfl,hq⟩
    |gt l=>cases g6;exact⟨m2,rfl,hq⟩
    |pan ch=>obtain⟨p,_,rfl⟩:=g6;exact⟨m2,rfl,hq⟩
 |cond c a b iha ihb=>
  intro F X u ex F' X' u' hok h hp;simp only[codeOK,Bool.and_eq_true] at hok;simp only[evCD] at h;split at h<;>try(cases h;done)
  rename_i z hz;split at h
  ·rename_i X1 hb;have k1:=iha _ _ _ _ _ _ _ hok.1 h hp;have hp1:Pc X1:=(codeD_keeps hek _ _ _ _ _ _ _ _ h).pc hp;obtain⟨h1,h2,h3,h4⟩:=asB_spec hb;intro B w0 E ds a' w m c0 cs Q hE hF hD hM hQ;exact wpSIn_cond ((h1 hp1).2 _ _ (look_sound hE hF hz)) (k1 B w0 E ds a' w m c0 cs Q (hE.same h2 h3 h4) hF (by rw[asB_dfs hb];exact hD) hM hQ)
  ·rename_i X1 hb;have k1:=ihb _ _ _ _ _ _ _ hok.2 h hp;have hp1:Pc X1:=(codeD_keeps hek _ _ _ _ _ _ _ _ h).pc hp;obtain⟨h1,h2,h3,h4⟩:=asB_spec hb;intro B w0 E ds a' w m c0 cs Q hE hF hD hM hQ;exact wpSIn_cond ((h1 hp1).2 _ _ (look_sound hE hF hz)) (k1 B w0 E ds a' w m c0 cs Q (hE.same h2 h3 h4) hF (by rw[asB_dfs hb];exact hD) hM hQ)
  ·cases h
 |region id ops d=>
  intro F X u ex F' X' u' hok h hp;cases d with
  |true=>exact plain _ _ _ _ _ _ _ _ hok h hp
  |false=>
   simp only[evCD] at h;cases hr:hasRec ops.toList with
   |true=>
    rw[hr] at h;simp only[cond_true] at h;split at h<;>cases h
    rename_i he;intro B w0 E ds a' w m c0 cs Q hE hF hD hM hQ;refine wpSIn_region ?_;rw[List.range_eq_range'];refine evOpsD_sound (c0:=c0) (cs:=cs) hp ops.size 0 F X u E a' w m (by omega) (by simpa using he) hE hF hM ?_;intro E' a2 w2 m2 g1 g2 g3 g4;exact hQ E' ds a2 w2 .normal m2 g1 g2 (by rw[(evOpsD_keeps he).dfs];exact hD.sub g1.sub) g3 g4 rfl
   |false=>rw[hr] at h;exact plain _ _ _ _ _ _ _ _ hok h hp
 |_=>intro F X u ex F' X' u' hok h hp;exact plain _ _ _ _ _ _ _ _ hok h hp
end
end Go.Xe
namespace Go.Xe
section
variable{P:Program}{B:Nat}{w0 w:World}{E:Env}{ds:List Deferred}
def DFrameOK(dcall:DCallF):Prop:=∀f args u X y u' X' m ob,dcall f args u X=some (y,u',X')→Free X m→dcall f args u (X.add m ob)=some (y,u',X'.add m ob)
section
variable{m:Nat}{ob:Ob}{X X':XW}
theorem resultE_frame{F:Tr SV}(hf:Free X m){r:ResultVar}{y:SV}(h:resultE P F X r=some y):resultE P F (X.add m ob) r=some y:=by
 cases r with
 |tmp t=>exact h
 |cell b t=>
  simp only[resultE] at h⊢;split at h<;>try(cases h;done)
  exact load_frame hf h
theorem resultsE_frame{F:Tr SV}(hf:Free X m):∀{rs:List ResultVar} {ys:List SV},resultsE P F X rs=some ys→resultsE P F (X.add m ob) rs=some ys
 | [],ys,h=>h
 |r::rs,ys,h=>by
  simp only[resultsE] at h⊢;split at h<;>try(cases h;done)
  rename_i y hy;split at h<;>try(cases h;done)
  rename_i ys' hys;rw[resultE_frame hf hy,resultsE_frame hf hys];exact h
theorem leave_frame{dcall:DCallF}(hk:DKeeps dcall)(hfr:DFrameOK dcall){fn:Func}{F:Tr SV}:∀{D:List SD} {u:Mode} {X X':XW} {y:Out},Free X m→leaveE P dcall fn F D u X=some (y,X')→leaveE P dcall fn F D u (X.add m ob)=some (y,X'.add m ob)
 | [],.ret,X,X',y,hf,h=>by
   simp only[leaveE] at h⊢;split at h<;>cases h
   rename_i ys hys;rw[resultsE_frame hf hys]
 | [],.pan ch,X,X',y,hf,h=>by simp only[leaveE,Option.some.injEq,Prod.mk.injEq] at h⊢;obtain⟨rfl,rfl⟩:=h;exact⟨rfl,rfl⟩
 | .coll k::D,u,X,X',y,hf,h=>by
   simp only[leaveE] at h⊢;split at h<;>try(cases h;done)
   rename_i o ho;simp only[(add_get hf ho).1];split at h<;>try(cases h;done)
   rw[add_set hf ho];exact leave_frame hk hfr (hf.keeps (Keeps.store ho (Nat.lt_succ_self _))) h
 | .call f xs ys::D,u,X,X',y,hf,h=>by
   simp only[leaveE] at h⊢;split at h
   ·rename_i hd;rw[hfr _ _ _ _ _ _ _ m ob hd hf];exact leave_frame hk hfr (hf.keeps (hk _ _ _ _ _ _ _ hd)) h
   ·rename_i hd;rw[hfr _ _ _ _ _ _ _ m ob hd hf];exact leave_frame hk hfr (hf.keeps (hk _ _ _ _ _ _ _ hd)) h
   ·cases h
theorem setLoop_frame{k:Nat}{st:LoopState}{p:Option Jump}(hf:Free X m)(h:setLoop X k st p=some X'):setLoop (X.add m ob) k st p=some (X'.add m ob):=by
 unfold setLoop at h⊢;split at h<;>try(cases h;done)
 rename_i o ho;simp only[(add_get hf ho).1];split at h<;>cases h
 rw[add_set hf ho]
theorem setLoop_keeps{k:Nat}{st:LoopState}{p:Option Jump}(h:setLoop X k st p=some X'):Keeps X X':=by
 unfold setLoop at h;split at h<;>try(cases h;done)
 rename_i o ho;split at h<;>cases h
 rename_i hs;obtain⟨_,_,_,_,_,_,_,_,_,_,_,rfl⟩:=setSt_spec hs;exact Keeps.store ho (Nat.lt_succ_self _)
theorem endRound_keeps{k:Nat}{D:List SD}{st:LoopState}{j:Jump}{b:Bool}{y:Out}(h:endRound D X k st j b=some (y,X')):KeepsD X X'∧X'.dfs=D:=by
 unfold endRound at h;split at h<;>cases h
 rename_i hs;exact⟨(setLoop_keeps hs).toD.reD _,rfl⟩
theorem endRound_frame{k:Nat}{D:List SD}{st:LoopState}{j:Jump}{b:Bool}{y:Out}(hf:Free X m)(h:endRound D X k st j b=some (y,X')):endRound D (X.add m ob) k st j b=some (y,X'.add m ob):=by
 unfold endRound at h⊢;split at h<;>cases h
 rename_i hs;rw[setLoop_frame hf hs];rfl
theorem round_keeps{ev:Code→Tr SV→XW→R}(hek:∀c F X ex F' X',ev c F X=some (ex,F',X')→KeepsD X X'){k N:Nat}{F:Tr SV}{ps:Array Tmp}{az body:Code}{args:List SV}{y:Out}(h:roundE ev k N F ps az body args X=some (y,X')):Keeps X X':=by
 unfold roundE at h;cases hlen:Nat.beq args.length ps.size with
 |false=>simp[hlen] at h
 |true=>
 simp only[hlen,cond_true] at h;split at h<;>try(cases h;done)
 rename_i F1 X1 ha;split at h<;>try(cases h;done)
 rename_i o1 ho1;cases hr:isReady o1 with
 |false=>simp[hr] at h
 |true=>
 simp only[hr,cond_true] at h;split at h<;>try(cases h;done)
 rename_i X2 hb;have k1:=((KeepsD.reD' (l:=[]) (hek _ _ _ _ _ _ ha)).trans (setLoop_keeps hb).toD);split at h
 ·rename_i hbody;obtain⟨k2,k3⟩:=endRound_keeps h;exact((k1.trans (hek _ _ _ _ _ _ hbody)).trans k2).to k3
 ·rename_i hbody;obtain⟨k2,k3⟩:=endRound_keeps h;exact((k1.trans (hek _ _ _ _ _ _ hbody)).trans k2).to k3
 ·rename_i hbody;obtain⟨k2,k3⟩:=endRound_keeps h;exact((k1.trans (hek _ _ _ _ _ _ hbody)).trans k2).to k3
 ·cases h
theorem round_frame{ev:Code→Tr SV→XW→R}(hek:∀c F X ex F' X',ev c F X=some (ex,F',X')→KeepsD X X')(hef:∀c F X ex F' X',Free X m→ev c F X=some (ex,F',X')→ev c F (X.add m ob)=some (ex,F',X'.add m ob))
 {k N:Nat}{F:Tr SV}{ps:Array Tmp}{az body:Code}{args:List SV}{y:Out}(hf:Free X m)(h:roundE ev k N F ps az body args X=some (y,X')):roundE ev k N F ps az body args (X.add m ob)=some (y,X'.add m ob):=by
 unfold roundE at h⊢;cases hlen:Nat.beq args.length ps.size with
 |false=>simp[hlen] at h
 |true=>
 simp only[hlen,cond_true] at h⊢;split at h<;>try(cases h;done)
 rename_i F1 X1 ha;have e1:ev az (puts N F ps.toList args) {X.add m ob with dfs:=[]}=some (.nm,F1,X1.add m ob):=hef az _ {X with dfs:=[]} _ _ _ (hf.reD []) ha;have hf1:Free X1 m:=(hf.reD []).kD (hek _ _ _ _ _ _ ha);simp only[e1];split at h<;>try(cases h;done)
 rename_i o1 ho1;simp only[(add_get hf1 ho1).1];cases hr:isReady o1 with
 |false=>simp[hr] at h
 |true=>
 simp only[hr,cond_true] at h⊢;split at h<;>try(cases h;done)
 rename_i X2 hb;have hf2:Free X2 m:=hf1.keeps (setLoop_keeps hb);simp only[setLoop_frame hf1 hb];split at h
 ·rename_i hbody;simp only[hef _ _ _ _ _ _ hf2 hbody];exact endRound_frame (hf2.kD (hek _ _ _ _ _ _ hbody)) h
 ·rename_i hbody;simp only[hef _ _ _ _ _ _ hf2 hbody];exact endRound_frame (hf2.kD (hek _ _ _ _ _ _ hbody)) h
 ·rename_i hbody;simp only[hef _ _ _ _ _ _ hf2 hbody];exact endRound_frame (hf2.kD (hek _ _ _ _ _ _ hbody)) h
 ·cases h
theorem evOpsD_frame{N:Nat}:∀{l:List Oper} {F F':Tr SV} {X X':XW} {u u':Mode},Free X m→evOpsD P N l F X u=some (F',X',u')→evOpsD P N l F (X.add m ob) u=some (F',X'.add m ob,u')
 | [],_,_,_,_,_,_,_,h=>by simp only[evOpsD,Option.some.injEq,Prod.mk.injEq] at h⊢;obtain⟨rfl,rfl,rfl⟩:=h;exact⟨rfl,rfl,rfl⟩
 |o::l,F,F',X,X',u,u',hf,h=>by
  simp only[evOpsD] at h⊢;split at h<;>try(cases h;done)
  rename_i hg
  try simp only[hg]
  cases hr:isRec o.op with
  |true=>rw[hr] at h;exact evOpsD_frame hf h
  |false=>
   rw[hr] at h;simp only[cond_false] at h⊢;split at h<;>try(cases h;done)
   rename_i vals hl;have hl':looks (X.add m ob).ng F o.op.operands.toList=some vals:=hl;rw[hl'];split at h<;>try(cases h;done)
   rename_i hs;simp only[sem_frame hf hs];exact evOpsD_frame (hf.keeps (sem_keeps hs)) h
theorem codeD_frame{N:Nat}{ev:Code→Tr SV→XW→R}(hek:∀c F X ex F' X',ev c F X=some (ex,F',X')→KeepsD X X')(hef:∀c F X ex F' X',Free X m→ev c F X=some (ex,F',X')→ev c F (X.add m ob)=some (ex,F',X'.add m ob)):
 ∀(c:Code) (F:Tr SV) (X:XW) (u:Mode) (ex:Ex) (F':Tr SV) (X':XW) (u':Mode),Free X m→evCD P N ev c F X u=some (ex,F',X',u')→evCD P N ev c F (X.add m ob) u=some (ex,F',X'.add m ob,u'):=by
 have plain:∀(c:Code) (F:Tr SV) (X:XW) (u:Mode) (ex:Ex) (F':Tr SV) (X':XW) (u':Mode),Free X m→(match ev c F X with|some (ex,F,X)=>some (ex,F,X,u)|none=>none)=some (ex,F',X',u')→
  (match ev c F (X.add m ob) with|some (ex,F,X)=>some (ex,F,X,u)|none=>none)=some (ex,F',X'.add m ob,u'):=by
  intro c F X u ex F' X' u' hf h;split at h<;>cases h
  rename_i he;rw[hef _ _ _ _ _ _ hf he]
 intro c
 induction c with
 |seq a b iha ihb=>
  intro F X u ex F' X' u' hf h;simp only[evCD] at h⊢;split at h
  ·rename_i h1;rw[iha _ _ _ _ _ _ _ hf h1];exact ihb _ _ _ _ _ _ _ (hf.kD (codeD_keeps hek _ _ _ _ _ _ _ _ h1)) h
  ·rename_i hne;rw[iha _ _ _ _ _ _ _ hf h];cases ex with
   |nm=>exact absurd h (hne F' X' u')
   |_=>rfl
 |cond c a b iha ihb=>
  intro F X u ex F' X' u' hf h;simp only[evCD] at h⊢;split at h<;>try(cases h;done)
  rename_i z hz;have hz':look (X.add m ob).ng F c=some z:=hz;simp only[hz'];split at h
  ·rename_i hb;rw[asB_frame (m:=m) (ob:=ob) hb];exact iha _ _ _ _ _ _ _ (hf.keeps (asB_keeps hb)) h
  ·rename_i hb;rw[asB_frame (m:=m) (ob:=ob) hb];exact ihb _ _ _ _ _ _ _ (hf.keeps (asB_keeps hb)) h
  ·cases h
 |region id ops d=>
  intro F X u ex F' X' u' hf h;cases d with
  |true=>exact plain _ _ _ _ _ _ _ _ hf h
  |false=>
   simp only[evCD] at h⊢;cases hr:hasRec ops.toList with
   |true=>
    rw[hr] at h;simp only[cond_true] at h⊢;split at h<;>cases h
    rename_i he;rw[evOpsD_frame hf he]
   |false=>rw[hr] at h;exact plain _ _ _ _ _ _ _ _ hf h
 |_=>intro F X u ex F' X' u' hf h;exact plain _ _ _ _ _ _ _ _ hf h
end
theorem nat_frame{m:Nat}{ob:Ob}{X:XW}(hf:Free X m){k:NK}{args:List SV}{z:SV}(h:natE k args X=some z):natE k args (X.add m ob)=some z:=by
 unfold natE at h⊢;split at h
 ·exact h
 ·exact h
 ·split at h<;>try(cases h;done)
  rename_i o ho;simp only[(add_get hf ho).1];exact h
 ·exact h
 ·exact h
 ·cases h
theorem noDfs_spec{X:XW}(h:noDfs X=true):X.dfs=[]:=by
 unfold noDfs at h;split at h
 ·assumption
 ·cases h
structure EvOK (P:Program) (xf:XF P) (callf:CallF) (lf:Nat):Prop where
 good:∀c F X ex F' X',codeOK P xf.ord false c=true→bodyE xf callf lf c F X=some (ex,F',X')→Pc X'→CodeGood P none xf.fn.ntmps c F X ex F' X'
 keeps:∀c F X ex F' X',bodyE xf callf lf c F X=some (ex,F',X')→KeepsD X X'
 frame:∀m ob c F X ex F' X',Free X m→bodyE xf callf lf c F X=some (ex,F',X')→bodyE xf callf lf c F (X.add m ob)=some (ex,F',X'.add m ob)
theorem evOK(hm:P.follows .mixedOrders=true)(xf:XF P){callf:CallF}(lf:Nat)(hcall:CallOK P callf)(hc:KeepsOK callf)(hfr:FrameOK callf):EvOK P xf callf lf:=
 ⟨fun c F X ex F' X' hok h hp=>code_good callf hcall hc hfr hm (rd:=none) (jump_good callf hcall hc hfr hm lf) c F X ex F' X' hok h hp,
  fun c F X ex F' X' h=>code_keeps hc (jump_keeps hc lf) c F X ex F' X' h,
  fun _ _ c F X ex F' X' hf h=>code_frame hfr hc (jump_frame hfr hc lf) (jump_keeps hc lf) c F X ex F' X' hf h⟩
structure EvsOK (P:Program) (e:Evs):Prop where
 call:CallOK P e.call
 keeps:KeepsOK e.call
 frame:FrameOK e.call
 dcall:DCallOK P e.dcall
 dkeeps:DKeeps e.dcall
 dframe:DFrameOK e.dcall
theorem finE_spec{dcall:DCallF}{fn:Func}{r:R}{y:Out}{X':XW}(h:finE P dcall fn r=some (y,X')):∃ex F X u,r=some (ex,F,X)∧leaveE P dcall fn F X.dfs u {X with dfs:=[]}=some (y,X')∧
 ((ex= .nm∧u= .ret)∨(ex= .ret∧u= .ret)∨∃ch,ex= .pan ch∧u= .pan ch):=by
 unfold finE at h;split at h
 ·exact⟨_,_,_,_,rfl,h,.inl ⟨rfl,rfl⟩⟩
 ·exact⟨_,_,_,_,rfl,h,.inr (.inl ⟨rfl,rfl⟩)⟩
 ·exact⟨_,_,_,_,rfl,h,.inr (.inr ⟨_,rfl,rfl⟩)⟩
 ·cases h
theorem finD_spec{fn:Func}{D:List SD}{r:RD}{y:Out}{u':Mode}{X':XW}(h:finD P fn D r=some (y,u',X')):∃ex F X,r=some (ex,F,X,u')∧X.dfs=[]∧X'={X with dfs:=D}∧
 (((ex= .nm∨ex= .ret)∧∃ys,resultsE P F X fn.results.toList=some ys∧y= .ret (result1 ys))∨∃ch,ex= .pan ch∧y= .pan ch):=by
 unfold finD at h;split at h
 ·rename_i F X u;cases hd:noDfs X with
  |false=>simp[hd] at h
  |true=>
   simp only[hd,cond_true] at h;split at h<;>cases h
   exact⟨_,_,_,rfl,noDfs_spec hd,rfl,.inl ⟨.inl rfl,_,by assumption,rfl⟩⟩
 ·rename_i F X u;cases hd:noDfs X with
  |false=>simp[hd] at h
  |true=>
   simp only[hd,cond_true] at h;split at h<;>cases h
   exact⟨_,_,_,rfl,noDfs_spec hd,rfl,.inl ⟨.inr rfl,_,by assumption,rfl⟩⟩
 ·rename_i ch F X u;cases hd:noDfs X with
  |false=>simp[hd] at h
  |true=>
   simp only[hd,cond_true] at h;cases h;exact⟨_,_,_,rfl,noDfs_spec hd,rfl,.inr ⟨_,rfl,rfl⟩⟩
 ·cases h
theorem isFn_of(xf:XF P){f:FuncId}(hf:xf.f=f):P.funcs[f]?=some xf.fn∧xf.fn.body.isSome=true∧xf.fn.name≠"runtime.NumGoroutine"∧xf.fn.body=some (xf.fn.body.getD .skip):=by
 refine⟨by rw[← hf];exact xf.isFn,xf.isBody,by simpa using xf.isPlain,?_⟩
 have:=xf.isBody
 cases hb:xf.fn.body with
 |none=>rw[hb] at this;cases this
 |some c=>rfl
theorem goE_spec{e:Evs}{xf:XF P}{lf:Nat}{f:FuncId}{args:List SV}{X X':XW}{y:Out}(h:goE e xf lf f args X=some (y,X')):xf.f=f∧args.length≤xf.fn.ntmps∧
 ∃X1,finE P e.dcall xf.fn (bodyE xf e.call lf (xf.fn.body.getD .skip) (storeN .nil 0 args) {X with dfs:=[]})=some (y,X1)∧X'={X1 with dfs:=X.dfs}:=by
 unfold goE at h;cases h1:Nat.beq xf.f f with
 |false=>simp[h1] at h
 |true=>
  cases h2:Nat.ble args.length xf.fn.ntmps with
  |false=>simp[h1,h2] at h
  |true=>
   simp only[h1,h2,Bool.and_self,cond_true] at h;unfold withD at h;split at h<;>cases h
   exact⟨Nat.eq_of_beq_eq_true h1,Nat.le_of_ble_eq_true h2,_,by assumption,rfl⟩
theorem go_keeps{e:Evs}(he:EvsOK P e)(hm:P.follows .mixedOrders=true){xf:XF P}{lf:Nat}{f:FuncId}{args:List SV}{X X':XW}{y:Out}(h:goE e xf lf f args X=some (y,X')):Keeps X X':=by
 obtain⟨_,_,X1,hfin,rfl⟩:=goE_spec h;obtain⟨ex,F,X2,u,hev,hlv,_⟩:=finE_spec hfin;have ok:=evOK hm xf lf he.call he.keeps he.frame;have k1:=KeepsD.reD' (l:=[]) (ok.keeps _ _ _ _ _ _ hev);have k2:=(k1.reD []).trans (leave_keeps he.dkeeps hlv).toD;exact(k2.reD _).to rfl
theorem go_good{e:Evs}(he:EvsOK P e)(hm:P.follows .mixedOrders=true){xf:XF P}{lf:Nat}{f:FuncId}{args:List SV}{X X':XW}{y:Out}(h:goE e xf lf f args X=some (y,X'))(hp:Pc X'):
 ∀B w0 E w argv,Emb P B w0 X E w→DenL E args argv→CalIn P E (.ent f) argv w (RetPost P B w0 E y X'):=by
 obtain⟨hf,hlen,X1,hfin,rfl⟩:=goE_spec h;obtain⟨ex,F,X2,u,hev,hlv,hex⟩:=finE_spec hfin;have ok:=evOK hm xf lf he.call he.keeps he.frame;obtain⟨h1,h2,h3,h4⟩:=isFn_of xf hf;have hp1:Pc X1:=hp;have hp2:Pc X2:=(leave_keeps he.dkeeps hlv).pc hp1;obtain⟨_,k⟩:=ok.good _ _ _ _ _ _ xf.isOK hev hp2;intro B w0 E w argv hE hd;refine⟨xf.fn,h1,h2,h3,callsIn_of_wp_marks h1 h4 trivial ?_⟩;refine k none B w0 E [] _ w _ (hE.reD []) ⟨rfl,tmpsRel_init hd hlen⟩ rfl rfl ?_;intro E' ds' a' w' ee a1 a2 a3 a4 a5
 have fin:∀um,ModeRel E' u um→LeavesInM (wideR none) 0 P xf.fn a'.tmps (RetPost P B w0 E y {X1 with dfs:=X.dfs}) a'.defers um w':=fun um hum=>by
  rw[a2.1];refine leave_good he.dcall he.dkeeps (N:=xf.fn.ntmps) hp1 _ u _ E' ds' ds' a' w' um hlv (a4.reD _) a2 a3 hum ?_;intro E2 e2 w2 b1 b2 b3;refine⟨E2,a1.trans b1,b2.reD _,?_⟩;cases y with
  |ret z=>exact b3
  |pan ch=>exact b3
 rcases hex with⟨rfl,rfl⟩|⟨rfl,rfl⟩|⟨ch,rfl,rfl⟩
 ·cases a5;exact fin .returning rfl
 ·cases a5;exact fin .returning rfl
 ·obtain⟨p,hp',rfl⟩:=a5;exact fin (.panicking p) ⟨p,hp',rfl⟩
theorem go_frame{e:Evs}(he:EvsOK P e)(hm:P.follows .mixedOrders=true){xf:XF P}{lf:Nat}{f:FuncId}{args:List SV}{X X':XW}{y:Out}{m:Nat}{ob:Ob}(hf:Free X m)(h:goE e xf lf f args X=some (y,X')):goE e xf lf f args (X.add m ob)=some (y,X'.add m ob):=by
 have h0:=h;obtain⟨hff,hlen,X1,hfin,rfl⟩:=goE_spec h;obtain⟨ex,F,X2,u,hev,hlv,hex⟩:=finE_spec hfin;have ok:=evOK hm xf lf he.call he.keeps he.frame;have e1:=ok.frame m ob _ _ _ _ _ _ (hf.reD []) hev;have hf2:Free X2 m:=(hf.reD []).kD (ok.keeps _ _ _ _ _ _ hev);have e2:=leave_frame (ob:=ob) he.dkeeps he.dframe (hf2.reD []) hlv;unfold goE;have b1:Nat.beq xf.f f=true:=by simp[hff]
 have b2:Nat.ble args.length xf.fn.ntmps=true:=by rw[Nat.ble_eq];exact hlen
 rw[b1,b2];simp only[Bool.and_self,cond_true];rw[show({X.add m ob with dfs:=[]}:XW)=({X with dfs:=[]}:XW).add m ob from rfl,e1]
 have e3:finE P e.dcall xf.fn (some (ex,F,X2.add m ob))=some (y,X1.add m ob):=by
  rcases hex with⟨rfl,rfl⟩|⟨rfl,rfl⟩|⟨ch,rfl,rfl⟩<;>exact e2
 rw[e3];rfl
theorem evF_sound(tab:Tr (XE P))(lf:Nat)(hm:P.follows .mixedOrders=true):∀fuel,EvsOK P (evF P tab lf fuel)
 |0=>⟨fun _ _ _ _ _ h=>by simp[evF] at h,fun _ _ _ _ _ h=>by simp[evF] at h,fun _ _ _ _ _ _ _ h=>by simp[evF] at h,fun _ _ _ _ _ _ _ h=>by simp[evF] at h,fun _ _ _ _ _ _ _ h=>by simp[evF] at h,fun _ _ _ _ _ _ _ _ _ h=>by simp[evF] at h⟩
 |fuel+1=>by
  have he:=evF_sound tab lf hm fuel;generalize hih:evF P tab lf fuel=ih at he
  have hcall:∀c args X,(evF P tab lf (fuel+1)).call c args X=match c with
   | .fn f=>(match tab.get f with
     |some (.fn xf)=>goE ih xf lf f args X
     |some (.nat xn)=>bif Nat.beq xn.f f then(match natE xn.k args X with|some y=>some (.ret y,X)|none=>none) else none
     |none=>none)
   | .ent f=>(match tab.get f with
     |some (.fn xf)=>goE ih xf lf f args X
     |_=>none)
   | .yld k=>(match X.objs.get k with
     |some o=>match o.sp with
      | .loop _ _ ord me N F ps a c _=>roundE (evC P ih.call ord me (some k) N lf (jumpE P ih.call ord me (some k) N lf lf)) k N F ps a c args X
      |_=>none
     |none=>none):=fun c args X=>by rw[← hih];cases c<;>rfl
  have hdcall:∀f args u X,(evF P tab lf (fuel+1)).dcall f args u X=match tab.get f with
   |some (.fn xf)=>bif Nat.beq xf.f f&&Nat.ble args.length xf.fn.ntmps then finD P xf.fn X.dfs (evCD P xf.fn.ntmps (bodyE xf ih.call lf) (xf.fn.body.getD .skip) (storeN .nil 0 args) {X with dfs:=[]} u) else none
   |_=>none:=fun f args u X=>by rw[← hih];rfl
  have rk:∀{ord:Nat→Hint} {me:FuncId} {k N:Nat},∀c F X ex F' X',evC P ih.call ord me (some k) N lf (jumpE P ih.call ord me (some k) N lf lf) c F X=some (ex,F',X')→KeepsD X X':=fun c F X ex F' X' h=>code_keeps he.keeps (jump_keeps he.keeps lf) c F X ex F' X' h
  have dspec:∀{f args u X y u' X'},(evF P tab lf (fuel+1)).dcall f args u X=some (y,u',X')→∃xf:XF P,tab.get f=some (.fn xf)∧xf.f=f∧args.length≤xf.fn.ntmps∧
   finD P xf.fn X.dfs (evCD P xf.fn.ntmps (bodyE xf ih.call lf) (xf.fn.body.getD .skip) (storeN .nil 0 args) {X with dfs:=[]} u)=some (y,u',X'):=by
   intro f args u X y u' X' h;rw[hdcall] at h;split at h<;>try(cases h;done)
   rename_i xf hxf;cases h1:Nat.beq xf.f f with
   |false=>simp[h1] at h
   |true=>
    cases h2:Nat.ble args.length xf.fn.ntmps with
    |false=>simp[h1,h2] at h
    |true=>
     simp only[h1,h2,Bool.and_self,cond_true] at h;exact⟨xf,hxf,Nat.eq_of_beq_eq_true h1,Nat.le_of_ble_eq_true h2,h⟩
  have keeps:KeepsOK (evF P tab lf (fuel+1)).call:=by
   intro c args X y X' h;rw[hcall] at h;cases c with
   |fn f=>
    simp only at h;split at h
    ·exact go_keeps he hm h
    ·rename_i xn _;cases hb:Nat.beq xn.f f with
     |false=>simp[hb] at h
     |true=>
      simp only[hb,cond_true] at h;split at h<;>cases h
      exact Keeps.refl _
    ·cases h
   |ent f=>
    simp only at h;split at h
    ·exact go_keeps he hm h
    ·cases h
   |yld k=>
    simp only at h;split at h<;>try(cases h;done)
    split at h<;>try(cases h;done)
    exact round_keeps rk h
  refine⟨fun c args X y X' h hp=>?_,keeps,fun c args X y X' m ob h hf=>?_,fun f args u X y u' X' h hp=>?_,fun f args u X y u' X' h=>?_,fun f args u X y u' X' m ob h hf=>?_⟩
  ·refine⟨(keeps _ _ _ _ _ h).pc hp,?_⟩;rw[hcall] at h;cases c with
   |fn f=>
    simp only at h;split at h
    ·intro B w0 E w argv hE hd;exact .inl (go_good he hm h hp B w0 E w argv hE hd)
    ·rename_i xn _;cases hb:Nat.beq xn.f f with
     |false=>simp[hb] at h
     |true=>
      simp only[hb,cond_true] at h;split at h<;>cases h
      rename_i z hz;intro B w0 E w argv hE hd;obtain⟨v,hr,hv⟩:=nat_yes hE hd hz;have hfe:=Nat.eq_of_beq_eq_true hb;refine .inr ⟨v,w,?_,E,Le.refl _,hE,v,rfl,hv⟩;rw[run_callFunc_extern (by rw[← hfe];exact xn.isFn) xn.isPlain xn.noBody xn.noNext xn.isK,hr];rfl
    ·cases h
   |ent f=>
    simp only at h;split at h
    ·exact go_good he hm h hp
    ·cases h
   |yld k=>
    simp only at h;split at h<;>try(cases h;done)
    rename_i o ho;split at h<;>try(cases h;done)
    rename_i hs;refine(round_good (fun c F X ex F' X' hok h hp=>code_good ih.call he.call he.keeps he.frame hm (rd:=some k) (jump_good ih.call he.call he.keeps he.frame hm lf) c F X ex F' X' hok h hp) rk ho hs h hp).2
  ·rw[hcall] at h⊢;cases c with
   |fn f=>
    simp only at h⊢;split at h
    ·exact go_frame he hm hf h
    ·rename_i xn _;cases hb:Nat.beq xn.f f with
     |false=>simp[hb] at h
     |true=>
      simp only[hb,cond_true] at h⊢;split at h<;>cases h
      rename_i z hz;rw[nat_frame hf hz]
    ·cases h
   |ent f=>
    simp only at h⊢;split at h
    ·exact go_frame he hm hf h
    ·cases h
   |yld k=>
    simp only at h⊢;split at h<;>try(cases h;done)
    rename_i o ho;simp only[(add_get hf ho).1];split at h<;>try(cases h;done)
    exact round_frame rk (fun c F X ex F' X' hf h=>code_frame he.frame he.keeps (jump_frame he.frame he.keeps lf) (jump_keeps he.keeps lf) c F X ex F' X' hf h) hf h
  ·obtain⟨xf,hxf,hff,hlen,hfin⟩:=dspec h;obtain⟨ex,F,X2,hev,hd2,rfl,hex⟩:=finD_spec hfin;have ok:=evOK hm xf lf he.call he.keeps he.frame;obtain⟨h1,h2,h3,h4⟩:=isFn_of xf hff;refine⟨⟨xf.fn,h1,h2,h3⟩,fun B w0 E w argv m hE hd hM=>?_⟩;have hp2:Pc X2:=hp;have kd:=codeD_good ok.good ok.keeps _ _ _ _ _ _ _ _ xf.isOK hev hp2;refine callsDIn_of_wpSIn h1 h4 trivial fun c0 cs hc0=>?_
   have hc0':c0={c0 with mode:=m}:=by subst hc0;rfl
   have key:=kd B w0 E [] {tmps:=argv.toArray++Array.replicate (xf.fn.ntmps-argv.toArray.size) undef,defers:=[]} w m c0 cs
    (fun e a' m' w'=>bodyPostS P xf.fn c0 cs (fun e m' w'=>∃E',Le E E'∧Emb P B w0 {X2 with dfs:=X.dfs} E' w'∧ModeRel E' u' m'∧OutRel E' y e) e a' ({c0 with mode:=m'}::cs) w') (hE.reD []) ⟨rfl,tmpsRel_init hd hlen⟩ rfl hM ?_
   ·rw[← hc0'] at key;intro fr k x1 x2 x3 x4;obtain⟨e,a2,cs2,w2,l,⟨m2,rfl,q⟩,r⟩:=key fr k x1 x2 x3 x4;exact⟨e,a2,_,w2,l,q,r⟩
   ·intro E' ds' a' w' e m' g1 g2 g3 g4 g5 g6;rw[hd2] at g3;have hdn:a'.defers=[]:=by rw[g2.1];exact g3
    rcases hex with⟨hex,ys,hys,rfl⟩|⟨ch,rfl,rfl⟩
    ·obtain⟨v,hr,hv⟩:=results_sound (fn:=xf.fn) g4 g2 hys;rcases hex with rfl|rfl
     ·cases g6;exact⟨hdn,m',rfl,v,hr,E',g1,g4.reD _,g5,v,rfl,hv⟩
     ·cases g6;exact⟨hdn,m',rfl,v,hr,E',g1,g4.reD _,g5,v,rfl,hv⟩
    ·obtain⟨p,hp',rfl⟩:=g6;exact⟨hdn,m',rfl,E',g1,g4.reD _,g5,p,rfl,hp'⟩
  ·obtain⟨xf,hxf,hff,hlen,hfin⟩:=dspec h;obtain⟨ex,F,X2,hev,hd2,rfl,hex⟩:=finD_spec hfin;have ok:=evOK hm xf lf he.call he.keeps he.frame;have k1:=KeepsD.reD' (l:=[]) (codeD_keeps ok.keeps _ _ _ _ _ _ _ _ hev);exact(k1.reD _).to rfl
  ·obtain⟨xf,hxf,hff,hlen,hfin⟩:=dspec h;obtain⟨ex,F,X2,hev,hd2,rfl,hex⟩:=finD_spec hfin;have ok:=evOK hm xf lf he.call he.keeps he.frame;have e1:=codeD_frame ok.keeps (ok.frame m ob) _ _ _ _ _ _ _ _ (hf.reD []) hev;have hf2:Free X2 m:=(hf.reD []).kD (codeD_keeps ok.keeps _ _ _ _ _ _ _ _ hev);rw[hdcall,hxf];have b1:Nat.beq xf.f f=true:=by simp[hff]
   have b2:Nat.ble args.length xf.fn.ntmps=true:=by rw[Nat.ble_eq];exact hlen
   simp only[b1,b2,Bool.and_self,cond_true];rw[show({X.add m ob with dfs:=[]}:XW)=({X with dfs:=[]}:XW).add m ob from rfl,e1];have hn:noDfs (X2.add m ob)=true:=by show noDfs X2=true;unfold noDfs;rw[hd2]
   rcases hex with⟨hex,ys,hys,rfl⟩|⟨ch,rfl,rfl⟩
   ·rcases hex with rfl|rfl
    ·simp only[finD,hn,cond_true,resultsE_frame hf2 hys];rfl
    ·simp only[finD,hn,cond_true,resultsE_frame hf2 hys];rfl
   ·simp only[finD,hn,cond_true];rfl
def Start(ng:Nat)(objs:Hp)(w:World):Prop:=
 ng≤w.heap.size∧∀k o,objs.get k=some o→k<ng∧o.ro=true∧o.sp= .cells∧∀P E,ObjRel P E o w.heap[k]? 0
theorem emb_start{ng:Nat}{objs:Hp}{orc:List Bool}{w:World}(h:Start ng objs w):
 Emb P w.heap.size w {ng,next:=ng,objs,orc,pc:=[],dfs:=[]} {f:=fun k=>if k<ng then some (k,0) else none,n:=0} w:=by
 refine⟨rfl,rfl,rfl,Nat.le_refl _,fun _ _=>rfl,fun k o hk=>?_,fun k k' o o' id c c' hk hk' he he'=>?_,fun k hk=>?_,fun g hg=>⟨0,if_pos hg⟩,Nat.zero_le _⟩
 ·obtain⟨h1,h2,h4,h3⟩:=h.2 k o hk
  exact⟨k,0,if_pos h1,h3 _ _,fun h=>by
   rcases h with h|h
   ·rw[h2] at h;cases h
   ·exact absurd h4 h⟩
 ·obtain⟨h1,_⟩:=h.2 k o hk;obtain⟨h1',_⟩:=h.2 k' o' hk';have he:=(if_pos h1).symm.trans he;have he':=(if_pos h1').symm.trans he';cases he;cases he';rfl
 ·have hk':ng≤k:=hk;exact if_neg (by omega)
theorem Emb.below{X:XW}(h:Emb P w0.heap.size w0 X E w):RowKit.Below w0.heap.size w0 w:=⟨h.os,h.tape,h.output,h.base,h.old⟩
theorem says_true{tab:Tr (XE P)}{lf fuel:Nat}(hm:P.follows .mixedOrders=true){f:FuncId}{ng:Nat}{objs:Hp}{args:List SV}{argv:List Value}{w:World}
 (hst:Start ng objs w)(hargs:∀E,DenL E args argv)(h:saysTrue ((evF P tab lf fuel).call (.ent f) args {ng,next:=ng,objs,orc:=[],pc:=[],dfs:=[]})=true):
 Calls P f argv.toArray w fun e w'=>e= .returned (.bool true)∧RowKit.Below w.heap.size w w':=by
 unfold saysTrue at h;split at h<;>try(cases h;done)
 rename_i X' hev;obtain⟨_,k⟩:=(evF_sound tab lf hm fuel).call _ _ _ _ _ hev (fun p hp=>by cases hp);obtain⟨_,_,_,_,hci⟩:=k _ _ _ _ _ (emb_start hst) (hargs _);refine CallsIn.calls (CallsIn.mono hci ?_) (fun k d h=>by cases h)
 rintro e w' ⟨E',_,hE',v,rfl,hd⟩
 cases hd;exact⟨rfl,hE'.below⟩
end
end Go.Xe
namespace Go.Xe
open Go.ChangeShapes Go.WideShapes Go.ChangeAt Go.RowKit
section
variable{H:Type}{enc:TypeId×Value→H}{P:Program}{W W':World}
theorem trodAll_below(hl:laidOutB P=true)(hb:Below W.heap.size W W'):∀{ts:List TypeId} {vs:List Value} {ds:List (DataW H)} {ps:List MemPlace},(∀t∈ts,P.readableRec t=true∧t<P.types.size)→
 DataW.TrodAll enc P W 0 (fun _=>true) true ts vs ds ps→(∀x∈ps,x.block<W.heap.size)→DataW.TrodAll enc P W' 0 (fun b=>decide (b<W.heap.size)) true ts vs ds ps
 | [],vs,ds,ps,_,h,_=>by
   obtain⟨rfl,rfl,rfl⟩:=trodAll_nil h;exact trodAll_mk0
 |t::ts,vs,ds,ps,ht,h,hlt=>by
  obtain⟨v,vs',d,ds',p,q,rfl,rfl,rfl,h0,h1⟩:=trodAll_cons h
  have:=ht t (List.mem_cons_self ..)
  exact trodAll_cons_mk (Below.trod hl this.1 this.2 h0 hb fun x hx=>hlt x (List.mem_append_left _ hx))
   (trodAll_below hl hb (fun t ht'=>ht t (List.mem_cons_of_mem _ ht')) h1 fun x hx=>hlt x (List.mem_append_right _ hx))
theorem law_end{s:ChangeSpec}{f:Func}{args:Array Value}{ds gs:List (DataW H)}{before:List MemPlace}{t:TypeId}(hW:DataW.Whole enc P f.params.toList s.vars false W args.toList ds gs before)
 (hvars:s.vars=[])(hres:f.resultTypes= #[t])(ht:P.underlying t=some .bool)(hspec:s.fn H (ds++[])={results:=[.lit (.bool true)],args:=ds})
 (hb:Below W.heap.size W W')(hl:laidOutB P=true)(hr:∀t∈f.params.toList,P.readableRec t=true∧t<P.types.size):
 s.post enc P f false true false false W args (.bool true) W':=by
 have hlt:=hW.lt;have hW':=hW;obtain⟨p,q,hA,hV,rfl,hfz,hnd⟩:=hW;rw[hvars] at hV;obtain⟨rfl,rfl⟩:=trodVars_none hV;refine⟨ds,[],p++[],[],p,[],hW',?_,?_,?_,hb.frame _,fun h=>by cases h⟩
 ·rw[hspec,hres];exact trodAll_cons_mk (shut_bool ht _) trodAll_mk0
 ·rw[hspec];exact trodAll_below hl hb hr hA fun x hx=>hlt x (List.mem_append_left _ hx)
 ·rw[hspec,hvars];rfl
end
end Go.Xe
namespace Go.Xe
section
variable{P:Program}{W:World}
end
end Go.Xe
namespace Go.Xe
noncomputable section
def pathF:Nat→Nat→List Bool
 |0,_=>[]
 |f+1,i=>bif Nat.beq i 0 then[] else bif Nat.beq (i%2) 1 then true::pathF f (i/2) else false::pathF f (i/2-1)
def path(i:Nat):List Bool:=pathF (i+1) i
def getP{α:Type}:List Bool→Tr α→Option α:=fun p=>List.rec (motive:=fun _=>Tr α→Option α)
 (fun t=>Tr.rec (motive:=fun _=>Option α) none (fun v _ _ _ _=>v) t)
 (fun b _ ih t=>Tr.rec (motive:=fun _=>Option α) none (fun _ l r _ _=>Bool.rec (motive:=fun _=>Option α) (ih r) (ih l) b) t) p
def putP{α:Type}(x:α):List Bool→Tr α→Tr α:=fun p=>List.rec (motive:=fun _=>Tr α→Tr α)
 (fun t=>Tr.rec (motive:=fun _=>Tr α) (.node (some x) .nil .nil) (fun _ l r _ _=> .node (some x) l r) t)
 (fun b _ ih t=>Bool.rec (motive:=fun _=>Tr α) (Tr.rec (motive:=fun _=>Tr α) (.node none .nil (ih .nil)) (fun v l r _ _=> .node v l (ih r)) t)
   (Tr.rec (motive:=fun _=>Tr α) (.node none (ih .nil) .nil) (fun v l r _ _=> .node v (ih l) r) t) b) p
theorem getP_path{α:Type}:∀(f i:Nat) (t:Tr α),i<f→getP (pathF f i) t=t.get i
 |0,_,_,h=>by omega
 |f+1,i,t,h=>by
  simp only[pathF];cases h0:Nat.beq i 0 with
  |true=>
   simp only[cond_true];cases t with
   |nil=>rfl
   |node v l r=>simp[getP,Tr.get,h0]
  |false=>
   have hi:=Nat.ne_of_beq_eq_false h0;simp only[cond_false];cases h1:Nat.beq (i%2) 1 with
   |true=>
    simp only[cond_true];cases t with
    |nil=>rfl
    |node v l r=>
     have:=getP_path f (i/2) l (by omega)
     simp only[Tr.get,h0,h1,cond_true,cond_false, ← this];rfl
   |false=>
    simp only[cond_false];cases t with
    |nil=>rfl
    |node v l r=>
     have:=getP_path f (i/2-1) r (by omega)
     simp only[Tr.get,h0,h1,cond_false, ← this];rfl
theorem set_path{α:Type}(x:α):∀(f g i:Nat) (t:Tr α),i<f→i<g→putP x (pathF f i) t=Tr.set g t i x
 |0,_,_,_,h,_=>by omega
 |f+1,0,i,t,h,h'=>by omega
 |f+1,g+1,i,t,h,h'=>by
  simp only[pathF];cases h0:Nat.beq i 0 with
  |true=>
   simp only[cond_true];cases t with
   |nil=>simp[putP,Tr.set,h0]
   |node v l r=>simp[putP,Tr.set,h0]
  |false=>
   have hi:=Nat.ne_of_beq_eq_false h0;simp only[cond_false];cases h1:Nat.beq (i%2) 1 with
   |true=>
    simp only[cond_true];cases t with
    |nil=>
     have:=set_path x f g (i/2) .nil (by omega) (by omega)
     simp only[Tr.set,h0,h1,cond_true,cond_false, ← this];rfl
    |node v l r=>
     have:=set_path x f g (i/2) l (by omega) (by omega)
     simp only[Tr.set,h0,h1,cond_true,cond_false, ← this];rfl
   |false=>
    simp only[cond_false];cases t with
    |nil=>
     have:=set_path x f g (i/2-1) .nil (by omega) (by omega)
     simp only[Tr.set,h0,h1,cond_false, ← this];rfl
    |node v l r=>
     have:=set_path x f g (i/2-1) r (by omega) (by omega)
     simp only[Tr.set,h0,h1,cond_false, ← this];rfl
theorem getP_eq{α:Type}(i:Nat)(t:Tr α):getP (path i) t=t.get i:=getP_path _ _ _ (Nat.lt_succ_self i)
theorem putP_eq{α:Type}(i:Nat)(t:Tr α)(x:α):putP x (path i) t=t.put i x:=set_path x _ _ _ _ (Nat.lt_succ_self i) (Nat.lt_succ_self i)
structure KL where
 run:Nat→Tr SV→Option SV
def kLook:Operand→KL
 | .tmp t=>⟨fun _ F=>getP (path t) F⟩
 | .const v=>⟨fun _ _=>some (mkV v)⟩
 | .global g=>⟨fun ng _=>bif Nat.blt g ng then some (.ptr g 0) else none⟩
 | .func f=>⟨fun _ _=>some (.fn (.func f) [] [])⟩
theorem kLook_eq(x:Operand)(ng:Nat)(F:Tr SV):(kLook x).run ng F=look ng F x:=by
 cases x with
 |tmp t=>exact getP_eq t F
 |const v=>rfl
 |global g=>rfl
 |func f=>rfl
def kLooks(l:List Operand):Nat→Tr SV→Option (List SV):=List.rec (motive:=fun _=>Nat→Tr SV→Option (List SV)) (fun _ _=>some [])
 (fun x _ ih ng F=>Option.rec (motive:=fun _=>Option (List SV)) none (fun y=>Option.rec (motive:=fun _=>Option (List SV)) none (fun ys=>some (y::ys)) (ih ng F)) ((kLook x).run ng F)) l
theorem kLooks_eq(ng:Nat)(F:Tr SV):∀l:List Operand,kLooks l ng F=looks ng F l
 | []=>rfl
 |x::xs=>by
  have ih:=kLooks_eq ng F xs;simp only[looks, ← kLook_eq, ← ih];show Option.rec (motive:=fun _=>Option (List SV)) none (fun y=>Option.rec (motive:=fun _=>Option (List SV)) none (fun ys=>some (y::ys)) (kLooks xs ng F)) ((kLook x).run ng F)=_;cases(kLook x).run ng F with
  |none=>rfl
  |some y=>cases kLooks xs ng F<;>rfl
end
end Go.Xe
namespace Go.Xe
noncomputable section
structure KS where
 run:List SV→XW→Option (SV×XW)
def kMove:List SV→XW→Option (SV×XW)
 | [x],X=>some (x,X)
 |_,_=>none
def kOn1(f:SV→XW→Option (SV×XW)):List SV→XW→Option (SV×XW)
 | [x],X=>f x X
 |_,_=>none
def kOn2(f:SV→SV→XW→Option (SV×XW)):List SV→XW→Option (SV×XW)
 | [x,y],X=>f x y X
 |_,_=>none
def kPtr(f:Nat→Nat→XW→Option (SV×XW))(x:SV)(X:XW):Option (SV×XW):=match x with
 | .ptr k off=>f k off X
 |_=>none
def kLoad1(k off:Nat)(X:XW):Option (SV×XW):=match X.objs.get k with
 |some o=>withX X (o.get off)
 |none=>none
def kLoadN(n k off:Nat)(X:XW):Option (SV×XW):=match X.objs.get k with
 |some o=>(match loadN o off n with|some ys=>some (.agg ys,X)|none=>none)
 |none=>none
def obSet(o:Ob)(off:Nat)(cells:List SV):Ob:=match o with
 |⟨ver,ty,n,loose,esz,ro,bf,ov,sp⟩=>force (ver+1) fun v=>⟨v,ty,n,loose,esz,ro,bf,storeN ov off cells,sp⟩
def xwPut(X:XW)(k:Nat)(o:Ob):XW:=match X with
 |⟨ng,next,⟨tr,base⟩,orc,pc,dfs⟩=>⟨ng,next,⟨tr.put k (some o),base⟩,orc,pc,dfs⟩
def kStoreO(n k off:Nat)(y:SV)(X:XW)(o:Ob):Option (SV×XW):=
 bif Nat.beq y.cells.length n&&Nat.ble (off+n) o.n&&!o.ro&&allOne y.cells then some (.val undef,xwPut X k (obSet o off y.cells)) else none
def kStoreP(n k off:Nat)(y:SV)(X:XW):Option (SV×XW):=match X.objs.get k with
 |some o=>kStoreO n k off y X o
 |none=>none
def kStore(n:Nat)(x y:SV)(X:XW):Option (SV×XW):=match x with
 | .ptr k off=>kStoreP n k off y X
 |_=>none
def kFieldAddr(fo k off:Nat)(X:XW):Option (SV×XW):=force (off+fo) fun o=>some (.ptr k o,X)
def kNil(x:SV)(X:XW):Option (SV×XW):=match x with
 | .ptr k off=>some (.ptr k off,X)
 | .fn f a b=>withX X (semNil (.fn f a b))
 |_=>none
def kAtA(n s i k off:Nat)(X:XW):Option (SV×XW):=bif Nat.blt i n then(force (off+i*s) fun o=>some (.ptr k o,X)) else none
def kIxA(n s:Nat)(x ix:SV)(X:XW):Option (SV×XW):=match natOf ix with
 |some i=>(match x with| .ptr k off=>kAtA n s i k off X|_=>none)
 |none=>none
def kIxS(s:Nat)(x ix:SV)(X:XW):Option (SV×XW):=match natOf ix with
 |some i=>(match x with| .sl k off len _ _=>kAtA len s i k off X|_=>none)
 |none=>none
def kExt(i:Nat)(x:SV)(X:XW):Option (SV×XW):=match x with
 | .tup vs=>withX X vs[i]?
 |_=>none
structure KA where
 run:IntKind→Int→IntKind→Int→Option SV
def kEq(k k':IntKind):Bool:=Nat.beq k.ctorIdx k'.ctorIdx
theorem kEq_eq(k k':IntKind):kEq k k'=(k==k'):=by cases k<;>cases k'<;>rfl
def kAr:BinOp→KA
 | .add=>⟨fun k a k' b=>bif kEq k k' then some (forceI (k.wrap (a+b)) fun r=> .int k r) else none⟩
 | .sub=>⟨fun k a k' b=>bif kEq k k' then some (forceI (k.wrap (a-b)) fun r=> .int k r) else none⟩
 | .mul=>⟨fun k a k' b=>bif kEq k k' then some (forceI (k.wrap (a*b)) fun r=> .int k r) else none⟩
 | .quo=>⟨fun k a k' b=>bif kEq k k' then arith .quo k a b else none⟩
 | .rem=>⟨fun k a k' b=>bif kEq k k' then arith .rem k a b else none⟩
 | .and=>⟨fun k a k' b=>bif kEq k k' then arith .and k a b else none⟩
 | .or=>⟨fun k a k' b=>bif kEq k k' then arith .or k a b else none⟩
 | .xor=>⟨fun k a k' b=>bif kEq k k' then arith .xor k a b else none⟩
 | .andNot=>⟨fun k a k' b=>bif kEq k k' then arith .andNot k a b else none⟩
 | .eql=>⟨fun k a k' b=>bif kEq k k' then some (.bool (a==b)) else none⟩
 | .neq=>⟨fun k a k' b=>bif kEq k k' then some (.bool (a != b)) else none⟩
 | .lss=>⟨fun k a k' b=>bif kEq k k' then some (.bool (decide (a<b))) else none⟩
 | .leq=>⟨fun k a k' b=>bif kEq k k' then some (.bool (decide (a≤b))) else none⟩
 | .gtr=>⟨fun k a k' b=>bif kEq k k' then some (.bool (decide (a>b))) else none⟩
 | .geq=>⟨fun k a k' b=>bif kEq k k' then some (.bool (decide (a≥b))) else none⟩
 |op=>⟨fun k a k' b=>intE op k a k' b⟩
theorem kAr_eq(op:BinOp)(k:IntKind)(a:Int)(k':IntKind)(b:Int):(kAr op).run k a k' b=intE op k a k' b:=by
 cases op<;>simp only[kAr,kEq_eq]<;>rfl
section
variable(P:Program)
def kBinI(A:KA)(op:BinOp)(t:TypeId)(k:IntKind)(a:Int)(y:SV):Option SV:=match y with
 | .int k' b=>A.run k a k' b
 |y=>binE P op t (.int k a) y
def kBin(A:KA)(op:BinOp)(t:TypeId)(x y:SV)(X:XW):Option (SV×XW):=match x with
 | .int k a=>withX X (kBinI P A op t k a y)
 |x=>withX X (binE P op t x y)
def kNot(x:SV)(X:XW):Option (SV×XW):=match x with
 | .bool b=>some (.bool (!b),X)
 |x=>withX X (unE .not x)
def kSem(op:Op):KS:=match op with
 | .move _=>⟨kMove⟩
 | .assign _=>⟨kMove⟩
 | .load t _=>(match tyAgg P t,tySize P t with
   |some true,some n=>⟨kOn1 (kPtr (kLoadN n))⟩
   |some false,some _=>⟨kOn1 (kPtr kLoad1)⟩
   |_,_=>⟨fun _ _=>none⟩)
 | .store t _ _=>(match tySize P t with
   |some n=>⟨kOn2 (kStore n)⟩
   |none=>⟨fun _ _=>none⟩)
 | .nilCheck _=>⟨kOn1 kNil⟩
 | .binOp op t _ _ _=>⟨kOn2 (kBin P (kAr op) op t)⟩
 | .unOp .not _ _=>⟨kOn1 kNot⟩
 | .fieldAddr s _ f=>(match fieldOf P s f with
   |some fd=>(match tySize P fd.type with
    |some (_+1)=>⟨kOn1 (kPtr (kFieldAddr fd.offset))⟩
    |_=>⟨fun _ _=>none⟩)
   |none=>⟨fun _ _=>none⟩)
 | .indexAddr t _ _=>(match P.underlying t with
   |some (.array n e)=>(match tySize P e with|some s=>⟨kOn2 (kIxA n s)⟩|none=>⟨fun _ _=>none⟩)
   |some (.slice e)=>(match tySize P e with|some s=>⟨kOn2 (kIxS s)⟩|none=>⟨fun _ _=>none⟩)
   |_=>⟨fun _ _=>none⟩)
 | .extract _ i=>⟨kOn1 (kExt i)⟩
 |op=>⟨fun vals X=>sem P op vals X⟩
end
theorem obSet_eq(o:Ob)(off:Nat)(cells:List SV):obSet o off cells={o with ver:=o.ver+1,ov:=storeN o.ov off cells}:=by
 cases o;simp[obSet,force_eq]
theorem xwPut_eq(X:XW)(k:Nat)(o:Ob):xwPut X k o={X with objs:=X.objs.put k o}:=by
 cases X;rename_i objs _ _ _;cases objs;rfl
theorem kSem_eq(P:Program)(op:Op)(vals:List SV)(X:XW):(kSem P op).run vals X=sem P op vals X:=by
 unfold kSem;split
 ·rcases vals with _|⟨x,_|⟨y,r⟩⟩<;>rfl
 ·rcases vals with _|⟨x,_|⟨y,r⟩⟩<;>rfl
 ·
  rename_i t a
  have hn:∀(h:∀k off,semLoad P t X k off=none),none=sem P (.load t a) vals X:=by
   intro h;rcases vals with _|⟨x,_|⟨y,r⟩⟩<;>first|rfl|(cases x<;>first|rfl|skip)
   rename_i k off;show none=withX X (semLoad P t X k off);rw[h];rfl
  split
  ·rename_i n h1 h2;rcases vals with _|⟨x,_|⟨y,r⟩⟩<;>first|rfl|(cases x<;>first|rfl|skip)
   rename_i k off;show kLoadN n k off X=withX X (semLoad P t X k off);unfold kLoadN semLoad;rw[h1,h2];cases X.objs.get k with
   |none=>rfl
   |some o=>simp only[];cases loadN o off n<;>rfl
  ·rename_i n h1 h2;rcases vals with _|⟨x,_|⟨y,r⟩⟩<;>first|rfl|(cases x<;>first|rfl|skip)
   rename_i k off;show kLoad1 k off X=withX X (semLoad P t X k off);unfold kLoad1 semLoad;rw[h1,h2];cases X.objs.get k<;>rfl
  ·rename_i h1 h2;refine hn fun k off=>?_
   unfold semLoad;cases X.objs.get k with
   |none=>rfl
   |some o=>
    cases ha:tyAgg P t with
    |none=>rfl
    |some b=>
     cases hs:tySize P t with
     |none=>cases b<;>rfl
     |some n=>cases b with
      |true=>exact absurd hs (h1 n ha)
      |false=>exact absurd hs (h2 n ha)
 ·
  rename_i t a b;split
  ·rename_i n h1;rcases vals with _|⟨x,_|⟨y,_|⟨z,r⟩⟩⟩<;>first|rfl|(cases x<;>first|rfl|skip)
   rename_i k off;show kStoreP n k off y X=(match semStore P t X k off y with|some X=>some (.val undef,X)|none=>none);unfold kStoreP semStore;rw[h1];cases X.objs.get k with
   |none=>rfl
   |some o=>
    simp only[kStoreO,obSet_eq,xwPut_eq];cases(Nat.beq y.cells.length n&&Nat.ble (off+n) o.n&&!o.ro&&allOne y.cells)<;>rfl
  ·rename_i h1;rcases vals with _|⟨x,_|⟨y,_|⟨z,r⟩⟩⟩<;>first|rfl|(cases x<;>first|rfl|skip)
   rename_i k off;show none=(match semStore P t X k off y with|some X=>some (SV.val undef,X)|none=>none);unfold semStore;rw[h1];cases X.objs.get k<;>rfl
 ·rcases vals with _|⟨x,_|⟨y,r⟩⟩<;>first|rfl|(cases x<;>rfl)
 ·rename_i op t a b c;rcases vals with _|⟨x,_|⟨y,_|⟨z,r⟩⟩⟩<;>try rfl
  show kBin P (kAr op) op t x y X=withX X (binE P op t x y);cases x<;>try rfl
  cases y<;>try rfl
  show withX X ((kAr op).run _ _ _ _)=_;rw[kAr_eq];rfl
 ·rcases vals with _|⟨x,_|⟨y,r⟩⟩<;>first|rfl|(cases x<;>rfl)
 ·rename_i s a f;split
  ·rename_i fd hf;split
   ·rename_i m hs;rcases vals with _|⟨x,_|⟨y,r⟩⟩<;>first|rfl|(cases x<;>first|rfl|skip)
    rename_i k off;show kFieldAddr fd.offset k off X=withX X (semFieldAddr P s f k off);simp only[kFieldAddr,semFieldAddr,hf,hs,force_eq];rfl
   ·rename_i hs;rcases vals with _|⟨x,_|⟨y,r⟩⟩<;>first|rfl|(cases x<;>first|rfl|skip)
    rename_i k off;show none=withX X (semFieldAddr P s f k off)
    have:semFieldAddr P s f k off=none:=by
     unfold semFieldAddr;simp only[hf]
    rw[this];rfl
  ·rename_i hf;rcases vals with _|⟨x,_|⟨y,r⟩⟩<;>first|rfl|(cases x<;>first|rfl|skip)
   rename_i k off;show none=withX X (semFieldAddr P s f k off);simp only[semFieldAddr,hf];rfl
 ·rename_i t a b;split
  ·rename_i n e hu;split
   ·rename_i s hs;rcases vals with _|⟨x,_|⟨y,_|⟨z,r⟩⟩⟩<;>try rfl
    show kIxA n s x y X=withX X (semIndexAddr P t x y);unfold kIxA semIndexAddr;cases natOf y with
    |none=>rfl
    |some i=>
     simp only[hu];cases x<;>try rfl
     simp only[hs,kAtA,force_eq];cases Nat.blt i n<;>rfl
   ·rename_i hs;rcases vals with _|⟨x,_|⟨y,_|⟨z,r⟩⟩⟩<;>try rfl
    show none=withX X (semIndexAddr P t x y);unfold semIndexAddr;cases natOf y with
    |none=>rfl
    |some i=>
     simp only[hu];cases x<;>try rfl
     simp only[hs];rfl
  ·rename_i e hu;split
   ·rename_i s hs;rcases vals with _|⟨x,_|⟨y,_|⟨z,r⟩⟩⟩<;>try rfl
    show kIxS s x y X=withX X (semIndexAddr P t x y);unfold kIxS semIndexAddr;cases natOf y with
    |none=>rfl
    |some i=>
     simp only[hu];cases x<;>try rfl
     simp only[hs,kAtA,force_eq];rename_i len _ _;cases Nat.blt i len<;>rfl
   ·rename_i hs;rcases vals with _|⟨x,_|⟨y,_|⟨z,r⟩⟩⟩<;>try rfl
    show none=withX X (semIndexAddr P t x y);unfold semIndexAddr;cases natOf y with
    |none=>rfl
    |some i=>
     simp only[hu];cases x<;>try rfl
     simp only[hs];rfl
  ·rename_i h1 h2;rcases vals with _|⟨x,_|⟨y,_|⟨z,r⟩⟩⟩<;>try rfl
   show none=withX X (semIndexAddr P t x y);unfold semIndexAddr;cases natOf y with
   |none=>rfl
   |some i=>
    simp only[];split
    ·rename_i n e k off hu;exact absurd hu (h1 n e)
    ·rename_i e k off len c l hu;exact absurd hu (h2 e)
    ·rfl
 ·rcases vals with _|⟨x,_|⟨y,r⟩⟩<;>first|rfl|(cases x<;>rfl)
 ·rfl
end
end Go.Xe
namespace Go.Xe
noncomputable section
structure KO where
 run:CallF→Tr SV→XW→Option (Option Chain×Tr SV×XW)
structure KP where
 run:Tr SV→SV→Tr SV
structure KW where
 run:CallF→List SV→XW→Option (Out×XW)
structure KG where
 run:Tr SV→XW→Option (Bool×XW)
structure KC where
 run:CallF→JumpF→Tr SV→XW→R
def kPut(N:Nat):Option Tmp→KP
 |some d=>bif Nat.blt d N then⟨fun F y=>putP y (path d) F⟩ else⟨fun F _=>F⟩
 |none=>⟨fun F _=>F⟩
theorem kPut_eq(N:Nat)(d:Option Tmp)(F:Tr SV)(y:SV):(kPut N d).run F y=put N F d y:=by
 cases d with
 |none=>rfl
 |some d=>
  simp only[kPut,put];cases Nat.blt d N with
  |true=>exact putP_eq d F y
  |false=>rfl
def kCallV(callf:CallF)(X:XW):List SV→Option (Out×XW)
 | .fn (.func f) a b::args=>callf (.fn f) (a++args++b) X
 | .yld k::args=>callf (.yld k) args X
 |_=>none
def kCallX(P:Program)(c:Call)(callf:CallF)(vals:List SV)(X:XW):Option (Out×XW):=match calE P c vals X with
 |some (f,args)=>callf f args X
 |none=>none
def kOpO(P:Program)(op:Op):KW:=match op with
 | .call c=>(match c.callee with
   | .builtin b=>bif isPanB b then⟨fun _ vals X=>panE vals X⟩ else⟨fun _ vals X=>retO (bltE P b c.argTypes vals X)⟩
   | .value _=>⟨fun callf vals X=>kCallV callf X vals⟩
   | .invoke _ _=>⟨kCallX P c⟩)
 | .panic _=>⟨fun _ vals X=>panE vals X⟩
 |op=>⟨fun _ vals X=>retO ((kSem P op).run vals X)⟩
theorem kOpO_eq(P:Program)(callf:CallF)(o:Oper)(F:Tr SV)(X:XW):
 evOpO P callf o F X=match kLooks o.op.operands.toList X.ng F with|none=>none|some vals=>(kOpO P o.op).run callf vals X:=by
 unfold evOpO;rw[kLooks_eq];cases looks X.ng F o.op.operands.toList with
 |none=>rfl
 |some vals=>
  simp only[];generalize o.op=op;cases op with
  |call c=>
   cases hc:c.callee with
   |builtin b=>
    simp only[kOpO,hc];cases isPanB b<;>rfl
   |value f=>
    simp only[kOpO,hc,calE];unfold kCallV;split<;>rename_i h
    ·split at h<;>cases h<;>rfl
    ·split at h
     ·cases h
     ·cases h
     ·rename_i h1 h2;split
      ·exact absurd rfl (h1 _ _ _ _)
      ·exact absurd rfl (h2 _ _)
      ·rfl
   |invoke r m=>
    simp only[kOpO,hc];rfl
  |panic x=>rfl
  |_=>exact congrArg retO (kSem_eq P _ vals X).symm
def kAfter(U:KP)(F:Tr SV):Option (Out×XW)→Option (Option Chain×Tr SV×XW)
 |some (.ret y,X)=>some (none,U.run F y,X)
 |some (.pan ch,X)=>some (some ch,F,X)
 |none=>none
def kDo(W:KW)(L:List Operand)(U:KP)(callf:CallF)(F:Tr SV)(X:XW):Option (Option Chain×Tr SV×XW):=match kLooks L X.ng F with
 |none=>none
 |some vals=>kAfter U F (W.run callf vals X)
def kAsk(want:Bool)(y:SV)(X:XW):Option (Bool×XW):=match y with
 | .bool b=>some (bif want then b else !b,X)
 |y=>asW X want y
def kAskO(want:Bool)(X:XW):Option SV→Option (Bool×XW)
 |some y=>kAsk want y X
 |none=>none
def kWant(ops:List Oper)(j:Nat)(want:Bool):KG:=match ops[j]? with
 |some o=>(match o.dst with
  |some d=>⟨fun F X=>kAskO want X (getP (path d) F)⟩
  |none=>⟨fun _ _=>none⟩)
 |none=>⟨fun _ _=>none⟩
theorem kAsk_eq(want:Bool)(y:SV)(X:XW):kAsk want y X=asW X want y:=by
 cases y<;>try rfl
 rename_i b;cases b<;>cases want<;>rfl
theorem kWant_eq(ops:List Oper)(j:Nat)(want:Bool)(F:Tr SV)(X:XW):(kWant ops j want).run F X=wantE ops F X (some (j,want)):=by
 unfold kWant wantE;simp only[];cases ho:ops[j]? with
 |none=>rfl
 |some o=>
  cases h:o.dst with
  |none=>simp only[h]
  |some d=>
   simp only[h,getP_eq];cases F.get d with
   |none=>rfl
   |some y=>exact kAsk_eq want y X
def kIf(D:CallF→Tr SV→XW→Option (Option Chain×Tr SV×XW))(U:KP)(callf:CallF)(F:Tr SV):Option (Bool×XW)→Option (Option Chain×Tr SV×XW)
 |some (true,X)=>D callf F X
 |some (false,X)=>some (none,U.run F (.val undef),X)
 |none=>none
def kGuard(G:KG)(D:CallF→Tr SV→XW→Option (Option Chain×Tr SV×XW))(U:KP)(callf:CallF)(F:Tr SV)(X:XW):Option (Option Chain×Tr SV×XW):=kIf D U callf F (G.run F X)
def kO(P:Program)(N:Nat)(ops:List Oper)(o:Oper):KO:=bif isDefer o.op then⟨fun callf F X=>stepO P callf N ops o F X⟩ else(match o.guard with
 |none=>⟨kDo (kOpO P o.op) o.op.operands.toList (kPut N o.dst)⟩
 |some (j,want)=>⟨kGuard (kWant ops j want) (kDo (kOpO P o.op) o.op.operands.toList (kPut N o.dst)) (kPut N o.dst)⟩)
theorem kO_eq(P:Program)(callf:CallF)(N:Nat)(ops:List Oper)(o:Oper)(F:Tr SV)(X:XW):(kO P N ops o).run callf F X=stepO P callf N ops o F X:=by
 unfold kO;cases hd:isDefer o.op with
 |true=>rfl
 |false=>
  have hdo:∀X,kDo (kOpO P o.op) o.op.operands.toList (kPut N o.dst) callf F X=(match evOpO P callf o F X with
   |some (.ret y,X)=>some (none,put N F o.dst y,X)
   |some (.pan ch,X)=>some (some ch,F,X)
   |none=>none):=by
   intro X;rw[kOpO_eq];unfold kDo;cases kLooks o.op.operands.toList X.ng F with
   |none=>rfl
   |some vals=>
    simp only[];unfold kAfter;split<;>simp only[*,kPut_eq]
  simp only[cond_false];unfold stepO;simp only[hd,cond_false];cases hg:o.guard with
  |none=>
   simp only[wantE];exact hdo X
  |some g=>
   obtain⟨j,want⟩:=g;show kIf _ _ callf F ((kWant ops j want).run F X)=_;rw[kWant_eq];cases wantE ops F X (some (j,want)) with
   |none=>rfl
   |some r=>
    obtain⟨b,X1⟩:=r;cases b with
    |true=>exact hdo X1
    |false=>simp only[kIf,kPut_eq]
def kThen(B:CallF→Tr SV→XW→Option (Option Chain×Tr SV×XW))(callf:CallF):Option (Option Chain×Tr SV×XW)→Option (Option Chain×Tr SV×XW)
 |some (none,F,X)=>B callf F X
 |r=>r
def kOps(P:Program)(N:Nat)(ops:List Oper):List Oper→KO
 | []=>⟨fun _ F X=>some (none,F,X)⟩
 |o::rest=>⟨fun callf F X=>kThen (kOps P N ops rest).run callf ((kO P N ops o).run callf F X)⟩
theorem kOps_eq(P:Program)(callf:CallF)(N:Nat)(ops:List Oper):∀(l:List Oper) (F:Tr SV) (X:XW),(kOps P N ops l).run callf F X=evOps P callf N ops l F X
 | [],_,_=>rfl
 |o::rest,F,X=>by
  show kThen (kOps P N ops rest).run callf ((kO P N ops o).run callf F X)=_;rw[kO_eq];unfold evOps kThen;split
  ·rename_i F1 X1 h;rw[h];exact kOps_eq P callf N ops rest F1 X1
  ·rename_i r h;split
   ·rename_i F1 X1 h';exact absurd h' (h F1 X1)
   ·rfl
end
end Go.Xe
namespace Go.Xe
noncomputable section
def kReg(O:CallF→Tr SV→XW→Option (Option Chain×Tr SV×XW))(callf:CallF)(_:JumpF)(F:Tr SV)(X:XW):R:=match O callf F X with
 |some (none,F,X)=>some (.nm,F,X)
 |some (some ch,F,X)=>some (.pan ch,F,X)
 |none=>none
def kSeqK(B:CallF→JumpF→Tr SV→XW→R)(callf:CallF)(jump:JumpF):R→R
 |some (.nm,F,X)=>B callf jump F X
 |r=>r
def kCondK(A B:CallF→JumpF→Tr SV→XW→R)(callf:CallF)(jump:JumpF)(F:Tr SV):Option (Bool×XW)→R
 |some (true,X)=>A callf jump F X
 |some (false,X)=>B callf jump F X
 |none=>none
def kAsB(X:XW):Option SV→Option (Bool×XW)
 |some (.bool b)=>some (b,X)
 |some y=>asB X y
 |none=>none
def kBlockK(id:Nat):R→R
 |some (.ex id',F,X)=>bif Nat.beq id' id then some (.nm,F,X) else some (.ex id',F,X)
 |r=>r
def kScopeK(c:Code)(jump:JumpF):R→R
 |some (.gt l,F,X)=>(match findLabel c l with
  |some rest=>jump c rest F X
  |none=>some (.gt l,F,X))
 |r=>r
def kC(P:Program)(ord:Nat→Hint)(me:FuncId)(rd:Option Nat)(N fuel:Nat):Code→KC
 | .skip=>⟨fun _ _ F X=>some (.nm,F,X)⟩
 | .region _ ops false=>⟨kReg (kOps P N ops.toList ops.toList).run⟩
 | .seq a b=>⟨fun callf jump F X=>kSeqK (kC P ord me rd N fuel b).run callf jump ((kC P ord me rd N fuel a).run callf jump F X)⟩
 | .cond c a b=>⟨fun callf jump F X=>kCondK (kC P ord me rd N fuel a).run (kC P ord me rd N fuel b).run callf jump F (kAsB X ((kLook c).run X.ng F))⟩
 | .block id c=>⟨fun callf jump F X=>kBlockK id ((kC P ord me rd N fuel c).run callf jump F X)⟩
 | .loop c=>⟨fun callf jump F X=>loopE ((kC P ord me rd N fuel c).run callf jump) fuel F X⟩
 | .exit id=>⟨fun _ _ F X=>some (.ex id,F,X)⟩
 | .label _=>⟨fun _ _ F X=>some (.nm,F,X)⟩
 | .ret=>⟨fun _ _ F X=>some (.ret,F,X)⟩
 | .goto l=>⟨fun _ _ F X=>some (.gt l,F,X)⟩
 | .scope c=>⟨fun callf jump F X=>kScopeK c jump ((kC P ord me rd N fuel c).run callf jump F X)⟩
 |c=>⟨fun callf jump F X=>evC P callf ord me rd N fuel jump c F X⟩
theorem kAsB_eq(X:XW)(F:Tr SV)(c:Operand)(A B:CallF→JumpF→Tr SV→XW→R)(callf:CallF)(jump:JumpF):
 kCondK A B callf jump F (kAsB X ((kLook c).run X.ng F))=(match look X.ng F c with
  |some y=>match asB X y with
   |some (true,X)=>A callf jump F X
   |some (false,X)=>B callf jump F X
   |none=>none
  |none=>none):=by
 rw[kLook_eq];cases look X.ng F c with
 |none=>rfl
 |some y=>
  have:kAsB X (some y)=asB X y:=by cases y<;>rfl
  rw[this];simp only[];unfold kCondK;cases asB X y with
  |none=>rfl
  |some r=>obtain⟨b,X1⟩:=r;cases b<;>rfl
theorem kC_eq(P:Program)(callf:CallF)(ord:Nat→Hint)(me:FuncId)(rd:Option Nat)(N fuel:Nat)(jump:JumpF):∀(c:Code) (F:Tr SV) (X:XW),
 (kC P ord me rd N fuel c).run callf jump F X=evC P callf ord me rd N fuel jump c F X:=by
 intro c
 induction c with
 |region id ops d=>
  intro F X;cases d with
  |false=>
   show kReg _ callf jump F X=_;unfold kReg;rw[kOps_eq];rfl
  |true=>rfl
 |seq a b iha ihb=>
  intro F X
  show kSeqK _ callf jump ((kC P ord me rd N fuel a).run callf jump F X)=(match evC P callf ord me rd N fuel jump a F X with
   |some (.nm,F,X)=>evC P callf ord me rd N fuel jump b F X
   |r=>r)
  rw[iha];generalize evC P callf ord me rd N fuel jump a F X=r;rcases r with _|⟨ex,F1,X1⟩
  ·rfl
  ·cases ex<;>first|exact ihb F1 X1|rfl
 |cond c a b iha ihb=>
  intro F X;show kCondK _ _ callf jump F (kAsB X ((kLook c).run X.ng F))=_;rw[kAsB_eq];simp only[iha,ihb];rfl
 |block id c ih=>
  intro F X
  show kBlockK id ((kC P ord me rd N fuel c).run callf jump F X)=(match evC P callf ord me rd N fuel jump c F X with
   |some (.ex id',F,X)=>bif Nat.beq id' id then some (.nm,F,X) else some (.ex id',F,X)
   |r=>r)
  rw[ih];generalize evC P callf ord me rd N fuel jump c F X=r;rcases r with _|⟨ex,F1,X1⟩
  ·rfl
  ·cases ex<;>rfl
 |loop c ih=>
  intro F X;show loopE ((kC P ord me rd N fuel c).run callf jump) fuel F X=_
  have:(kC P ord me rd N fuel c).run callf jump=evC P callf ord me rd N fuel jump c:=by
   funext F X;exact ih F X
  rw[this];rfl
 |scope c ih=>
  intro F X
  show kScopeK c jump ((kC P ord me rd N fuel c).run callf jump F X)=(match evC P callf ord me rd N fuel jump c F X with
   |some (.gt l,F,X)=>(match findLabel c l with
    |some rest=>jump c rest F X
    |none=>some (.gt l,F,X))
   |r=>r)
  rw[ih];generalize evC P callf ord me rd N fuel jump c F X=r;rcases r with _|⟨ex,F1,X1⟩
  ·rfl
  ·cases ex<;>rfl
 |_=>intro F X;rfl
theorem kC_fun(P:Program)(callf:CallF)(ord:Nat→Hint)(me:FuncId)(rd:Option Nat)(N fuel:Nat)(jump:JumpF):
 (fun c=>(kC P ord me rd N fuel c).run callf jump)=evC P callf ord me rd N fuel jump:=by
 funext c F X;exact kC_eq P callf ord me rd N fuel jump c F X
def kJump(P:Program)(callf:CallF)(ord:Nat→Hint)(me:FuncId)(rd:Option Nat)(N fuel:Nat)(n:Nat):JumpF:=
 Nat.rec (motive:=fun _=>JumpF) (fun _ _ _ _=>none) (fun _ ih c rest F X=>match (kC P ord me rd N fuel rest).run callf ih F X with
  |some (.gt l,F,X)=>(match findLabel c l with
   |some rest=>ih c rest F X
   |none=>some (.gt l,F,X))
  |r=>r) n
theorem kJump_eq(P:Program)(callf:CallF)(ord:Nat→Hint)(me:FuncId)(rd:Option Nat)(N fuel:Nat):∀n,kJump P callf ord me rd N fuel n=jumpE P callf ord me rd N fuel n:=by
 intro n;unfold kJump jumpE;congr 1
 funext _ ih c rest F X
 rw[kC_eq];rfl
def kBody(P:Program)(callf:CallF)(ord:Nat→Hint)(me:FuncId)(rd:Option Nat)(N lf:Nat):Code→Tr SV→XW→R:=
 fun c=>(kC P ord me rd N lf c).run callf (kJump P callf ord me rd N lf lf)
theorem kBody_eq(P:Program)(callf:CallF)(ord:Nat→Hint)(me:FuncId)(rd:Option Nat)(N lf:Nat):
 kBody P callf ord me rd N lf=evC P callf ord me rd N lf (jumpE P callf ord me rd N lf lf):=by
 unfold kBody;rw[kJump_eq];exact kC_fun P callf ord me rd N lf _
def kGo{P:Program}(ih:Evs)(xf:XF P)(lf:Nat)(f:FuncId)(args:List SV)(X:XW):Option (Out×XW):=
 bif Nat.beq xf.f f&&Nat.ble args.length xf.fn.ntmps then withD X.dfs (finE P ih.dcall xf.fn (kBody P ih.call xf.ord xf.f none xf.fn.ntmps lf (xf.fn.body.getD .skip) (storeN .nil 0 args) {X with dfs:=[]})) else none
end
end Go.Xe
namespace Go.Xe
noncomputable section
structure HW where
 ng:Nat
 next:Nat
 objs:Hp
def HW.x(h:HW)(O:List Bool)(p:List Prop)(D:List SD):XW:={ng:=h.ng,next:=h.next,objs:=h.objs,orc:=O,pc:=p,dfs:=D}
def HW.x0(h:HW):XW:=h.x [] [] []
def XW.h(X:XW):HW:=⟨X.ng,X.next,X.objs⟩
def hx(r:Option (SV×XW)):Option (SV×HW):=match r with
 |some (y,X)=>some (y,X.h)
 |none=>none
def hs(r:Option XW):Option HW:=match r with
 |some X=>some X.h
 |none=>none
abbrev Rs:=Option (Out×HW)
abbrev YC:=Cal→List SV→HW→Rs
abbrev Fr:=Nat→Option SV
theorem noRfl{α:Type _}{a b:α}(h:a=b):a=b:=h
def ob{α:Type}(x:Option α)(k:α→Rs):Rs:=Option.rec (motive:=fun _=>Rs) none k x
def b2(x:Option (SV×HW))(k:SV→HW→Rs):Rs:=Option.rec (motive:=fun _=>Rs) none (fun p=>Prod.rec (motive:=fun _=>Rs) k p) x
def bcO(k:SV→HW→Rs)(o:Out)(h:HW):Rs:=Out.rec (motive:=fun _=>Rs) (fun y=>k y h) (fun ch=>some (.pan ch,h)) o
def bc(x:Rs)(k:SV→HW→Rs):Rs:=Option.rec (motive:=fun _=>Rs) none (fun p=>Prod.rec (motive:=fun _=>Rs) (bcO k) p) x
def bcnO(k:SV→HW→Rs)(o:Out)(h:HW):Rs:=Out.rec (motive:=fun _=>Rs) (fun y=>k y h) (fun _=>none) o
def bcn(x:Rs)(k:SV→HW→Rs):Rs:=Option.rec (motive:=fun _=>Rs) none (fun p=>Prod.rec (motive:=fun _=>Rs) (bcnO k) p) x
def bcd(dr:Bool)(x:Rs)(k:SV→HW→Rs):Rs:=match dr with
 |true=>bcn x k
 |false=>bc x k
@[simp] theorem ob_some{α:Type}(x:α)(k:α→Rs):ob (some x) k=k x:=noRfl rfl
@[simp] theorem ob_none{α:Type}(k:α→Rs):ob none k=none:=noRfl rfl
@[simp] theorem b2_some(y:SV)(h:HW)(k:SV→HW→Rs):b2 (some (y,h)) k=k y h:=noRfl rfl
@[simp] theorem b2_none(k:SV→HW→Rs):b2 none k=none:=noRfl rfl
@[simp] theorem bc_ret(y:SV)(h:HW)(k:SV→HW→Rs):bc (some (.ret y,h)) k=k y h:=noRfl rfl
@[simp] theorem bc_pan(ch:Chain)(h:HW)(k:SV→HW→Rs):bc (some (.pan ch,h)) k=some (.pan ch,h):=noRfl rfl
@[simp] theorem bc_none(k:SV→HW→Rs):bc none k=none:=noRfl rfl
@[simp] theorem bcn_ret(y:SV)(h:HW)(k:SV→HW→Rs):bcn (some (.ret y,h)) k=k y h:=noRfl rfl
@[simp] theorem bcn_pan(ch:Chain)(h:HW)(k:SV→HW→Rs):bcn (some (.pan ch,h)) k=none:=noRfl rfl
@[simp] theorem bcn_none(k:SV→HW→Rs):bcn none k=none:=noRfl rfl
def yIf(y:SV)(a b:Rs):Rs:=match y with
 | .bool c=>Bool.rec (motive:=fun _=>Rs) b a c
 |_=>none
@[simp] theorem yIf_true(a b:Rs):yIf (.bool true) a b=a:=noRfl rfl
@[simp] theorem yIf_false(a b:Rs):yIf (.bool false) a b=b:=noRfl rfl
def gl(ng g:Nat)(k:SV→Rs):Rs:=bif Nat.blt g ng then k (.ptr g 0) else none
def yl(ng:Nat)(F:Fr)(x:Operand)(k:SV→Rs):Rs:=match x with
 | .tmp t=>ob (F t) k
 | .const v=>k (mkV v)
 | .global g=>gl ng g k
 | .func f=>k (.fn (.func f) [] [])
def yLs(ng:Nat)(F:Fr):List Operand→(List SV→Rs)→Rs
 | [],k=>k []
 |x::xs,k=>yl ng F x fun a=>yLs ng F xs fun az=>k (a::az)
def on1(v:List SV)(k:SV→Rs):Rs:=match v with
 | [a]=>k a
 |_=>none
def on2(v:List SV)(k:SV→SV→Rs):Rs:=match v with
 | [a,b]=>k a b
 |_=>none
def on3(v:List SV)(k:SV→SV→SV→Rs):Rs:=match v with
 | [a,b,c]=>k a b c
 |_=>none
def ld1P(k off:Nat)(h:HW):Option SV:=match h.objs.get k with
 |some o=>o.get off
 |none=>none
def ld1(a:SV)(h:HW):Option SV:=match a with
 | .ptr k off=>ld1P k off h
 |_=>none
def ldNP(n k off:Nat)(h:HW):Option SV:=match h.objs.get k with
 |some o=>(match loadN o off n with|some ys=>some (.agg ys)|none=>none)
 |none=>none
def ldN(n:Nat)(a:SV)(h:HW):Option SV:=match a with
 | .ptr k off=>ldNP n k off h
 |_=>none
def hwPut(h:HW)(k:Nat)(o:Ob):HW:=match h with
 |⟨ng,next,⟨tr,base⟩⟩=>⟨ng,next,⟨tr.put k (some o),base⟩⟩
def stO(n k off:Nat)(y:SV)(h:HW)(o:Ob):Option HW:=bif Nat.beq y.cells.length n&&Nat.ble (off+n) o.n&&!o.ro&&allOne y.cells then some (hwPut h k (obSet o off y.cells)) else none
def stP(n k off:Nat)(y:SV)(h:HW):Option HW:=match h.objs.get k with
 |some o=>stO n k off y h o
 |none=>none
def st(n:Nat)(a y:SV)(h:HW):Option HW:=match a with
 | .ptr k off=>stP n k off y h
 |_=>none
def fa(fo:Nat)(a:SV):Option SV:=match a with
 | .ptr k off=>force (off+fo) fun o=>some (.ptr k o)
 |_=>none
def atA(n s i k off:Nat):Option SV:=bif Nat.blt i n then(force (off+i*s) fun o=>some (.ptr k o)) else none
def ixA(n s:Nat)(x ix:SV):Option SV:=match natOf ix with
 |some i=>(match x with| .ptr k off=>atA n s i k off|_=>none)
 |none=>none
def ixS(s:Nat)(x ix:SV):Option SV:=match natOf ix with
 |some i=>(match x with| .sl k off len _ _=>atA len s i k off|_=>none)
 |none=>none
def fd1(fo:Nat)(a:SV):Option SV:=match a with
 | .agg cs=>cs[fo]?
 |_=>none
def fdN(fo n:Nat)(a:SV):Option SV:=match a with
 | .agg cs=>bif Nat.ble (fo+n) cs.length then some (.agg ((cs.drop fo).take n)) else none
 |_=>none
def ext(i:Nat)(x:SV):Option SV:=match x with
 | .tup vs=>vs[i]?
 |_=>none
def cvI(k:IntKind)(a:SV):Option SV:=match a with
 | .int _ n=>some (forceI (k.wrap n) fun r=> .int k r)
 | .val (.int _ n)=>some (.val (.int k (k.wrap n)))
 |_=>none
def ypk(c a b:SV):Option SV:=match c with
 | .bool t=>Bool.rec (motive:=fun _=>Option SV) (some b) (some a) t
 |_=>none
section
variable(P:Program)
def bin(op:BinOp)(t:TypeId)(x y:SV):Option SV:=match x with
 | .int k a=>kBinI P (kAr op) op t k a y
 |x=>binE P op t x y
def yAl(e:TypeId)(h:HW):Option (SV×HW):=hx (semAlloc P e h.x0)
def ybx(e:TypeId)(x:SV)(h:HW):Option (SV×HW):=hx (semBox e x h.x0)
def ybs(t:TypeId)(len:Nat)(ix:List Nat)(vs:List SV)(h:HW):Option (SV×HW):=hx (semBuildSlice P t len ix vs h.x0)
def ymk(t:TypeId)(l c:SV)(h:HW):Option (SV×HW):=hx (semMake P t l c h.x0)
def ycv(s d:TypeId)(x:SV)(h:HW):Option (SV×HW):=match semConv P s d x with
 |some y=>some (y,h)
 |none=>hx (convX P s d x h.x0)
def yrg(t:TypeId)(x:SV)(h:HW):Option (SV×HW):=hx (semRange P t x h.x0)
def ynx(x:SV)(h:HW):Option (SV×HW):=match x with
 | .ptr k 0=>hx (semNext k h.x0)
 |_=>none
def ysa(t:TypeId)(x:SV):Option SV:=match x with
 | .sl k off len _ _=>semArr P t k off len
 |_=>none
def ymm(h:HW):Option (SV×HW):=some (.mp (newMap h.x0).1,(newMap h.x0).2.h)
def ylk(t:TypeId)(ok:Bool)(m k:SV)(h:HW):Option SV:=semLookup P t m k ok h.x0
def yup(t:TypeId)(m k v:SV)(h:HW):Option HW:=hs (semUpdate P t m k v h.x0)
def yet(t:TypeId)(m k:SV)(h:HW):Option (SV×HW):=hx (semEntry P t m k h.x0)
def yes(m b v:SV)(h:HW):Option HW:=hs (semEntrySt m b v h.x0)
def ybl(b:Builtin)(ts:Array TypeId)(vs:List SV)(h:HW):Option (SV×HW):=hx (bltE P b ts vs h.x0)
def iv(C:YC)(name:String)(x:SV)(args:List SV)(h:HW):Rs:=match methE P x name h.x0 with
 |some (f,r)=>C (.fn f) (r::args) h
 |none=>none
def cv(dr:Bool)(C:YC)(f:SV)(args:List SV)(h:HW)(k:SV→HW→Rs):Rs:=match f with
 | .fn (.func g) a b=>bcd dr (C (.fn g) (a++args++b) h) k
 | .yld j=>bcd dr (C (.yld j) args h) k
 |_=>none
def yPan(dr:Bool)(vals:List SV)(h:HW):Rs:=match dr,vals with
 |false,[.ifc t x]=>some (.pan [(.ifc t x,false)],h)
 |_,_=>none
def yBlt(dr:Bool)(b:Builtin)(ts:Array TypeId)(v:List SV)(h:HW)(k:SV→HW→Rs):Rs:=match b with
 | .panic=>yPan dr v h
 | .len=>on1 v fun x=>match ts[0]? with|some t=>ob (lenE P t x) fun y=>k y h|none=>none
 |b=>b2 (ybl P b ts v h) k
def yCall(dr:Bool)(C:YC)(c:Call)(v:List SV)(h:HW)(k:SV→HW→Rs):Rs:=match c.callee with
 | .builtin b=>yBlt P dr b c.argTypes v h k
 | .value _=>(match v with
   |f::args=>cv dr C f args h k
   | []=>none)
 | .invoke _ name=>(match v with
   |x::args=>bcd dr (iv P C name x args h) k
   | []=>none)
def yS(dr:Bool)(C:YC)(op:Op)(v:List SV)(h:HW)(k:SV→HW→Rs):Rs:=match op with
 | .move _=>on1 v fun a=>k a h
 | .assign _=>on1 v fun a=>k a h
 | .pick _ _ _=>on3 v fun c a b=>ob (ypk c a b) fun y=>k y h
 | .alloc e=>(match v with| []=>b2 (yAl P e h) k|_=>none)
 | .box e _=>on1 v fun a=>b2 (ybx e a h) k
 | .build t ps=>ob (semBuild P t (ps.toList.map (·.1)) v) fun y=>k y h
 | .buildSlice t len ps=>b2 (ybs P t len (ps.toList.map (·.1)) v h) k
 | .load t _=>on1 v fun a=>(match tyAgg P t,tySize P t with
   |some true,some n=>ob (ldN n a h) fun y=>k y h
   |some false,some _=>ob (ld1 a h) fun y=>k y h
   |_,_=>none)
 | .store t _ _=>on2 v fun a y=>(match tySize P t with
   |some n=>ob (st n a y h) fun h=>k (.val undef) h
   |none=>none)
 | .nilCheck _=>on1 v fun a=>ob (semNil a) fun y=>k y h
 | .binOp op t _ _ _=>on2 v fun a b=>ob (bin P op t a b) fun y=>k y h
 | .unOp op _ _=>on1 v fun a=>ob (unE op a) fun y=>k y h
 | .convert s d _=>on1 v fun a=>(match P.underlying s,P.underlying d with
   |some (.int _),some (.int kd)=>ob (cvI kd a) fun y=>k y h
   |_,_=>b2 (ycv P s d a h) k)
 | .makeInterface t _=>on1 v fun a=>(match P.underlying t with
   |some (.interface _)=>none
   |some _=>k (.ifc t a) h
   |none=>none)
 | .makeFunc fn a _=>k (.fn fn (v.take a.size) (v.drop a.size)) h
 | .makeSlice t _ _=>on2 v fun l c=>b2 (ymk P t l c h) k
 | .fieldAddr s _ f=>on1 v fun a=>(match fieldOf P s f with
   |some fd=>(match tySize P fd.type with
    |some (_+1)=>ob (fa fd.offset a) fun y=>k y h
    |_=>none)
   |none=>none)
 | .field s _ f=>on1 v fun a=>(match fieldOf P s f with
   |some fd=>(match tyAgg P fd.type,tySize P fd.type with
    |some true,some n=>ob (fdN fd.offset n a) fun y=>k y h
    |some false,some _=>ob (fd1 fd.offset a) fun y=>k y h
    |_,_=>none)
   |none=>none)
 | .indexAddr t _ _=>on2 v fun a i=>(match P.underlying t with
   |some (.array n e)=>(match tySize P e with|some s=>ob (ixA n s a i) fun y=>k y h|none=>none)
   |some (.slice e)=>(match tySize P e with|some s=>ob (ixS s a i) fun y=>k y h|none=>none)
   |_=>none)
 | .index t _ _=>on2 v fun a i=>ob (semIndex P t a i) fun y=>k y h
 | .extract _ i=>on1 v fun a=>ob (ext i a) fun y=>k y h
 | .range t _=>on1 v fun a=>b2 (yrg P t a h) k
 | .next _ true=>on1 v fun a=>b2 (ynx a h) k
 | .sliceToArrayPointer t _=>on1 v fun a=>ob (ysa P t a) fun y=>k y h
 | .makeMap _ none=>(match v with| []=>b2 (ymm h) k|_=>none)
 | .lookup t _ _ ok=>on2 v fun m q=>ob (ylk P t ok m q h) fun y=>k y h
 | .mapUpdate t _ _ _=>on3 v fun m q x=>ob (yup P t m q x h) fun h=>k (.val undef) h
 | .mapEntry t _ _=>on2 v fun m q=>b2 (yet P t m q h) k
 | .entryStore _ _ _ _=>on3 v fun m q x=>ob (yes m q x h) fun h=>k (.val undef) h
 | .typeAssert _ _ a ok=>on1 v fun x=>ob (semAssert P x a ok) fun y=>k y h
 | .slice t _ none none none=>on1 v fun x=>ob (semSlice P t x none none) fun y=>k y h
 | .slice t _ (some _) none none=>on2 v fun x l=>ob (semSlice P t x (some l) none) fun y=>k y h
 | .slice t _ none (some _) none=>on2 v fun x r=>ob (semSlice P t x none (some r)) fun y=>k y h
 | .slice t _ (some _) (some _) none=>on3 v fun x l r=>ob (semSlice P t x (some l) (some r)) fun y=>k y h
 | .call c=>yCall P dr C c v h k
 | .panic _=>yPan dr v h
 |_=>none
end
def gd(want:Bool)(x:Option SV)(r:Rs)(h:HW):Rs:=match x with
 |some y=>bif isTup y then some (.ret (.val undef),h) else(match y with
  | .bool b=>bif b==want then r else some (.ret (.val undef),h)
  |_=>none)
 |none=>none
def putF(N:Nat)(F:Fr)(d:Option Tmp)(y:SV):Fr:=match d with
 |some d=>bif Nat.blt d N then(fun t=>bif Nat.beq t d then some y else F t) else F
 |none=>F
end
end Go.Xe
namespace Go.Xe
noncomputable section
def ck(b:Bool)(k:Rs):Rs:=Bool.rec (motive:=fun _=>Rs) none k b
@[simp] theorem ck_true(k:Rs):ck true k=k:=noRfl rfl
@[simp] theorem ck_false(k:Rs):ck false k=none:=noRfl rfl
def adr(y:SV):Option Nat:=match y with
 | .ptr k _=>some k
 | .sl k _ _ _ _=>some k
 |_=>none
def adrO(x:Option SV):Option Nat:=match x with
 |some y=>adr y
 |none=>none
def glO(ng g:Nat):Option SV:=bif Nat.blt g ng then some (.ptr g 0) else none
def yLook(ng:Nat)(F:Fr)(x:Operand):Option SV:=match x with
 | .tmp t=>F t
 | .const v=>some (mkV v)
 | .global g=>glO ng g
 | .func f=>some (.fn (.func f) [] [])
def gdA(want:Bool)(x:Option SV)(r:Option Nat):Option Nat:=match x with
 |some y=>bif isTup y then none else(match y with
  | .bool b=>bif b==want then r else none
  |_=>none)
 |none=>none
def adr2(x y:Option SV):Option Nat:=match x with
 |some (.mp k)=>(match y with|some _=>some k|none=>none)
 |_=>none
def yAdr(ops:List Oper)(o:Oper)(F:Fr)(ng:Nat):Option Nat:=match o.guard with
 |none=>(match o.op.operands.toList with| [x]=>adrO (yLook ng F x)| [x,y]=>adr2 (yLook ng F x) (yLook ng F y)|_=>none)
 |some (j,want)=>(match ops[j]? with
  |some oj=>(match oj.dst with
   |some d=>gdA want (F d) (match o.op.operands.toList with| [x]=>adrO (yLook ng F x)| [x,y]=>adr2 (yLook ng F x) (yLook ng F y)|_=>none)
   |none=>none)
  |none=>none)
def sameH(h h':HW)(k:Nat):Bool:=bif Nat.blt k h.next then(match h.objs.get k with
 |some o=>(match h'.objs.get k with|some o'=>Nat.beq o.ver o'.ver|none=>false)
 |none=>false) else false
def chkH(recs:List (Nat×Option Nat))(h h':HW):List Nat→Bool
 | []=>true
 |l::ls=>(match findK recs l with|some k=>sameH h h' k|none=>true)&&chkH recs h h' ls
section
variable(P:Program)(C:YC)(N:Nat)
def yOper(dr:Bool)(ops:List Oper)(o:Oper)(F:Fr)(h:HW)(k:Fr→HW→Rs):Rs:=match o.guard with
 |none=>yLs h.ng F o.op.operands.toList fun v=>yS P dr C o.op v h fun y h=>k (putF N F o.dst y) h
 |some (j,want)=>(match ops[j]? with
  |some oj=>(match oj.dst with
   |some d=>bcd dr (gd want (F d) (yLs h.ng F o.op.operands.toList fun v=>yS P dr C o.op v h fun y h=>some (.ret y,h)) h) fun y h=>k (putF N F o.dst y) h
   |none=>none)
  |none=>none)
def yOps(dr:Bool)(ops:List Oper):List Oper→Fr→HW→(Fr→HW→Rs)→Rs
 | [],F,h,k=>k F h
 |o::rest,F,h,k=>yOper P C N dr ops o F h fun F h=>yOps dr ops rest F h k
def yChk(recs:List (Nat×Option Nat))(h h':HW)(ls:List Nat)(k:Rs):Rs:=match ls with
 | []=>k
 |ls=>ck (chkH recs h h' ls) k
def recOf(ops:List Oper)(i:Nat)(o:Oper)(F:Fr)(ng:Nat)(recs:List (Nat×Option Nat)):List (Nat×Option Nat):=bif isRead P o.op then(i,yAdr ops o F ng)::recs else recs
def yD(ops:List Oper)(chk:List (Nat×List Nat)):List Nat→List (Nat×Option Nat)→Fr→HW→(Fr→HW→Rs)→Rs
 | [],_,F,h,k=>k F h
 |i::is,recs,F,h,k=>match ops[i]? with
  |none=>none
  |some o=>yOper P C N true ops o F h fun F' h'=>yChk recs h h' (chkOf chk i) (yD ops chk is (recOf P ops i o F h.ng recs) F' h' k)
def ynf(f:HW→Option (SV×HW))(base i:Nat)(h:HW):Option (SV×HW):=match f ⟨h.ng,base+i,h.objs⟩ with
 |some (y,h')=>some (y,⟨h'.ng,h.next,h'.objs⟩)
 |none=>none
def yNew(op:Op)(v:List SV)(base i:Nat)(h:HW)(k:SV→HW→Rs):Rs:=match op with
 | .alloc e=>(match v with| []=>b2 (ynf (yAl P e) base i h) k|_=>none)
 | .box e _=>on1 v fun a=>ck (lowV base a) (b2 (ynf (ybx e a) base i h) k)
 | .buildSlice t len ps=>ck (lowL base v) (b2 (ynf (ybs P t len (ps.toList.map (·.1)) v) base i h) k)
 | .makeSlice t _ _=>on2 v fun l c=>ck (lowV base l&&lowV base c) (b2 (ynf (ymk P t l c) base i h) k)
 |_=>none
def lowA(base:Nat)(a:Option Nat):Bool:=match a with
 |some j=>Nat.blt j base
 |none=>true
def yLow(ops:List Oper)(base:Nat)(o:Oper)(F:Fr)(ng:Nat)(k:Rs):Rs:=bif isRead P o.op then ck (lowA base (yAdr ops o F ng)) k else k
def yNs(ops:List Oper)(rs:List Nat)(chk:List (Nat×List Nat))(base:Nat):List Nat→List (Nat×Option Nat)→Fr→HW→(Fr→HW→Rs)→Rs
 | [],_,F,h,k=>k F h
 |i::is,recs,F,h,k=>match ops[i]? with
  |none=>none
  |some o=>yLow P ops base o F h.ng (bif newR rs i o.op then(match o.guard with
   |some _=>none
   |none=>yLs h.ng F o.op.operands.toList fun v=>yNew P o.op v base i h fun y h'=>yChk recs h h' (chkOf chk i) (yNs ops rs chk base is (recOf P ops i o F h.ng recs) (putF N F o.dst y) h' k)) else
   yOper P C N true ops o F h fun F' h'=>yChk recs h h' (chkOf chk i) (yNs ops rs chk base is (recOf P ops i o F h.ng recs) F' h' k))
def deadH(h:HW)(base:Nat):List Nat→Bool
 | []=>true
 |k::ks=>(match h.objs.get (base+k) with|none=>true|some _=>false)&&deadH h base ks
def nwB(rs:List Nat)(n:Nat)(h:HW)(k:Nat→HW→Rs):Rs:=force (h.next+n) fun m=>ck (deadH h h.next rs) (k h.next ⟨h.ng,m,h.objs⟩)
def yLoop(body:Fr→HW→(Fr→HW→Rs)→Rs)(n:Nat):Fr→HW→Rs:=Nat.rec (motive:=fun _=>Fr→HW→Rs) (fun _ _=>none) (fun _ ih F h=>body F h ih) n
def evY(ord:Nat→Hint)(lf:Nat):Code→Fr→HW→(Fr→HW→Rs)→(Fr→HW→Rs)→(Nat→Fr→HW→Rs)→Rs
 | .skip,F,h,kn,_,_=>kn F h
 | .region _ ops false,F,h,kn,_,_=>yOps P C N false ops.toList ops.toList F h kn
 | .region id ops true,F,h,kn,_,_=>(match ord id with
   | .text=>yOps P C N true ops.toList ops.toList F h kn
   | .skip=>none
   | .ord is chk=>yD P C N ops.toList chk is [] F h kn
   | .news is rs chk=>nwB rs ops.size h fun base h=>yNs P C N ops.toList rs chk base is [] F h kn)
 | .seq a b,F,h,kn,kr,ke=>evY ord lf a F h (fun F h=>evY ord lf b F h kn kr ke) kr ke
 | .cond c a b,F,h,kn,kr,ke=>yl h.ng F c fun y=>yIf y (evY ord lf a F h kn kr ke) (evY ord lf b F h kn kr ke)
 | .block id c,F,h,kn,kr,ke=>evY ord lf c F h kn kr (fun i F h=>bif Nat.beq i id then kn F h else ke i F h)
 | .loop c,F,h,_,kr,ke=>yLoop (fun F h k=>evY ord lf c F h k kr ke) lf F h
 | .exit id,F,h,_,_,ke=>ke id F h
 | .label _,F,h,kn,_,_=>kn F h
 | .ret,F,h,_,kr,_=>kr F h
 |_,_,_,_,_,_=>none
end
section
variable(P:Program)
def yRes(F:Fr)(h:HW)(k:SV→Rs):ResultVar→Rs
 | .tmp t=>ob (F t) k
 | .cell a t=>ob (F a) fun p=>(match tyAgg P t,tySize P t with
   |some true,some n=>ob (ldN n p h) k
   |some false,some _=>ob (ld1 p h) k
   |_,_=>none)
def yRss(F:Fr)(h:HW):List ResultVar→(List SV→Rs)→Rs
 | [],k=>k []
 |r::rs,k=>yRes P F h (fun y=>yRss F h rs fun ys=>k (y::ys)) r
def yFin(fn:Func)(F:Fr)(h:HW):Rs:=yRss P F h fn.results.toList fun ys=>some (.ret (result1 ys),h)
def frOf(args:List SV):Fr:=fun t=>args[t]?
def yFn(xf:XF P)(C:YC)(lf:Nat)(args:List SV)(h:HW):Rs:=
 evY P C xf.fn.ntmps xf.ord lf (xf.fn.body.getD .skip) (frOf args) h (yFin P xf.fn) (yFin P xf.fn) (fun _ _ _=>none)
end
end
end Go.Xe
namespace Go.Xe
section
variable{P:Program}
@[simp] theorem HW.x_objs(h:HW)(O:List Bool)(p:List Prop)(D:List SD):(h.x O p D).objs=h.objs:=noRfl rfl
@[simp] theorem HW.x_next(h:HW)(O:List Bool)(p:List Prop)(D:List SD):(h.x O p D).next=h.next:=noRfl rfl
@[simp] theorem HW.x_ng(h:HW)(O:List Bool)(p:List Prop)(D:List SD):(h.x O p D).ng=h.ng:=noRfl rfl
@[simp] theorem HW.x0_objs(h:HW):h.x0.objs=h.objs:=noRfl rfl
@[simp] theorem HW.x0_next(h:HW):h.x0.next=h.next:=noRfl rfl
@[simp] theorem HW.x0_h(h:HW):h.x0.h=h:=noRfl rfl
@[simp] theorem HW.x_h(h:HW)(O:List Bool)(p:List Prop)(D:List SD):(h.x O p D).h=h:=noRfl rfl
def HW.xd(h:HW)(D:List SD):XW:=h.x [] [] D
@[simp] theorem HW.xd_objs(h:HW)(D:List SD):(h.xd D).objs=h.objs:=noRfl rfl
@[simp] theorem HW.xd_next(h:HW)(D:List SD):(h.xd D).next=h.next:=noRfl rfl
@[simp] theorem HW.xd_ng(h:HW)(D:List SD):(h.xd D).ng=h.ng:=noRfl rfl
def Cm(f:XW→Option (SV×XW)):Prop:=∀(h:HW) (y:SV) (g:HW),hx (f h.x0)=some (y,g)→∀O p D,f (h.x O p D)=some (y,g.x O p D)
def Cs(f:XW→Option XW):Prop:=∀(h:HW) (g:HW),hs (f h.x0)=some g→∀O p D,f (h.x O p D)=some (g.x O p D)
theorem cm_none:Cm fun _=>none:=fun h y g e=>by cases e
theorem cm_new(y:Nat→SV)(o:Ob):Cm fun X=>some (y (X.new o).1,(X.new o).2):=fun h z g e O p D=>by
 simp only[hx,Option.some.injEq,Prod.mk.injEq] at e;obtain⟨rfl,rfl⟩:=e;rfl
theorem cm_row(y:Nat→SV)(t:TypeId)(cs:List SV):Cm fun X=>some (y (newRow X t cs).1,(newRow X t cs).2):=by
 simp only[newRow,force_eq];exact cm_new y _
theorem cm_loose(y:Nat→SV)(t e:Nat)(cs:List SV):Cm fun X=>some (y (newLoose X t e cs).1,(newLoose X t e cs).2):=by
 simp only[newLoose,force_eq];exact cm_new y _
theorem cm_pat(y:Nat→SV)(t n:Nat)(cs:List SV):Cm fun X=>some (y (newPat X t n cs).1,(newPat X t n cs).2):=by
 simp only[newPat,force_eq];exact cm_new y _
theorem cm_alloc(e:TypeId):Cm (semAlloc P e):=by
 unfold semAlloc;cases tyZero P e with
 |none=>exact cm_none
 |some z=>exact cm_row (fun k=> .ptr k 0) _ _
theorem cm_box(e:TypeId)(x:SV):Cm (semBox e x):=by
 unfold semBox;cases x.flat with
 |false=>exact cm_none
 |true=>exact cm_row (fun k=> .ptr k 0) _ _
theorem cm_buildSlice(t:TypeId)(len:Nat)(ix:List Nat)(vs:List SV):Cm (semBuildSlice P t len ix vs):=by
 unfold semBuildSlice;split
 ·rename_i e _;split
  ·rename_i s z _ _;cases(Nat.ble (len*s) 65536&&Nat.ble 1 s&&Nat.beq (mkV z).cells.length s) with
   |false=>exact cm_none
   |true=>
    simp only[cond_true];cases fillL (fun i=>some (i*s,s)) (reps (mkV z).cells len) (ix.zip vs) with
    |none=>exact cm_none
    |some cs=>exact cm_row (fun k=> .sl k 0 len (some len) 0) _ _
  ·exact cm_none
 ·exact cm_none
theorem cm_make(t:TypeId)(l c:SV):Cm (semMake P t l c):=by
 unfold semMake;split
 ·rename_i e _;split
  ·rename_i l c _ _;split
   ·rename_i s z b _ _ _;cases(Nat.ble l c&&Nat.ble (c*b) 140737488355328&&Nat.ble c 140737488355328&&Nat.beq (mkV z).cells.length s&&Nat.ble 1 s) with
    |false=>exact cm_none
    |true=>exact cm_pat (fun k=> .sl k 0 l (some c) 0) _ _ _
   ·exact cm_none
  ·exact cm_none
 ·exact cm_none
theorem cm_convX(s d:TypeId)(x:SV):Cm (convX P s d x):=by
 intro h y g e O p D;unfold convX at e⊢;split at e
 ·rename_i e0 b h1 h2;cases hc:(isU8 P e0&&Nat.ble b.size 140737488355328) with
  |false=>simp[hc,hx] at e
  |true=>simp only[hc,cond_true] at e⊢;exact cm_loose (fun k=> .sl k 0 b.size none 0) _ _ _ h y g e O p D
 ·rename_i e0 k off n cap lo h1 h2;simp only[HW.x0_objs,HW.x_objs] at e⊢;cases hc:(isU8 P e0&&Nat.beq s d) with
  |false=>simp[hc,hx] at e
  |true=>
   simp only[hc,cond_true] at e⊢;cases ho:h.objs.get k with
   |none=>simp[ho,hx] at e
   |some o=>
    simp only[ho] at e⊢;cases hr:o.ro with
    |true=>simp[hr,hx] at e
    |false=>simp only[hr,cond_false,hx,Option.some.injEq,Prod.mk.injEq] at e⊢;obtain⟨rfl,rfl⟩:=e;exact⟨rfl,rfl⟩
 ·rename_i e0 _ _ h1 h2;cases hc:isU8 P e0 with
  |false=>simp[hc,hx] at e
  |true=>simp only[hc,cond_true,hx,Option.some.injEq,Prod.mk.injEq] at e⊢;obtain⟨rfl,rfl⟩:=e;exact⟨rfl,rfl⟩
 ·rename_i e0 _ h1 h2;cases hc:isU8 P e0 with
  |false=>simp[hc,hx] at e
  |true=>simp only[hc,cond_true,hx,Option.some.injEq,Prod.mk.injEq] at e⊢;obtain⟨rfl,rfl⟩:=e;exact⟨rfl,rfl⟩
 ·rename_i e0 k off n _ _ h1 h2;simp only[HW.x0_objs,HW.x_objs] at e⊢;cases hc:isU8 P e0 with
  |false=>simp[hc,hx] at e
  |true=>
   simp only[hc,cond_true] at e⊢;cases ho:h.objs.get k with
   |none=>simp[ho,hx] at e
   |some o=>
    simp only[ho] at e⊢;cases hl:loadN o off n with
    |none=>simp[hl,hx] at e
    |some ys=>
     simp only[hl] at e⊢;cases hb:bytesOf ys with
     |none=>simp[hb,hx] at e
     |some ns=>simp only[hb,hx,Option.some.injEq,Prod.mk.injEq] at e⊢;obtain⟨rfl,rfl⟩:=e;exact⟨rfl,rfl⟩
 ·cases e
theorem cm_range(t:TypeId)(x:SV):Cm (semRange P t x):=by
 intro h y g e O p D;unfold semRange at e⊢;split at e
 ·exact cm_new (fun k=> .ptr k 0) _ h y g e O p D
 ·cases e
theorem cm_next(k:Nat):Cm (semNext k):=by
 intro h y g e O p D;unfold semNext at e⊢;simp only[HW.x0_objs,HW.x_objs] at e⊢;cases ho:h.objs.get k with
 |none=>simp[ho,hx] at e
 |some o=>
  simp only[ho] at e⊢;cases hsp:o.sp with
  |iter s pos=>
   simp only[hsp] at e⊢;cases hb:Nat.blt pos s.size with
   |false=>simp only[hb,cond_false,hx,Option.some.injEq,Prod.mk.injEq] at e⊢;obtain⟨rfl,rfl⟩:=e;exact⟨rfl,rfl⟩
   |true=>simp only[hb,cond_true,force_eq,hx,Option.some.injEq,Prod.mk.injEq] at e⊢;obtain⟨rfl,rfl⟩:=e;exact⟨rfl,rfl⟩
  |_=>simp[hsp,hx] at e
theorem meth_x(x:SV)(name:String)(h:HW)(O:List Bool)(p:List Prop)(D:List SD):methE P x name (h.x O p D)=methE P x name h.x0:=rfl
theorem cs_update(t:TypeId)(m k v:SV):Cs (semUpdate P t m k v):=by
 intro h g e O p D;unfold semUpdate at e⊢;split at e
 ·rename_i kt _ j h1;simp only[HW.x0_objs,HW.x_objs] at e⊢;cases ho:h.objs.get j with
  |none=>simp[ho,hs] at e
  |some o=>
   simp only[ho] at e⊢;cases hsp:o.sp with
   |map es clock=>
    simp only[hsp] at e⊢;cases hk:keyNow P kt k with
    |false=>simp[hk,hs] at e
    |true=>
     simp only[hk,cond_true] at e⊢;cases hf:findE P kt k es 0 with
     |none=>simp[hf,hs] at e
     |some r=>
      cases r with
      |none=>simp only[hf,force_eq,hs,Option.some.injEq] at e⊢;subst e;rfl
      |some q=>obtain⟨i,z⟩:=q;simp only[hf,hs,Option.some.injEq] at e⊢;subst e;rfl
   |_=>simp[hsp,hs] at e
 ·cases e
theorem cm_entry(t:TypeId)(m k:SV):Cm (semEntry P t m k):=by
 intro h y g e O p D;unfold semEntry at e⊢;split at e
 ·rename_i kt et j h1;simp only[HW.x0_objs,HW.x_objs] at e⊢;cases ho:h.objs.get j with
  |none=>simp[ho,hx] at e
  |some o=>
   cases hz:tyZero P et with
   |none=>simp[ho,hz,hx] at e
   |some z=>
   simp only[ho,hz] at e⊢;cases hsp:o.sp with
   |map es clock=>
    simp only[hsp] at e⊢;cases hk:keyNow P kt k with
    |false=>simp[hk,hx] at e
    |true=>
     simp only[hk,cond_true] at e⊢;cases hf:findE P kt k es 0 with
     |none=>simp[hf,hx] at e
     |some r=>
      cases r with
      |none=>
       cases hkk:keyEq P kt k k with
       |none=>simp[hf,hkk,hx] at e
       |some b=>
        cases b with
        |false=>simp[hf,hkk,hx] at e
        |true=>simp only[hf,hkk,force_eq,hx,Option.some.injEq,Prod.mk.injEq] at e⊢;obtain⟨rfl,rfl⟩:=e;exact⟨rfl,rfl⟩
      |some q=>obtain⟨i,z⟩:=q;simp only[hf,hx,Option.some.injEq,Prod.mk.injEq] at e⊢;obtain⟨rfl,rfl⟩:=e;exact⟨rfl,rfl⟩
   |_=>simp[hsp,hx] at e
 ·cases e
theorem cs_entrySt(m b v:SV):Cs (semEntrySt m b v):=by
 intro h g e O p D;unfold semEntrySt at e⊢;split at e
 ·rename_i j ik b';simp only[HW.x0_objs,HW.x_objs] at e⊢;cases ho:h.objs.get j with
  |none=>simp[ho,hs] at e
  |some o=>
   simp only[ho] at e⊢;cases hsp:o.sp with
   |map es clock=>
    simp only[hsp] at e⊢;cases hf:findB b' es 0 with
    |none=>simp[hf,hs] at e
    |some i=>simp only[hf,hs,Option.some.injEq] at e⊢;subst e;rfl
   |_=>simp[hsp,hs] at e
 ·cases e
theorem elems_x(sz:Nat)(x:SV)(h:HW)(O:List Bool)(p:List Prop)(D:List SD):appElems (h.x O p D) sz x=appElems h.x0 sz x:=rfl
theorem cm_appIn(k off len:Nat)(cap:Option Nat)(lo need sz:Nat)(o:Ob)(news:List SV):Cm (appIn k off len cap lo need sz o news):=by
 intro h y g e O p D;unfold appIn at e⊢;cases hc:(Nat.ble (off+need*sz) o.n&&!o.ro) with
 |false=>simp[hc,hx] at e
 |true=>simp only[hc,cond_true,hx,Option.some.injEq,Prod.mk.injEq] at e⊢;obtain⟨rfl,rfl⟩:=e;exact⟨rfl,rfl⟩
theorem cm_appNew(e sz b need:Nat)(cells:List SV):Cm (appNew e sz b need cells):=by
 unfold appNew;cases(Nat.ble need 140737488355328&&Nat.ble (need*b) 140737488355328) with
 |false=>exact cm_none
 |true=>exact cm_loose (fun k=> .sl k 0 need none 0) _ _ _
theorem cm_appOn(k len need sz b:Nat)(o:Ob)(news:List SV):Cm (appOn k len need sz b o news):=by
 intro h y g e O p D;unfold appOn at e⊢;cases hc:(Nat.ble (len*sz) o.n&&(Nat.ble need 140737488355328&&Nat.ble (need*b) 140737488355328)) with
 |false=>simp[hc,hx] at e
 |true=>simp only[hc,cond_true,force_eq,hx,Option.some.injEq,Prod.mk.injEq] at e⊢;obtain⟨rfl,rfl⟩:=e;exact⟨rfl,rfl⟩
theorem cm_appTo(e sz b k off len:Nat)(cap:Option Nat)(lo n:Nat)(news:List SV):Cm (appTo e sz b k off len cap lo n news):=by
 intro h y g he O p D;unfold appTo at he⊢;simp only[HW.x0_objs,HW.x_objs,force_eq] at he⊢;cases ho:h.objs.get k with
 |none=>simp[ho,hx] at he
 |some o=>
  simp only[ho] at he⊢;cases cap with
  |some c=>
   simp only at he⊢;cases hc:Nat.ble (len+n) c with
   |true=>simp only[hc,cond_true] at he⊢;exact cm_appIn _ _ _ _ _ _ _ _ _ h y g he O p D
   |false=>
    simp only[hc,cond_false] at he⊢;cases hl:loadN o off (len*sz) with
    |none=>simp[hl,hx] at he
    |some olds=>simp only[hl] at he⊢;exact cm_appNew _ _ _ _ _ h y g he O p D
  |none=>
   simp only at he⊢;cases hc:(Nat.beq off 0&&(Nat.beq lo 0&&(Nat.beq o.esz sz&&(o.loose&&(!o.ro&&Nat.beq o.ty e))))) with
   |false=>simp[hc,hx] at he
   |true=>
    simp only[hc,cond_true] at he⊢;cases hd:Nat.ble ((len+n)*sz) o.n with
    |true=>simp only[hd,cond_true] at he⊢;exact cm_appIn _ _ _ _ _ _ _ _ _ h y g he O p D
    |false=>simp only[hd,cond_false] at he⊢;exact cm_appOn _ _ _ _ _ _ _ h y g he O p D
theorem cm_append(t:TypeId)(s x:SV):Cm (semAppend P t s x):=by
 intro h y g he O p D;unfold semAppend at he⊢;simp only[elems_x];split at he<;>try(cases he;done)
 rename_i e _;split at he<;>try(cases he;done)
 rename_i sz z b h1 h2 h3
 try simp only[]
 split at he<;>try(cases he;done)
 rename_i n news h4;cases hc:(Nat.ble 1 sz&&(Nat.beq news.length (n*sz)&&(allOne news&&Nat.beq (mkV z).cells.length sz))) with
 |false=>simp[hc,hx] at he
 |true=>
  simp only[hc,cond_true] at he⊢;split at he
  ·rename_i a c;cases ha:(Nat.beq a 0&&Nat.beq c 0) with
   |false=>simp[ha,hx] at he
   |true=>
    simp only[ha,cond_true] at he⊢;cases hn:Nat.beq n 0 with
    |true=>simp only[hn,cond_true,hx,Option.some.injEq,Prod.mk.injEq] at he⊢;obtain⟨rfl,rfl⟩:=he;exact⟨rfl,rfl⟩
    |false=>simp only[hn,cond_false] at he⊢;exact cm_appNew _ _ _ _ _ h y g he O p D
  ·exact cm_appTo _ _ _ _ _ _ _ _ _ _ h y g he O p D
  ·rename_i k;cases hn:Nat.beq n 0 with
   |true=>simp only[hn,cond_true,hx,Option.some.injEq,Prod.mk.injEq] at he⊢;obtain⟨rfl,rfl⟩:=he;exact⟨rfl,rfl⟩
   |false=>simp[hn,hx] at he
  ·cases he
theorem cm_appendZ(t:TypeId)(s x:SV):Cm (semAppendZ P t s x):=by
 intro h y g he O p D;unfold semAppendZ at he⊢;split at he<;>try(cases he;done)
 rename_i hu
 try simp only[hu]
 split at he<;>try(cases he;done)
 rename_i sz z b h1 h2 h3
 try simp only[h1,h2,h3]
 split at he<;>try(cases he;done)
 rename_i c hcc
 try simp only[hcc]
 generalize(Nat.beq sz 1&&(_&&(_&&_)))=c1 at he⊢;cases c1 with
 |false=>simp[hx] at he
 |true=>
  simp only[cond_true] at he⊢;split at he<;>try(cases he;done)
  exact cm_appTo _ _ _ _ _ _ _ _ _ _ h y g he O p D
theorem cm_copy(t:TypeId)(d x:SV):Cm (semCopy P t d x):=by
 intro h y g he O p D;unfold semCopy at he⊢;simp only[elems_x];split at he<;>try(cases he;done)
 rename_i e _;split at he<;>try(cases he;done)
 rename_i sz h1
 try simp only[]
 split at he<;>try(cases he;done)
 rename_i n news h4;cases hc:(Nat.beq news.length (n*sz)&&allOne news) with
 |false=>simp[hc,hx] at he
 |true=>
  simp only[hc,cond_true] at he⊢;split at he
  ·rename_i a c;cases ha:Nat.beq a 0 with
   |false=>simp[ha,hx] at he
   |true=>simp only[ha,cond_true,hx,Option.some.injEq,Prod.mk.injEq] at he⊢;obtain⟨rfl,rfl⟩:=he;exact⟨rfl,rfl⟩
  ·rename_i k off len _ _;simp only[HW.x0_objs,HW.x_objs,force_eq] at he⊢;cases ho:h.objs.get k with
   |none=>simp[ho,hx] at he
   |some o=>
    simp only[ho] at he⊢;cases hd:(Nat.ble (off+len*sz) o.n&&!o.ro) with
    |false=>simp[hd,hx] at he
    |true=>simp only[hd,cond_true,hx,Option.some.injEq,Prod.mk.injEq] at he⊢;obtain⟨rfl,rfl⟩:=he;exact⟨rfl,rfl⟩
  ·cases he
theorem cm_withX(r:Option SV):Cm fun X=>withX X r:=by
 intro h y g e O p D;cases r with
 |none=>cases e
 |some z=>simp only[withX,hx,Option.some.injEq,Prod.mk.injEq] at e⊢;obtain⟨rfl,rfl⟩:=e;exact⟨rfl,rfl⟩
theorem cm_blt(b:Builtin)(ts:Array TypeId)(vs:List SV):Cm (bltE P b ts vs):=by
 intro h y g e O p D;unfold bltE at e⊢;split at e
 ·split at e
  ·rename_i t ht;try simp only[ht]
   exact cm_withX _ h y g e O p D
  ·cases e
 ·split at e
  ·rename_i t ht;try simp only[ht]
   exact cm_withX _ h y g e O p D
  ·cases e
 ·exact cm_withX _ h y g e O p D
 ·exact cm_withX _ h y g e O p D
 ·split at e
  ·rename_i t u h1 h2
   try simp only[h1,h2]
   split at e
   ·rename_i d hd;cases hn:noInt d with
    |false=>
     simp only[hn,cond_false] at e⊢;cases hy:yesInt d with
     |false=>simp[hy,hx] at e
     |true=>simp only[hy,cond_true] at e⊢;exact cm_appendZ _ _ _ h y g e O p D
    |true=>simp only[hn,cond_true] at e⊢;exact cm_append _ _ _ h y g e O p D
   ·cases e
  ·cases e
 ·split at e
  ·rename_i t ht;try simp only[ht]
   exact cm_copy _ _ _ h y g e O p D
  ·cases e
 ·cases e
end
end Go.Xe
namespace Go.Xe
section
variable{P:Program}{C:YC}{callf:CallF}
def evV(P:Program)(callf:CallF)(op:Op)(vals:List SV)(X:XW):Option (Out×XW):=match op with
 | .call c=>(match c.callee with
   | .builtin b=>bif isPanB b then panE vals X else retO (bltE P b c.argTypes vals X)
   |_=>match calE P c vals X with
    |some (f,args)=>callf f args X
    |none=>none)
 | .panic _=>panE vals X
 |op=>retO (sem P op vals X)
theorem evOpO_eq{o:Oper}{F:Tr SV}{X:XW}:evOpO P callf o F X=match looks X.ng F o.op.operands.toList with|none=>none|some vals=>evV P callf o.op vals X:=by
 unfold evOpO;cases looks X.ng F o.op.operands.toList with
 |none=>rfl
 |some vals=>simp only[];cases o.op<;>rfl
def LiftOK(C:YC)(callf:CallF):Prop:=∀c args h o h',C c args h=some (o,h')→∀D,callf c args (h.xd D)=some (o,h'.xd D)
def OpR(P:Program)(callf:CallF)(op:Op)(v:List SV)(h:HW)(out:Out)(h':HW):Prop:=∀D,evV P callf op v (h.xd D)=some (out,h'.xd D)
def After(dr:Bool)(k:SV→HW→Rs)(r:Out×HW)(out:Out)(h':HW):Prop:=match out with
 | .ret y=>k y h'=some r
 | .pan ch=>dr=false∧r=(.pan ch,h')
def Goes(P:Program)(callf:CallF)(dr:Bool)(op:Op)(v:List SV)(h:HW)(k:SV→HW→Rs)(r:Out×HW):Prop:=∃out h',OpR P callf op v h out h'∧After dr k r out h'
theorem ob_spec{α:Type}{x:Option α}{k:α→Rs}{r:Out×HW}(e:ob x k=some r):∃y,x=some y∧k y=some r:=by
 cases x with
 |none=>cases e
 |some y=>exact⟨y,rfl,e⟩
theorem b2_spec{x:Option (SV×HW)}{k:SV→HW→Rs}{r:Out×HW}(e:b2 x k=some r):∃y h,x=some (y,h)∧k y h=some r:=by
 rcases x with _|⟨y,h⟩
 ·cases e
 ·exact⟨y,h,rfl,e⟩
theorem bcd_spec{dr:Bool}{x:Rs}{k:SV→HW→Rs}{r:Out×HW}(e:bcd dr x k=some r):∃out h,x=some (out,h)∧After dr k r out h:=by
 rcases x with _|⟨out,h⟩
 ·cases dr<;>cases e
 ·refine⟨out,h,rfl,?_⟩;cases out with
  |ret y=>cases dr<;>exact e
  |pan ch=>
   cases dr with
   |true=>cases e
   |false=>exact⟨rfl,(Option.some.inj e).symm⟩
theorem on1_spec{v:List SV}{k:SV→Rs}{r:Out×HW}(e:on1 v k=some r):∃a,v=[a]∧k a=some r:=by
 unfold on1 at e;split at e
 ·exact⟨_,rfl,e⟩
 ·cases e
theorem on2_spec{v:List SV}{k:SV→SV→Rs}{r:Out×HW}(e:on2 v k=some r):∃a b,v=[a,b]∧k a b=some r:=by
 unfold on2 at e;split at e
 ·exact⟨_,_,rfl,e⟩
 ·cases e
theorem on3_spec{v:List SV}{k:SV→SV→SV→Rs}{r:Out×HW}(e:on3 v k=some r):∃a b c,v=[a,b,c]∧k a b c=some r:=by
 unfold on3 at e;split at e
 ·exact⟨_,_,_,rfl,e⟩
 ·cases e
variable{dr:Bool}{op:Op}{v:List SV}{h:HW}{k:SV→HW→Rs}{r:Out×HW}
theorem goP{x:Option SV}(hs:∀X,evV P callf op v X=retO (withX X x))(e:ob x (fun y=>k y h)=some r):Goes P callf dr op v h k r:=by
 obtain⟨y,rfl,e⟩:=ob_spec e;exact⟨.ret y,h,fun D=>by rw[hs];rfl,e⟩
theorem goC{f:XW→Option (SV×XW)}(hf:Cm f)(hs:∀X,evV P callf op v X=retO (f X))(e:b2 (hx (f h.x0)) k=some r):Goes P callf dr op v h k r:=by
 obtain⟨y,g,h1,e⟩:=b2_spec e;exact⟨.ret y,g,fun D=>by rw[hs];unfold HW.xd;rw[hf h y g h1];rfl,e⟩
theorem goR{f:HW→Option SV}(hs:∀D,evV P callf op v (h.xd D)=retO (withX (h.xd D) (f h)))(e:ob (f h) (fun y=>k y h)=some r):Goes P callf dr op v h k r:=by
 obtain⟨y,h1,e⟩:=ob_spec e;exact⟨.ret y,h,fun D=>by rw[hs,h1];rfl,e⟩
theorem bin_eq(op:BinOp)(t:TypeId)(x y:SV):bin P op t x y=binE P op t x y:=by
 cases x<;>try rfl
 cases y<;>try rfl
 show(kAr op).run _ _ _ _=_;rw[kAr_eq];rfl
theorem load_x{t:TypeId}{b:Bool}{n:Nat}(ha:tyAgg P t=some b)(hn:tySize P t=some n){x:Operand}(a:SV)(h:HW)(D:List SD):
 evV P callf (.load t x) [a] (h.xd D)=retO (withX (h.xd D) (bif b then ldN n a h else ld1 a h)):=by
 cases a<;>try(cases b<;>rfl)
 rename_i j off;show retO (withX _ (semLoad P t (h.xd D) j off))=_;unfold semLoad;rw[ha,hn];simp only[HW.xd_objs];cases b with
 |true=>
  simp only[cond_true,ldN,ldNP];cases h.objs.get j with
  |none=>rfl
  |some o=>simp only[];rfl
 |false=>
  simp only[cond_false,ld1,ld1P];cases h.objs.get j<;>rfl
theorem st_x{n j off:Nat}{y:SV}{h g:HW}{t:TypeId}(hn:tySize P t=some n)(e:stP n j off y h=some g)(D:List SD):semStore P t (h.xd D) j off y=some (g.xd D):=by
 unfold stP at e;unfold semStore;rw[hn];simp only[HW.xd_objs];cases ho:h.objs.get j with
 |none=>simp[ho] at e
 |some o=>
  simp only[ho,stO] at e⊢;cases hc:(Nat.beq y.cells.length n&&Nat.ble (off+n) o.n&&!o.ro&&allOne y.cells) with
  |false=>simp[hc] at e
  |true=>
   simp only[hc,cond_true,Option.some.injEq,obSet_eq] at e⊢;subst e;obtain⟨ng,next,⟨tr,base⟩⟩:=h;rfl
theorem panE_x{vals:List SV}{h:HW}{r:Out×HW}{dr:Bool}(e:yPan dr vals h=some r):dr=false∧∃ch,r=(.pan ch,h)∧∀X,panE vals X=some (.pan ch,X):=by
 unfold yPan at e;split at e
 ·simp only[Option.some.injEq] at e;subst e;exact⟨rfl,_,rfl,fun X=>rfl⟩
 ·cases e
theorem yCall_spec(hC:LiftOK C callf){c:Call}(e:yCall P dr C c v h k=some r):Goes P callf dr (.call c) v h k r:=by
 unfold yCall at e;cases hc:c.callee with
 |builtin b=>
  have hev:∀X,evV P callf (.call c) v X=bif isPanB b then panE v X else retO (bltE P b c.argTypes v X):=fun X=>by simp only[evV,hc]
  simp only[hc] at e;unfold yBlt at e;split at e
  ·obtain⟨rfl,ch,rfl,hp⟩:=panE_x e;exact⟨.pan ch,h,fun D=>by rw[hev];exact hp _,rfl,rfl⟩
  ·obtain⟨x,hv,e'⟩:=on1_spec e;clear e;subst hv;revert e';intro e;split at e
   ·rename_i t ht;refine goP (fun X=>?_) e;rw[hev];simp only[isPanB,cond_false,bltE,ht]
   ·cases e
  ·rename_i h1 h2;refine goC (cm_blt _ c.argTypes v) (fun X=>?_) e;rw[hev]
   have:isPanB b=false:=by cases b<;>first|rfl|exact absurd rfl h1
   rw[this];rfl
 |value f=>
  simp only[hc] at e;split at e<;>try(cases e;done)
  rename_i f args;unfold cv at e;split at e
  ·rename_i g a b;obtain⟨out,h',h1,h2⟩:=bcd_spec e;exact⟨out,h',fun D=>by simp only[evV,hc,calE];exact hC _ _ _ _ _ h1 D,h2⟩
  ·rename_i j;obtain⟨out,h',h1,h2⟩:=bcd_spec e;exact⟨out,h',fun D=>by simp only[evV,hc,calE];exact hC _ _ _ _ _ h1 D,h2⟩
  ·cases e
 |invoke rc name=>
  simp only[hc] at e;split at e<;>try(cases e;done)
  rename_i x args;obtain⟨out,h',h1,h2⟩:=bcd_spec e;unfold iv at h1;split at h1<;>try(cases h1;done)
  rename_i f rv hm;exact⟨out,h',fun D=>by simp only[evV,hc,calE];unfold HW.xd;simp only[meth_x,hm];exact hC _ _ _ _ _ h1 D,h2⟩
theorem yS_spec(hC:LiftOK C callf)(e:yS P dr C op v h k=some r):Goes P callf dr op v h k r:=by
 unfold yS at e;split at e
 ·obtain⟨a,hv,e'⟩:=on1_spec e;clear e;subst hv;revert e';intro e;exact⟨.ret a,h,fun D=>rfl,e⟩
 ·obtain⟨a,hv,e'⟩:=on1_spec e;clear e;subst hv;revert e';intro e;exact⟨.ret a,h,fun D=>rfl,e⟩
 ·obtain⟨c,a,b,hv,e'⟩:=on3_spec e;clear e;subst hv;revert e';intro e;obtain⟨y,h1,e⟩:=ob_spec e;refine⟨.ret y,h,fun D=>?_,e⟩;unfold ypk at h1;split at h1
  ·rename_i t;cases t<;>(cases h1;rfl)
  ·cases h1
 ·split at e
  ·exact goC (cm_alloc _) (fun X=>rfl) e
  ·cases e
 ·obtain⟨a,hv,e'⟩:=on1_spec e;clear e;subst hv;revert e';intro e;exact goC (cm_box _ _) (fun X=>rfl) e
 ·exact goP (fun X=>rfl) e
 ·exact goC (cm_buildSlice _ _ _ _) (fun X=>rfl) e
 ·obtain⟨a,hv,e'⟩:=on1_spec e;clear e;subst hv;revert e';intro e;split at e
  ·rename_i n ha hn;exact goR (f:=fun h=>ldN n a h) (fun D=>load_x ha hn a h D) e
  ·rename_i n ha hn;exact goR (f:=fun h=>ld1 a h) (fun D=>load_x ha hn a h D) e
  ·cases e
 ·obtain⟨a,y,hv,e'⟩:=on2_spec e;clear e;subst hv;revert e';intro e;rename_i t _ _;split at e
  ·rename_i n hn;obtain⟨g,h1,e2⟩:=ob_spec e;unfold st at h1;split at h1<;>try(cases h1;done)
   rename_i j off;refine⟨.ret (.val undef),g,fun D=>?_,e2⟩;show retO (match semStore P t (h.xd D) j off y with|some X=>some (SV.val undef,X)|none=>none)=_;rw[st_x hn h1];rfl
  ·cases e
 ·obtain⟨a,hv,e'⟩:=on1_spec e;clear e;subst hv;revert e';intro e;exact goP (fun X=>rfl) e
 ·obtain⟨a,b,hv,e'⟩:=on2_spec e;clear e;subst hv;revert e';intro e;rw[bin_eq] at e;exact goP (fun X=>rfl) e
 ·obtain⟨a,hv,e'⟩:=on1_spec e;clear e;subst hv;revert e';intro e;exact goP (fun X=>rfl) e
 ·obtain⟨a,hv,e'⟩:=on1_spec e;clear e;subst hv;revert e';intro e;rename_i s d _;split at e
  ·rename_i k1 kd hs hd;refine goP (fun X=>?_) e;show retO (match semConv P s d a with|some y=>some (y,X)|none=>convX P s d a X)=_;unfold semConv convX;simp only[hs,hd];cases a<;>try rfl
   rename_i x;cases x<;>rfl
  ·refine goC (f:=fun X=>match semConv P s d a with|some y=>some (y,X)|none=>convX P s d a X) ?_ (fun X=>rfl) (by
    revert e;unfold ycv;cases semConv P s d a<;>exact id)
   cases semConv P s d a with
   |none=>exact cm_convX _ _ _
   |some y=>exact cm_withX (some y)
 ·obtain⟨a,hv,e'⟩:=on1_spec e;clear e;subst hv;revert e';intro e;rename_i t _;split at e
  ·cases e
  ·rename_i d hne hd;refine⟨.ret (.ifc t a),h,fun D=>?_,e⟩;show retO (withX _ (semIface P t a))=_;unfold semIface;simp only[hd];cases d<;>first|rfl|(exact absurd rfl (hne _))
  ·cases e
 ·exact⟨.ret _,h,fun D=>rfl,e⟩
 ·obtain⟨a,b,hv,e'⟩:=on2_spec e;clear e;subst hv;revert e';intro e;exact goC (cm_make _ _ _) (fun X=>rfl) e
 ·obtain⟨a,hv,e'⟩:=on1_spec e;clear e;subst hv;revert e';intro e;rename_i s _ f;split at e
  ·rename_i fd hf;split at e
   ·rename_i m hm;refine goP (fun X=>?_) e;cases a<;>try rfl
    rename_i j off;show retO (withX X (semFieldAddr P s f j off))=_;simp only[semFieldAddr,hf,hm,fa,force_eq]
   ·cases e
  ·cases e
 ·obtain⟨a,hv,e'⟩:=on1_spec e;clear e;subst hv;revert e';intro e;rename_i s _ f;split at e
  ·rename_i fd hf;split at e
   ·rename_i n ha hn;refine goP (fun X=>?_) e;cases a<;>try rfl
    rename_i cs;show retO (withX X (semField P s f cs))=_;simp only[semField,hf,partE,ha,hn,fdN]
   ·rename_i n ha hn;refine goP (fun X=>?_) e;cases a<;>try rfl
    rename_i cs;show retO (withX X (semField P s f cs))=_;simp only[semField,hf,partE,ha,hn,fd1]
   ·cases e
  ·cases e
 ·obtain⟨a,i,hv,e'⟩:=on2_spec e;clear e;subst hv;revert e';intro e;rename_i t _ _;split at e
  ·rename_i n el hu;split at e
   ·rename_i s hs;refine goP (fun X=>?_) e;show retO (withX X (semIndexAddr P t a i))=_;unfold semIndexAddr ixA;cases natOf i with
    |none=>rfl
    |some m=>
     simp only[hu];cases a<;>try rfl
     simp only[hs,atA,force_eq]
   ·cases e
  ·rename_i el hu;split at e
   ·rename_i s hs;refine goP (fun X=>?_) e;show retO (withX X (semIndexAddr P t a i))=_;unfold semIndexAddr ixS;cases natOf i with
    |none=>rfl
    |some m=>
     simp only[hu];cases a<;>try rfl
     simp only[hs,atA,force_eq]
   ·cases e
  ·cases e
 ·obtain⟨a,i,hv,e'⟩:=on2_spec e;clear e;subst hv;revert e';intro e;exact goP (fun X=>rfl) e
 ·obtain⟨a,hv,e'⟩:=on1_spec e;clear e;subst hv;revert e';intro e;refine goP (fun X=>?_) e;cases a<;>rfl
 ·obtain⟨a,hv,e'⟩:=on1_spec e;clear e;subst hv;revert e';intro e;exact goC (cm_range _ _) (fun X=>rfl) e
 ·obtain⟨a,hv,e'⟩:=on1_spec e;clear e;subst hv;revert e';intro e;obtain⟨y,g,h1,e2⟩:=b2_spec e;unfold ynx at h1;split at h1
  ·rename_i j
   exact⟨.ret y,g,fun D=>by
    show retO (semNext j (h.xd D))=_
    unfold HW.xd;rw[cm_next j h y g h1];rfl,e2⟩
  ·cases h1
 ·obtain⟨a,hv,e'⟩:=on1_spec e;clear e;subst hv;revert e';intro e;refine goP (fun X=>?_) e;cases a<;>rfl
 ·split at e
  ·exact⟨.ret _,_,fun D=>rfl,e⟩
  ·cases e
 ·obtain⟨m,q,hv,e'⟩:=on2_spec e;clear e;subst hv;revert e';intro e;rename_i t _ _ ok;exact goR (f:=fun h=>ylk P t ok m q h) (fun D=>rfl) e
 ·obtain⟨m,q,x,hv,e'⟩:=on3_spec e;clear e;subst hv;revert e';intro e;rename_i t _ _ _;obtain⟨g,h1,e⟩:=ob_spec e;refine⟨.ret (.val undef),g,fun D=>?_,e⟩;show retO (match semUpdate P t m q x (h.xd D) with|some X=>some (SV.val undef,X)|none=>none)=_;unfold HW.xd;rw[cs_update t m q x h g h1];rfl
 ·obtain⟨m,q,hv,e'⟩:=on2_spec e;clear e;subst hv;revert e';intro e;exact goC (cm_entry _ _ _) (fun X=>rfl) e
 ·obtain⟨m,q,x,hv,e'⟩:=on3_spec e;clear e;subst hv;revert e';intro e;obtain⟨g,h1,e⟩:=ob_spec e;refine⟨.ret (.val undef),g,fun D=>?_,e⟩;show retO (match semEntrySt m q x (h.xd D) with|some X=>some (SV.val undef,X)|none=>none)=_;unfold HW.xd;rw[cs_entrySt m q x h g h1];rfl
 ·obtain⟨x,hv,e'⟩:=on1_spec e;clear e;subst hv;revert e';intro e;exact goP (fun X=>rfl) e
 ·obtain⟨x,hv,e'⟩:=on1_spec e;clear e;subst hv;revert e';intro e;exact goP (fun X=>rfl) e
 ·obtain⟨x,l,hv,e'⟩:=on2_spec e;clear e;subst hv;revert e';intro e;exact goP (fun X=>rfl) e
 ·obtain⟨x,l,hv,e'⟩:=on2_spec e;clear e;subst hv;revert e';intro e;exact goP (fun X=>rfl) e
 ·obtain⟨x,l,m,hv,e'⟩:=on3_spec e;clear e;subst hv;revert e';intro e;exact goP (fun X=>rfl) e
 ·exact yCall_spec hC e
 ·obtain⟨rfl,ch,rfl,hp⟩:=panE_x e;exact⟨.pan ch,h,fun D=>hp _,rfl,rfl⟩
 ·cases e
end
end Go.Xe
namespace Go.Xe
section
variable{P:Program}{C:YC}{callf:CallF}{N:Nat}
def Feq(Ft:Tr SV)(F:Fr):Prop:=∀t,Ft.get t=F t
theorem Feq.put{Ft:Tr SV}{F:Fr}(hF:Feq Ft F)(d:Option Tmp)(y:SV):Feq (put N Ft d y) (putF N F d y):=fun t=>by
 cases d with
 |none=>exact hF t
 |some d=>
  simp only[Xe.put,putF];cases Nat.blt d N with
  |false=>exact hF t
  |true=>
   simp only[cond_true];rw[get_put];cases hb:Nat.beq t d with
   |true=>rw[if_pos (Nat.eq_of_beq_eq_true hb)];rfl
   |false=>rw[if_neg (Nat.ne_of_beq_eq_false hb)];exact hF t
theorem yLook_eq{Ft:Tr SV}{F:Fr}(hF:Feq Ft F)(ng:Nat)(x:Operand):look ng Ft x=yLook ng F x:=by
 cases x with
 |tmp t=>exact hF t
 |_=>rfl
theorem yl_spec{ng:Nat}{F:Fr}{x:Operand}{k:SV→Rs}{r:Out×HW}(e:yl ng F x k=some r):∃a,yLook ng F x=some a∧k a=some r:=by
 cases x with
 |tmp t=>exact ob_spec e
 |const v=>exact⟨_,rfl,e⟩
 |func f=>exact⟨_,rfl,e⟩
 |global g=>
  simp only[yl,gl,yLook,glO] at e⊢;cases hb:Nat.blt g ng with
  |false=>simp[hb] at e
  |true=>simp only[hb,cond_true] at e⊢;exact⟨_,rfl,e⟩
theorem yLs_spec{ng:Nat}{F:Fr}:∀{l:List Operand} {k:List SV→Rs} {r:Out×HW},yLs ng F l k=some r→∃v,(∀Ft,Feq Ft F→looks ng Ft l=some v)∧k v=some r
 | [],k,r,e=>⟨[],fun _ _=>rfl,e⟩
 |x::xs,k,r,e=>by
  obtain⟨a,h1,e⟩:=yl_spec e;obtain⟨v,h2,e⟩:=yLs_spec e;exact⟨a::v,fun Ft hF=>by simp only[looks,yLook_eq hF,h1,h2 Ft hF],e⟩
theorem evOp_of{o:Oper}{F:Tr SV}{X X':XW}{y:SV}(h:evOpO P callf o F X=some (.ret y,X')):evOp P callf o F X=some (y,X'):=by
 unfold evOpO at h;unfold evOp;split at h<;>try(cases h;done)
 rename_i vals hv
 try simp only[hv]
 have hp:∀vs,panE vs X≠some (.ret y,X'):=fun vs hh=>by unfold panE at hh;split at hh<;>cases hh
 have hr:∀z,retO z=some (.ret y,X')→z=some (y,X'):=fun z hz=>by
  rcases z with _|⟨a,b⟩
  ·cases hz
  ·cases hz;rfl
 split at h
 ·rename_i c hc;simp only[hc];unfold evCall;split at h
  ·rename_i b hb
   try simp only[hb]
   cases hpb:isPanB b with
   |true=>simp only[hpb,cond_true] at h;exact absurd h (hp _)
   |false=>simp only[hpb,cond_false] at h;exact hr _ h
  ·rename_i hb;split at h<;>try(cases h;done)
   rename_i cal args hcal
   try simp only[hcal]
   first
    |(split
      ·rename_i b hb';exact absurd hb' (hb b)
      ·simp only[hcal,callV,h])
    |simp only[callV,h]
 ·exact absurd h (hp _)
 ·rename_i h1 h2;split
  ·rename_i c hc;exact absurd hc (h1 c)
  ·exact hr _ h
theorem gd_spec{want:Bool}{x:Option SV}{r0:Rs}{h h':HW}{out:Out}(e:gd want x r0 h=some (out,h')):
 ∃y,x=some y∧(((∀X,asW X want y=some (false,X))∧out= .ret (.val undef)∧h'=h)∨((∀X,asW X want y=some (true,X))∧r0=some (out,h'))):=by
 cases x with
 |none=>cases e
 |some y=>
  refine⟨y,rfl,?_⟩;simp only[gd] at e;cases ht:isTup y with
  |true=>
   simp only[ht,cond_true,Option.some.injEq,Prod.mk.injEq] at e;obtain⟨rfl,rfl⟩:=e;exact .inl ⟨fun X=>by simp only[asW,ht,cond_true],rfl,rfl⟩
  |false=>
   simp only[ht,cond_false] at e;split at e
   ·rename_i b;cases hb:(b==want) with
    |true=>
     simp only[hb,cond_true] at e;exact .inr ⟨fun X=>by simp only[asW,ht,cond_false,asB,hb],e⟩
    |false=>
     simp only[hb,cond_false,Option.some.injEq,Prod.mk.injEq] at e;obtain⟨rfl,rfl⟩:=e;exact .inl ⟨fun X=>by simp only[asW,ht,cond_false,asB,hb],rfl,rfl⟩
   ·cases e
theorem yS_defer{dr:Bool}{op:Op}{v:List SV}{h:HW}{k:SV→HW→Rs}{r:Out×HW}(e:yS P dr C op v h k=some r):isDefer op=false:=by
 cases op<;>first|rfl|cases e
def StepR(P:Program)(callf:CallF)(N:Nat)(ops:List Oper)(o:Oper)(Ft:Tr SV)(h:HW)(out:Out)(h':HW):Prop:=∀D,match out with
 | .ret y=>stepO P callf N ops o Ft (h.xd D)=some (none,put N Ft o.dst y,h'.xd D)∧stepE P callf N ops o Ft (h.xd D)=some (put N Ft o.dst y,h'.xd D)
 | .pan ch=>stepO P callf N ops o Ft (h.xd D)=some (some ch,Ft,h'.xd D)
theorem step_of{ops:List Oper}{o:Oper}{Ft:Tr SV}{h h':HW}{out:Out}{v:List SV}(hw:∀D,wantE ops Ft (h.xd D) o.guard=some (true,h.xd D))(hd:isDefer o.op=false)
 (hl:looks h.ng Ft o.op.operands.toList=some v)(ho:OpR P callf o.op v h out h'):StepR P callf N ops o Ft h out h':=by
 intro D;have h1:evOpO P callf o Ft (h.xd D)=some (out,h'.xd D):=by rw[evOpO_eq,HW.xd_ng,hl];exact ho D
 cases out with
 |ret y=>
  refine⟨?_,?_⟩
  ·simp only[stepO,hw,hd,cond_false,h1]
  ·simp only[stepE,hw,evOp_of h1]
 |pan ch=>simp only[stepO,hw,hd,cond_false,h1]
theorem yOper_spec(hC:LiftOK C callf){dr:Bool}{ops:List Oper}{o:Oper}{F:Fr}{h:HW}{k:Fr→HW→Rs}{r:Out×HW}(e:yOper P C N dr ops o F h k=some r):
 ∃out h',After dr (fun y h=>k (putF N F o.dst y) h) r out h'∧∀Ft,Feq Ft F→StepR P callf N ops o Ft h out h':=by
 unfold yOper at e;split at e
 ·rename_i hg;obtain⟨v,h1,e⟩:=yLs_spec e;have hd:=yS_defer e;obtain⟨out,h',h2,h3⟩:=yS_spec hC e;exact⟨out,h',h3,fun Ft hF=>step_of (fun D=>by rw[hg];rfl) hd (h1 Ft hF) h2⟩
 ·rename_i j want hg;split at e<;>try(cases e;done)
  rename_i oj hj;split at e<;>try(cases e;done)
  rename_i d hdst;obtain⟨out,h',h1,h3⟩:=bcd_spec e;refine⟨out,h',h3,fun Ft hF=>?_⟩;obtain⟨y,hy,h4⟩:=gd_spec h1;have hwant:∀X,wantE ops Ft X o.guard=asW X want y:=fun X=>by simp only[wantE,hg,hj,hdst,hF d,hy]
  rcases h4 with⟨hn,rfl,rfl⟩|⟨hn,h5⟩
  ·intro D;exact⟨by simp only[stepO,hwant,hn],by simp only[stepE,hwant,hn]⟩
  ·obtain⟨v,h6,h7⟩:=yLs_spec h5;have hd:=yS_defer h7;obtain⟨out2,h8,h9,h10⟩:=yS_spec hC h7
   have he:out2=out∧h8=h':=by
    cases out2 with
    |ret z=>cases h10;exact⟨rfl,rfl⟩
    |pan ch=>obtain⟨_,h10⟩:=h10;cases h10;exact⟨rfl,rfl⟩
   obtain⟨rfl,rfl⟩:=he;exact step_of (fun D=>by rw[hwant,hn]) hd (h6 Ft hF) h9
theorem yOps_spec(hC:LiftOK C callf){ops:List Oper}:∀{l:List Oper} {F:Fr} {h:HW} {k:Fr→HW→Rs} {r:Out×HW},yOps P C N false ops l F h k=some r→
 (∃F' h',k F' h'=some r∧∀Ft,Feq Ft F→∃Ft',Feq Ft' F'∧∀D,evOps P callf N ops l Ft (h.xd D)=some (none,Ft',h'.xd D))∨
 (∃ch h',r=(.pan ch,h')∧∀Ft,Feq Ft F→∃Ft',∀D,evOps P callf N ops l Ft (h.xd D)=some (some ch,Ft',h'.xd D))
 | [],F,h,k,r,e=> .inl ⟨F,h,e,fun Ft hF=>⟨Ft,hF,fun _=>rfl⟩⟩
 |o::rest,F,h,k,r,e=>by
  obtain⟨out,h',h1,h2⟩:=yOper_spec hC e;cases out with
  |ret y=>
   rcases yOps_spec hC h1 with⟨F',h'',h3,h4⟩|⟨ch,h'',rfl,h4⟩
   ·refine .inl ⟨F',h'',h3,fun Ft hF=>?_⟩;obtain⟨Ft',h5,h6⟩:=h4 _ (hF.put o.dst y);exact⟨Ft',h5,fun D=>by simp only[evOps,(h2 Ft hF D).1,h6]⟩
   ·refine .inr ⟨ch,h'',rfl,fun Ft hF=>?_⟩;obtain⟨Ft',h6⟩:=h4 _ (hF.put o.dst y);exact⟨Ft',fun D=>by simp only[evOps,(h2 Ft hF D).1,h6]⟩
  |pan ch=>
   obtain⟨_,rfl⟩:=h1
   exact .inr ⟨ch,h',rfl,fun Ft hF=>⟨Ft,fun D=>by
    have:=h2 Ft hF D
    simp only at this
    simp only[evOps,this]⟩⟩
theorem yOpsT_spec(hC:LiftOK C callf){ops:List Oper}:∀{l:List Oper} {i:Nat} {F:Fr} {h:HW} {k:Fr→HW→Rs} {r:Out×HW},ops.drop i=l→yOps P C N true ops l F h k=some r→
 ∃F' h',k F' h'=some r∧∀Ft,Feq Ft F→∃Ft',Feq Ft' F'∧∀D recs,evD P callf N ops [] (List.range' i l.length) recs Ft (h.xd D)=some (Ft',h'.xd D)
 | [],i,F,h,k,r,_,e=>⟨F,h,e,fun Ft hF=>⟨Ft,hF,fun _ _=>rfl⟩⟩
 |o::rest,i,F,h,k,r,hl,e=>by
  obtain⟨out,h',h1,h2⟩:=yOper_spec hC e;cases out with
  |pan ch=>obtain⟨h1,_⟩:=h1;cases h1
  |ret y=>
   have hi:ops[i]?=some o:=by
    have:(ops.drop i)[0]?=some o:=by rw[hl];rfl
    simpa using this
   have hr:ops.drop (i+1)=rest:=by
    have:(ops.drop i).drop 1=rest:=by rw[hl];rfl
    rw[List.drop_drop] at this;exact this
   obtain⟨F',h'',h3,h4⟩:=yOpsT_spec hC hr h1;refine⟨F',h'',h3,fun Ft hF=>?_⟩;obtain⟨Ft',h5,h6⟩:=h4 _ (hF.put o.dst y);refine⟨Ft',h5,fun D recs=>?_⟩;simp only[List.length_cons,List.range'_succ,evD,hi,(h2 Ft hF D).2,chkOf,chkOK,cond_true,h6]
theorem adr_eq{ops:List Oper}{o:Oper}{Ft:Tr SV}{F:Fr}(hF:Feq Ft F)(h:HW)(D:List SD):addrOf ops o Ft (h.xd D)=yAdr ops o F h.ng:=by
 have hx:(match looks h.ng Ft o.op.operands.toList with
  |some [.ptr k _]=>some k
  |some [.sl k _ _ _ _]=>some k
  |some [.mp k,_]=>some k
  |_=>none)=(match o.op.operands.toList with| [x]=>adrO (yLook h.ng F x)| [x,y]=>adr2 (yLook h.ng F x) (yLook h.ng F y)|_=>none):=by
  generalize o.op.operands.toList=l;rcases l with _|⟨x,_|⟨y,_|⟨z,l⟩⟩⟩
  ·rfl
  ·simp only[looks,yLook_eq hF];cases yLook h.ng F x with
   |none=>rfl
   |some z=>cases z<;>rfl
  ·simp only[looks,yLook_eq hF];cases yLook h.ng F x with
   |none=>rfl
   |some a=>
    cases yLook h.ng F y with
    |none=>cases a<;>rfl
    |some b=>cases a<;>rfl
  ·simp only[looks];cases look h.ng Ft x with
   |none=>rfl
   |some a=>
    cases look h.ng Ft y with
    |none=>rfl
    |some b=>
     cases look h.ng Ft z with
     |none=>rfl
     |some c=>cases looks h.ng Ft l<;>(cases a<;>rfl)
 unfold addrOf yAdr;cases hg:o.guard with
 |none=>simp only[wantE,HW.xd_ng];exact hx
 |some g=>
  obtain⟨j,want⟩:=g;simp only[wantE];cases ops[j]? with
  |none=>rfl
  |some oj=>
   simp only[];cases oj.dst with
   |none=>rfl
   |some d=>
    simp only[hF d];cases F d with
    |none=>rfl
    |some y=>
     simp only[gdA,asW];cases ht:isTup y with
     |true=>rfl
     |false=>
      simp only[cond_false];cases y with
      |bool b=>
       simp only[asB];cases(b==want) with
       |true=>simp only[cond_true,HW.xd_ng];exact hx
       |false=>rfl
      |val v=>cases v<;>rfl
      |_=>rfl
theorem chk_eq{recs:List (Nat×Option Nat)}{h h':HW}{D:List SD}:∀ls:List Nat,chkOK recs (h.xd D) (h'.xd D) ls=chkH recs h h' ls
 | []=>rfl
 |l::ls=>by
  simp only[chkOK,chkH,chk_eq ls];congr 1;cases findK recs l with
  |none=>rfl
  |some k=>
   simp only[sameVer,sameH,verOf,HW.xd_objs,HW.xd_next];cases Nat.blt k h.next with
   |false=>rfl
   |true=>
    simp only[cond_true];cases h.objs.get k with
    |none=>rfl
    |some o=>cases h'.objs.get k<;>rfl
theorem ck_spec{b:Bool}{k:Rs}{r:Out×HW}(e:ck b k=some r):b=true∧k=some r:=by
 cases b with
 |false=>cases e
 |true=>exact⟨rfl,e⟩
theorem yChk_spec{recs:List (Nat×Option Nat)}{h h':HW}{ls:List Nat}{k:Rs}{r:Out×HW}(e:yChk recs h h' ls k=some r):chkH recs h h' ls=true∧k=some r:=by
 unfold yChk at e;split at e
 ·exact⟨rfl,e⟩
 ·exact ck_spec e
theorem rec_eq{ops:List Oper}{i:Nat}{o:Oper}{Ft:Tr SV}{F:Fr}(hF:Feq Ft F)(h:HW)(D:List SD)(recs:List (Nat×Option Nat)):
 (bif isRead P o.op then(i,addrOf ops o Ft (h.xd D))::recs else recs)=recOf P ops i o F h.ng recs:=by
 unfold recOf;rw[adr_eq hF]
theorem yD_spec(hC:LiftOK C callf){ops:List Oper}{chk:List (Nat×List Nat)}:∀{is:List Nat} {recs:List (Nat×Option Nat)} {F:Fr} {h:HW} {k:Fr→HW→Rs} {r:Out×HW},yD P C N ops chk is recs F h k=some r→
 ∃F' h',k F' h'=some r∧∀Ft,Feq Ft F→∃Ft',Feq Ft' F'∧∀D,evD P callf N ops chk is recs Ft (h.xd D)=some (Ft',h'.xd D)
 | [],recs,F,h,k,r,e=>⟨F,h,e,fun Ft hF=>⟨Ft,hF,fun _=>rfl⟩⟩
 |i::is,recs,F,h,k,r,e=>by
  unfold yD at e;split at e<;>try(cases e;done)
  rename_i o ho;obtain⟨out,h',h1,h2⟩:=yOper_spec hC e;cases out with
  |pan ch=>obtain⟨h1,_⟩:=h1;cases h1
  |ret y=>
   obtain⟨hc,h1⟩:=yChk_spec h1;obtain⟨F',h'',h3,h4⟩:=yD_spec hC h1;refine⟨F',h'',h3,fun Ft hF=>?_⟩;obtain⟨Ft',h5,h6⟩:=h4 _ (hF.put o.dst y);refine⟨Ft',h5,fun D=>?_⟩;simp only[evD,ho,(h2 Ft hF D).2,chk_eq,hc,cond_true,rec_eq hF,h6]
theorem yNew_spec{op:Op}{v:List SV}{base i:Nat}{h:HW}{k:SV→HW→Rs}{r:Out×HW}(e:yNew P op v base i h k=some r):
 ∃y g,lowL base v=true∧k y g=some r∧∀D,∃X',sem P op v {h.xd D with next:=base+i}=some (y,X')∧{X' with next:=h.next}=g.xd D:=by
 have key:∀(f:XW→Option (SV×XW)),Cm f→∀{y g},ynf (fun h=>hx (f h.x0)) base i h=some (y,g)→∀D,∃X',f {h.xd D with next:=base+i}=some (y,X')∧{X' with next:=h.next}=g.xd D:=by
  intro f hf y g he D;unfold ynf at he;split at he<;>try(cases he;done)
  rename_i y' h' he';cases he;exact⟨_,hf ⟨h.ng,base+i,h.objs⟩ y h' he' [] [] D,rfl⟩
 cases op<;>try(cases e;done)
 ·simp only[yNew] at e;split at e
  ·obtain⟨y,g,h1,e⟩:=b2_spec e;exact⟨y,g,rfl,e,key _ (cm_alloc _) h1⟩
  ·cases e
 ·simp only[yNew] at e;obtain⟨a,rfl,e⟩:=on1_spec e;obtain⟨hl,e⟩:=ck_spec e;obtain⟨y,g,h1,e⟩:=b2_spec e;exact⟨y,g,by simp only[lowL,hl,Bool.and_true],e,key _ (cm_box _ _) h1⟩
 ·simp only[yNew] at e;obtain⟨hl,e⟩:=ck_spec e;obtain⟨y,g,h1,e⟩:=b2_spec e;exact⟨y,g,hl,e,key _ (cm_buildSlice _ _ _ _) h1⟩
 ·simp only[yNew] at e;obtain⟨a,b,rfl,e⟩:=on2_spec e;obtain⟨hl,e⟩:=ck_spec e;obtain⟨y,g,h1,e⟩:=b2_spec e;exact⟨y,g,by simpa only[lowL,Bool.and_true] using hl,e,key _ (cm_make _ _ _) h1⟩
theorem yLow_spec{ops:List Oper}{base:Nat}{o:Oper}{Ft:Tr SV}{F:Fr}(hF:Feq Ft F){h:HW}{k:Rs}{r:Out×HW}(e:yLow P ops base o F h.ng k=some r):k=some r∧∀D,lowRead P ops base o Ft (h.xd D)=true:=by
 unfold yLow at e;unfold lowRead;cases hr:isRead P o.op with
 |false=>simp only[hr,cond_false] at e⊢;exact⟨e,fun _=>trivial⟩
 |true=>
  simp only[hr,cond_true] at e⊢;obtain⟨h1,e⟩:=ck_spec e;refine⟨e,fun D=>?_⟩;rw[adr_eq hF];unfold lowA at h1;exact h1
theorem yNs_spec(hC:LiftOK C callf){ops:List Oper}{rs:List Nat}{chk:List (Nat×List Nat)}{base:Nat}:∀{is:List Nat} {recs:List (Nat×Option Nat)} {F:Fr} {h:HW} {k:Fr→HW→Rs} {r:Out×HW},yNs P C N ops rs chk base is recs F h k=some r→
 ∃F' h',k F' h'=some r∧∀Ft,Feq Ft F→∃Ft',Feq Ft' F'∧∀D,evN P callf N ops rs chk base is recs Ft (h.xd D)=some (Ft',h'.xd D)
 | [],recs,F,h,k,r,e=>⟨F,h,e,fun Ft hF=>⟨Ft,hF,fun _=>rfl⟩⟩
 |i::is,recs,F,h,k,r,e=>by
  unfold yNs at e;split at e<;>try(cases e;done)
  rename_i o ho;cases hn:newR rs i o.op with
  |false=>
   simp only[hn,cond_false] at e
   have e':yOper P C N true ops o F h (fun F' h'=>yChk recs h h' (chkOf chk i) (yNs P C N ops rs chk base is (recOf P ops i o F h.ng recs) F' h' k))=some r:=by
    unfold yLow at e;cases hr:isRead P o.op with
    |false=>simp only[hr,cond_false] at e;exact e
    |true=>simp only[hr,cond_true] at e;exact(ck_spec e).2
   obtain⟨out,h',h1,h2⟩:=yOper_spec hC e';cases out with
   |pan ch=>obtain⟨h1,_⟩:=h1;cases h1
   |ret y=>
    obtain⟨hc,h1⟩:=yChk_spec h1;obtain⟨F',h'',h3,h4⟩:=yNs_spec hC h1;refine⟨F',h'',h3,fun Ft hF=>?_⟩;obtain⟨Ft',h5,h6⟩:=h4 _ (hF.put o.dst y);refine⟨Ft',h5,fun D=>?_⟩;simp only[evN,ho,(yLow_spec hF e).2 D,cond_true,stepN,hn,cond_false,(h2 Ft hF D).2,chk_eq,hc,rec_eq hF,h6]
  |true=>
   simp only[hn,cond_true] at e
   have e':(match o.guard with
    |some _=>none
    |none=>yLs h.ng F o.op.operands.toList fun v=>yNew P o.op v base i h fun y h'=>yChk recs h h' (chkOf chk i) (yNs P C N ops rs chk base is (recOf P ops i o F h.ng recs) (putF N F o.dst y) h' k))=some r:=by
    unfold yLow at e;cases hr:isRead P o.op with
    |false=>simp only[hr,cond_false] at e;exact e
    |true=>simp only[hr,cond_true] at e;exact(ck_spec e).2
   split at e'<;>try(cases e';done)
   rename_i hg;obtain⟨v,hv,e'⟩:=yLs_spec e';obtain⟨y,g,hlow,e',hsem⟩:=yNew_spec e';obtain⟨hc,e'⟩:=yChk_spec e';obtain⟨F',h'',h3,h4⟩:=yNs_spec hC e';refine⟨F',h'',h3,fun Ft hF=>?_⟩;obtain⟨Ft',h5,h6⟩:=h4 _ (hF.put o.dst y);refine⟨Ft',h5,fun D=>?_⟩;obtain⟨X',hs1,hs2⟩:=hsem D
   have hstep:stepN P callf N ops rs base i o Ft (h.xd D)=some (put N Ft o.dst y,g.xd D):=by
    simp only[stepN,hn,cond_true,hg,HW.xd_ng,hv Ft hF,hlow,force_eq]
    erw [hs1]
    exact congrArg (fun z=>some (put N Ft o.dst y,z)) hs2
   simp only[evN,ho,(yLow_spec hF e).2 D,cond_true,hstep,chk_eq,hc,rec_eq hF,h6]
theorem dead_eq{h:HW}{D:List SD}{base:Nat}:∀rs:List Nat,allDead (h.xd D) base rs=deadH h base rs
 | []=>rfl
 |k::ks=>by simp only[allDead,deadH,dead_eq ks];rfl
end
end Go.Xe
namespace Go.Xe
section
variable{P:Program}{C:YC}{callf:CallF}{N:Nat}
def PostY(kn kr:Fr→HW→Rs)(ke:Nat→Fr→HW→Rs)(r:Out×HW)(ex:Ex)(F:Fr)(h:HW):Prop:=match ex with
 | .nm=>kn F h=some r
 | .ret=>kr F h=some r
 | .ex i=>ke i F h=some r
 | .pan ch=>r=(.pan ch,h)
 | .gt _=>False
def CodeY(ev:Tr SV→XW→R)(F:Fr)(h:HW)(kn kr:Fr→HW→Rs)(ke:Nat→Fr→HW→Rs)(r:Out×HW):Prop:=
 ∃ex F' h',PostY kn kr ke r ex F' h'∧∀Ft,Feq Ft F→∃Ft',(Feq Ft' F'∨∃ch,ex= .pan ch)∧∀D,ev Ft (h.xd D)=some (ex,Ft',h'.xd D)
theorem loopY{ev:Tr SV→XW→R}{body:Fr→HW→(Fr→HW→Rs)→Rs}{kr:Fr→HW→Rs}{ke:Nat→Fr→HW→Rs}{r:Out×HW}(hb:∀F h k,body F h k=some r→CodeY ev F h k kr ke r):
 ∀(n:Nat) (F:Fr) (h:HW) (kn:Fr→HW→Rs),yLoop body n F h=some r→CodeY (loopE ev n) F h kn kr ke r
 |0,F,h,kn,e=>by cases e
 |n+1,F,h,kn,e=>by
  have e':body F h (yLoop body n)=some r:=e;obtain⟨ex,F',h',h1,h2⟩:=hb _ _ _ e';cases ex with
  |nm=>
   obtain⟨ex,F'',h'',h3,h4⟩:=loopY hb n F' h' kn h1;refine⟨ex,F'',h'',h3,fun Ft hF=>?_⟩;obtain⟨Ft',h5,h6⟩:=h2 Ft hF
   have h5:Feq Ft' F':=by
    rcases h5 with h5|⟨ch,hh⟩
    ·exact h5
    ·cases hh
   obtain⟨Ft'',h7,h8⟩:=h4 Ft' h5;refine⟨Ft'',h7,fun D=>?_⟩;show(match ev Ft (h.xd D) with|some (.nm,F,X)=>loopE ev n F X|r=>r)=_;rw[h6];exact h8 D
  |gt l=>exact h1.elim
  |ret=>
   refine⟨.ret,F',h',h1,fun Ft hF=>?_⟩;obtain⟨Ft',h5,h6⟩:=h2 Ft hF;refine⟨Ft',h5,fun D=>?_⟩;show(match ev Ft (h.xd D) with|some (.nm,F,X)=>loopE ev n F X|r=>r)=_;rw[h6]
  |ex i=>
   refine⟨.ex i,F',h',h1,fun Ft hF=>?_⟩;obtain⟨Ft',h5,h6⟩:=h2 Ft hF;refine⟨Ft',h5,fun D=>?_⟩;show(match ev Ft (h.xd D) with|some (.nm,F,X)=>loopE ev n F X|r=>r)=_;rw[h6]
  |pan ch=>
   refine⟨.pan ch,F',h',h1,fun Ft hF=>?_⟩;obtain⟨Ft',h5,h6⟩:=h2 Ft hF;refine⟨Ft',h5,fun D=>?_⟩;show(match ev Ft (h.xd D) with|some (.nm,F,X)=>loopE ev n F X|r=>r)=_;rw[h6]
theorem code_nm{ev:Tr SV→XW→R}{F:Fr}{h:HW}{kn kr:Fr→HW→Rs}{ke:Nat→Fr→HW→Rs}{r:Out×HW}{F':Fr}{h':HW}(h1:kn F' h'=some r)
 (h2:∀Ft,Feq Ft F→∃Ft',Feq Ft' F'∧∀D,ev Ft (h.xd D)=some (.nm,Ft',h'.xd D)):CodeY ev F h kn kr ke r:=
 ⟨.nm,F',h',h1,fun Ft hF=>let ⟨Ft',h3,h4⟩:=h2 Ft hF;⟨Ft',.inl h3,h4⟩⟩
theorem evY_spec(hC:LiftOK C callf){ord:Nat→Hint}{me:FuncId}{rd:Option Nat}{lf:Nat}{jump:JumpF}:∀(c:Code) {F:Fr} {h:HW} {kn kr:Fr→HW→Rs} {ke:Nat→Fr→HW→Rs} {r:Out×HW},
 evY P C N ord lf c F h kn kr ke=some r→CodeY (evC P callf ord me rd N lf jump c) F h kn kr ke r:=by
 intro c
 induction c with
 |skip=>intro F h kn kr ke r e;exact code_nm (F':=F) (h':=h) e fun Ft hF=>⟨Ft,hF,fun _=>rfl⟩
 |region id ops d=>
  intro F h kn kr ke r e;cases d with
  |false=>
   rcases yOps_spec hC e with⟨F',h',h1,h2⟩|⟨ch,h',rfl,h2⟩
   ·refine code_nm h1 fun Ft hF=>?_
    obtain⟨Ft',h3,h4⟩:=h2 Ft hF;exact⟨Ft',h3,fun D=>by simp only[evC,h4]⟩
   ·refine⟨.pan ch,F,h',rfl,fun Ft hF=>?_⟩;obtain⟨Ft',h4⟩:=h2 Ft hF;exact⟨Ft',.inr ⟨ch,rfl⟩,fun D=>by simp only[evC,h4]⟩
  |true=>
   simp only[evY] at e;cases ho:ord id with
   |text=>
    simp only[ho] at e;obtain⟨F',h',h1,h2⟩:=yOpsT_spec (i:=0) hC rfl e;refine code_nm h1 fun Ft hF=>?_
    obtain⟨Ft',h3,h4⟩:=h2 Ft hF;refine⟨Ft',h3,fun D=>?_⟩
    have:=h4 D []
    rw[Array.length_toList, ← List.range_eq_range'] at this;simp only[evC,ho]
    erw [this]
    rfl
   |skip=>simp only[ho] at e;cases e
   |ord is chk=>
    simp only[ho] at e;obtain⟨F',h',h1,h2⟩:=yD_spec hC e;refine code_nm h1 fun Ft hF=>?_
    obtain⟨Ft',h3,h4⟩:=h2 Ft hF;refine⟨Ft',h3,fun D=>?_⟩;simp only[evC,ho]
    erw [h4 D]
    rfl
   |news is rs chk=>
    simp only[ho,nwB,force_eq] at e;obtain⟨hd,e⟩:=ck_spec e;obtain⟨F',h',h1,h2⟩:=yNs_spec hC e;refine code_nm h1 fun Ft hF=>?_
    obtain⟨Ft',h3,h4⟩:=h2 Ft hF;refine⟨Ft',h3,fun D=>?_⟩;have h5:=h4 D;simp only[evC,ho,force_eq,HW.xd_next,dead_eq,hd,cond_true]
    erw [h5]
    rfl
 |seq a b iha ihb=>
  intro F h kn kr ke r e;obtain⟨ex,F',h',h1,h2⟩:=iha e;cases ex with
  |nm=>
   obtain⟨ex,F'',h'',h3,h4⟩:=ihb h1;refine⟨ex,F'',h'',h3,fun Ft hF=>?_⟩;obtain⟨Ft',h5,h6⟩:=h2 Ft hF
   have h5:Feq Ft' F':=by
    rcases h5 with h5|⟨ch,hh⟩
    ·exact h5
    ·cases hh
   obtain⟨Ft'',h7,h8⟩:=h4 Ft' h5;exact⟨Ft'',h7,fun D=>by simp only[evC,h6,h8]⟩
  |gt l=>exact h1.elim
  |ret=>
   refine⟨.ret,F',h',h1,fun Ft hF=>?_⟩;obtain⟨Ft',h5,h6⟩:=h2 Ft hF;exact⟨Ft',h5,fun D=>by simp only[evC,h6]⟩
  |ex i=>
   refine⟨.ex i,F',h',h1,fun Ft hF=>?_⟩;obtain⟨Ft',h5,h6⟩:=h2 Ft hF;exact⟨Ft',h5,fun D=>by simp only[evC,h6]⟩
  |pan ch=>
   refine⟨.pan ch,F',h',h1,fun Ft hF=>?_⟩;obtain⟨Ft',h5,h6⟩:=h2 Ft hF;exact⟨Ft',h5,fun D=>by simp only[evC,h6]⟩
 |cond c a b iha ihb=>
  intro F h kn kr ke r e;simp only[evY] at e;obtain⟨y,hy,e⟩:=yl_spec e;unfold yIf at e;split at e<;>try(cases e;done)
  rename_i t;cases t with
  |true=>
   obtain⟨ex,F',h',h1,h2⟩:=iha e;refine⟨ex,F',h',h1,fun Ft hF=>?_⟩;obtain⟨Ft',h5,h6⟩:=h2 Ft hF;exact⟨Ft',h5,fun D=>by simp only[evC,HW.xd_ng,yLook_eq hF,hy,asB,h6]⟩
  |false=>
   obtain⟨ex,F',h',h1,h2⟩:=ihb e;refine⟨ex,F',h',h1,fun Ft hF=>?_⟩;obtain⟨Ft',h5,h6⟩:=h2 Ft hF;exact⟨Ft',h5,fun D=>by simp only[evC,HW.xd_ng,yLook_eq hF,hy,asB,h6]⟩
 |block id c ih=>
  intro F h kn kr ke r e;obtain⟨ex,F',h',h1,h2⟩:=ih e;cases ex with
  |ex i=>
   cases hb:Nat.beq i id with
   |true=>
    have h1:kn F' h'=some r:=by simpa only[PostY,hb,cond_true] using h1
    refine⟨.nm,F',h',h1,fun Ft hF=>?_⟩;obtain⟨Ft',h5,h6⟩:=h2 Ft hF
    have h5:Feq Ft' F':=by
     rcases h5 with h5|⟨ch,hh⟩
     ·exact h5
     ·cases hh
    exact⟨Ft',.inl h5,fun D=>by simp only[evC,h6,hb,cond_true]⟩
   |false=>
    have h1:ke i F' h'=some r:=by simpa only[PostY,hb,cond_false] using h1
    refine⟨.ex i,F',h',h1,fun Ft hF=>?_⟩;obtain⟨Ft',h5,h6⟩:=h2 Ft hF;exact⟨Ft',h5,fun D=>by simp only[evC,h6,hb,cond_false]⟩
  |gt l=>exact h1.elim
  |nm=>
   refine⟨.nm,F',h',h1,fun Ft hF=>?_⟩;obtain⟨Ft',h5,h6⟩:=h2 Ft hF;exact⟨Ft',h5,fun D=>by simp only[evC,h6]⟩
  |ret=>
   refine⟨.ret,F',h',h1,fun Ft hF=>?_⟩;obtain⟨Ft',h5,h6⟩:=h2 Ft hF;exact⟨Ft',h5,fun D=>by simp only[evC,h6]⟩
  |pan ch=>
   refine⟨.pan ch,F',h',h1,fun Ft hF=>?_⟩;obtain⟨Ft',h5,h6⟩:=h2 Ft hF;exact⟨Ft',h5,fun D=>by simp only[evC,h6]⟩
 |loop c ih=>
  intro F h kn kr ke r e;exact loopY (fun F h k e=>ih e) lf F h kn e
 |exit id=>intro F h kn kr ke r e;exact⟨.ex id,F,h,e,fun Ft hF=>⟨Ft,.inl hF,fun _=>rfl⟩⟩
 |label l=>intro F h kn kr ke r e;exact code_nm (F':=F) (h':=h) e fun Ft hF=>⟨Ft,hF,fun _=>rfl⟩
 |ret=>intro F h kn kr ke r e;exact⟨.ret,F,h,e,fun Ft hF=>⟨Ft,.inl hF,fun _=>rfl⟩⟩
 |_=>intro F h kn kr ke r e;cases e
theorem yRes_spec{F:Fr}{h:HW}{k:SV→Rs}{rv:ResultVar}{r:Out×HW}(e:yRes P F h k rv=some r):∃y,k y=some r∧∀Ft,Feq Ft F→∀D,resultE P Ft (h.xd D) rv=some y:=by
 cases rv with
 |tmp t=>
  obtain⟨y,h1,e⟩:=ob_spec e;exact⟨y,e,fun Ft hF D=>by simp only[resultE,hF t,h1]⟩
 |cell a t=>
  simp only[yRes] at e;obtain⟨q,h1,e⟩:=ob_spec e;split at e
  ·rename_i n ha hn;obtain⟨y,h2,e⟩:=ob_spec e;refine⟨y,e,fun Ft hF D=>?_⟩;simp only[resultE,hF a,h1];unfold ldN at h2;split at h2<;>try(cases h2;done)
   rename_i k off;simp only[semLoad,ha,hn,HW.xd_objs];unfold ldNP at h2;cases ho:h.objs.get k with
   |none=>simp[ho] at h2
   |some o=>simp only[ho] at h2⊢;exact h2
  ·rename_i n ha hn;obtain⟨y,h2,e⟩:=ob_spec e;refine⟨y,e,fun Ft hF D=>?_⟩;simp only[resultE,hF a,h1];unfold ld1 at h2;split at h2<;>try(cases h2;done)
   rename_i k off;simp only[semLoad,ha,hn,HW.xd_objs];unfold ld1P at h2;cases ho:h.objs.get k with
   |none=>simp[ho] at h2
   |some o=>simp only[ho] at h2⊢;exact h2
  ·cases e
theorem yRss_spec{F:Fr}{h:HW}:∀{rs:List ResultVar} {k:List SV→Rs} {r:Out×HW},yRss P F h rs k=some r→∃ys,k ys=some r∧∀Ft,Feq Ft F→∀D,resultsE P Ft (h.xd D) rs=some ys
 | [],k,r,e=>⟨[],e,fun _ _ _=>rfl⟩
 |x::rs,k,r,e=>by
  obtain⟨y,e,h1⟩:=yRes_spec e;obtain⟨ys,e,h2⟩:=yRss_spec e;exact⟨y::ys,e,fun Ft hF D=>by simp only[resultsE,h1 Ft hF D,h2 Ft hF D]⟩
theorem feq_args(args:List SV):Feq (storeN .nil 0 args) (frOf args):=fun t=>by
 rw[get_storeN_eq];unfold frOf;by_cases ht:t<args.length
 ·rw[if_pos ⟨Nat.zero_le _,by omega⟩];simp
 ·rw[if_neg (by omega),List.getElem?_eq_none (by omega)];rfl
theorem yFn_spec{e:Evs}(hC:LiftOK C e.call)(xf:XF P){lf:Nat}{args:List SV}{h h':HW}{out:Out}(hl:Nat.ble args.length xf.fn.ntmps=true)(hy:yFn P xf C lf args h=some (out,h')):
 ∀D,goE e xf lf xf.f args (h.xd D)=some (out,h'.xd D):=by
 intro D;obtain⟨ex,F',h2,h3,h4⟩:=evY_spec (rd:=none) (me:=xf.f) (jump:=jumpE P e.call xf.ord xf.f none xf.fn.ntmps lf lf) hC _ hy;obtain⟨Ft',h5,h6⟩:=h4 _ (feq_args args);have h7:=h6 []
 have hfin:yFin P xf.fn F' h2=some (out,h')→Feq Ft' F'→leaveE P e.dcall xf.fn Ft' [] .ret (h2.xd [])=some (out,h'.xd []):=by
  intro hf hq;obtain⟨ys,h8,h9⟩:=yRss_spec hf;cases h8;simp only[leaveE,h9 Ft' hq]
 have hq:(∃ch,ex= .pan ch)∨Feq Ft' F':=h5.symm;unfold goE bodyE;have hbeq:Nat.beq xf.f xf.f=true:=Nat.beq_refl _;simp only[hbeq,hl,Bool.and_self,cond_true];have hb:evC P e.call xf.ord xf.f none xf.fn.ntmps lf (jumpE P e.call xf.ord xf.f none xf.fn.ntmps lf lf) (xf.fn.body.getD .skip) (storeN .nil 0 args) {h.xd D with dfs:=[]}=some (ex,Ft',h2.xd []):=h7;rw[hb];cases ex with
 |nm=>
  have hq:Feq Ft' F':=by
   rcases hq with⟨ch,hh⟩|hq
   ·cases hh
   ·exact hq
  show withD D (leaveE P e.dcall xf.fn Ft' [] .ret (h2.xd []))=_;rw[hfin h3 hq];rfl
 |ret=>
  have hq:Feq Ft' F':=by
   rcases hq with⟨ch,hh⟩|hq
   ·cases hh
   ·exact hq
  show withD D (leaveE P e.dcall xf.fn Ft' [] .ret (h2.xd []))=_;rw[hfin h3 hq];rfl
 |ex i=>cases h3
 |pan ch=>cases h3;rfl
 |gt l=>exact h3.elim
end
end Go.Xe
namespace Go.Xe
noncomputable section
abbrev KZ:=List Nat→Fr→HW→Rs
def blkH(rd:Option Nat)(L:List Nat)(h:HW):Option (Nat×List Nat×HW):=match rd with
 |none=>some (h.next,h.next::L,⟨h.ng,h.next+1,h.objs.put h.next mkBlk⟩)
 |some k=>match h.objs.get k with
  |some o=>match o.sp with
   | .loop _ _ _ _ _ _ _ _ _ b=>some (b,L,h)
   |_=>none
  |none=>none
def doneOb(o:Ob):Ob:=match o.sp with
 | .loop _ pend ord me N G ps a c b=>{o with ver:=o.ver+1,sp:= .loop .exhausted pend ord me N G ps a c b}
 |_=>o
def retC:Code→Bool
 | .ret=>true
 | .seq a b=>retC a||retC b
 | .cond _ a b=>retC a||retC b
 | .block _ c=>retC c
 | .loop c=>retC c
 | .rangeFunc _ _ a c=>retC a||retC c
 |_=>false
def exC:Code→List Nat
 | .exit id=>[id]
 | .seq a b=>exC a++exC b
 | .cond _ a b=>exC a++exC b
 | .block id c=>(exC c).filter fun i=>!Nat.beq i id
 | .loop c=>exC c
 | .rangeFunc _ _ a c=>exC a++exC c
 |_=>[]
abbrev KT:=List Nat→HW→Rs
def exK:List (Nat×KT)→Nat→KT
 | [],_=>fun _ _=>none
 |(i,k)::l,j=>fun L h=>bif Nat.beq j i then k L h else exK l j L h
def jumpT(p:Jump)(L:List Nat)(h:HW)(kn kr:KT)(ke:List (Nat×KT)):Rs:=match p with
 | .none=>kn L h
 | .ret=>kr L h
 | .ex id=>exK ke id L h
def endT(L:List Nat)(l:Nat)(h:HW)(kn kr:KT)(ke:List (Nat×KT)):Rs:=match h.objs.get l with
 |some o=>(match o.sp with
  | .loop st pend _ _ _ _ _ _ _ _=>(match st with
    | .busy=>none
    |_=>jumpT pend L ⟨h.ng,h.next,h.objs.put l (doneOb o)⟩ kn kr ke)
  |_=>none)
 |none=>none
def rangeT(C:YC)(ord:Nat→Hint)(me:FuncId)(rd:Option Nat)(N:Nat)(ps:Array Tmp)(a c:Code)(g:SV)(L:List Nat)(T:Tr SV)(h:HW)(kn kr:KT)(ke:List (Nat×KT)):Rs:=match g,blkH rd L h with
 | .fn (.func f) fa fb,some (b,L1,h1)=>bcn (C (.ent f) (fa++[.yld h1.next]++fb) ⟨h1.ng,h1.next+1,h1.objs.put h1.next (mkLoop ord me N T ps a c b)⟩) fun _ h2=>endT L1 h1.next h2 kn kr ke
 |_,_=>none
def noT:KT:=fun _ _=>none
def zLoop(body:List Nat→Fr→HW→KZ→Rs)(n:Nat):KZ:=Nat.rec (motive:=fun _=>KZ) (fun _ _ _=>none) (fun _ ih L F h=>body L F h ih) n
section
variable(P:Program)(C:YC)(N:Nat)
def evZ(ord:Nat→Hint)(me:FuncId)(rd:Option Nat)(lf:Nat):Code→List Nat→Fr→HW→KZ→KZ→(Nat→KZ)→Rs
 | .seq a b,L,F,h,kn,kr,ke=>evZ ord me rd lf a L F h (fun L F h=>evZ ord me rd lf b L F h kn kr ke) kr ke
 | .cond c a b,L,F,h,kn,kr,ke=>yl h.ng F c fun y=>yIf y (evZ ord me rd lf a L F h kn kr ke) (evZ ord me rd lf b L F h kn kr ke)
 | .block id c,L,F,h,kn,kr,ke=>evZ ord me rd lf c L F h kn kr (fun i L F h=>bif Nat.beq i id then kn L F h else ke i L F h)
 | .loop c,L,F,h,_,kr,ke=>zLoop (fun L F h k=>evZ ord me rd lf c L F h k kr ke) lf L F h
 | .rangeFunc g ps a c,L,F,h,kn,kr,ke=>yl h.ng F g fun y=>rangeT C ord me rd N ps a c y L (normT (keepOf ord N c) F) h (fun L h=>kn L F h) (bif retC c then(fun L h=>kr L F h) else noT) ((exC c).map fun i=>(i,fun L h=>ke i L F h))
 |c,L,F,h,kn,kr,ke=>evY P C N ord lf c F h (kn L) (kr L) (fun i=>ke i L)
end
def plainC:Code→Bool
 | .seq a b=>plainC a&&plainC b
 | .cond _ a b=>plainC a&&plainC b
 | .block _ c=>plainC c
 | .loop c=>plainC c
 | .rangeFunc _ _ _ _=>false
 |_=>true
def markZ:List Nat→HW→(HW→Rs)→Rs
 | [],h,k=>k h
 |b::L,h,k=>match h.objs.get b with
  |some o=>match o.sp with
   | .blk false=>markZ L ⟨h.ng,h.next,h.objs.put b {o with ver:=o.ver+1,sp:= .blk true}⟩ k
   |_=>none
  |none=>none
def noPan(r:Rs):Rs:=match r with
 |some (.ret y,h)=>some (.ret y,h)
 |_=>none
@[simp] theorem noPan_ret(y:SV)(h:HW):noPan (some (.ret y,h))=some (.ret y,h):=noRfl rfl
def zFin(P:Program)(fn:Func):KZ:=fun L F h=>markZ L h fun h=>yFin P fn F h
def yFnZ(P:Program)(xf:XF P)(C:YC)(lf:Nat)(args:List SV)(h:HW):Rs:=
 noPan (evZ P C xf.fn.ntmps xf.ord xf.f none lf (xf.fn.body.getD .skip) [] (frOf args) h (zFin P xf.fn) (zFin P xf.fn) (fun _ _ _ _=>none))
end
section
variable{P:Program}{C:YC}{callf:CallF}{N:Nat}
theorem evZ_plain{ord:Nat→Hint}{me:FuncId}{rd:Option Nat}{lf:Nat}:∀{c:Code} (_:plainC c=true) {L:List Nat} {F:Fr} {h:HW} {kn kr:KZ} {ke:Nat→KZ},
 evZ P C N ord me rd lf c L F h kn kr ke=evY P C N ord lf c F h (kn L) (kr L) (fun i=>ke i L):=by
 intro c
 induction c with
 |seq a b iha ihb=>
  intro hc L F h kn kr ke;simp only[plainC,Bool.and_eq_true] at hc;simp only[evZ,evY];rw[iha hc.1];congr 1
  funext F h
  exact ihb hc.2
 |cond x a b iha ihb=>
  intro hc L F h kn kr ke;simp only[plainC,Bool.and_eq_true] at hc;simp only[evZ,evY,iha hc.1,ihb hc.2]
 |block id c ih=>
  intro hc L F h kn kr ke;simp only[evZ,evY];rw[ih hc]
 |loop c ih=>
  intro hc L F h kn kr ke;simp only[evZ,evY]
  have:∀n F h,zLoop (fun L F h k=>evZ P C N ord me rd lf c L F h k kr ke) n L F h=yLoop (fun F h k=>evY P C N ord lf c F h k (kr L) (fun i=>ke i L)) n F h:=by
   intro n
   induction n with
   |zero=>intro F h;rfl
   |succ n ihn=>
    intro F h;show evZ P C N ord me rd lf c L F h (zLoop _ n) kr ke=evY P C N ord lf c F h (yLoop _ n) (kr L) (fun i=>ke i L);rw[ih hc];congr 1
    funext F h
    exact ihn F h
  exact this lf F h
 |rangeFunc g ps a c=>intro hc;cases hc
 |_=>intro hc L F h kn kr ke;rfl
def colls(L:List Nat):List SD:=L.map .coll
def PostZ(kn kr:KZ)(ke:Nat→KZ)(r:Out×HW)(ex:Ex)(L:List Nat)(F:Fr)(h:HW):Prop:=match ex with
 | .nm=>kn L F h=some r
 | .ret=>kr L F h=some r
 | .ex i=>ke i L F h=some r
 | .pan _=>∃ch h,r=(.pan ch,h)
 | .gt _=>False
def CodeZ(ev:Tr SV→XW→R)(L:List Nat)(F:Fr)(h:HW)(kn kr:KZ)(ke:Nat→KZ)(r:Out×HW):Prop:=
 ∃ex L' F' h',PostZ kn kr ke r ex L' F' h'∧∀Ft,Feq Ft F→∃Ft',(Feq Ft' F'∨∃ch,ex= .pan ch)∧∀D,ev Ft (h.xd (colls L++D))=some (ex,Ft',h'.xd (colls L'++D))
theorem CodeZ.of_Y{ev:Tr SV→XW→R}{L:List Nat}{F:Fr}{h:HW}{kn kr:KZ}{ke:Nat→KZ}{r:Out×HW}(H:CodeY ev F h (kn L) (kr L) (fun i=>ke i L) r):CodeZ ev L F h kn kr ke r:=by
 obtain⟨ex,F',h',h1,h2⟩:=H;refine⟨ex,L,F',h',?_,fun Ft hF=>?_⟩
 ·cases ex with
  |pan ch=>exact⟨ch,h',h1⟩
  |_=>exact h1
 ·obtain⟨Ft',h3,h4⟩:=h2 Ft hF;exact⟨Ft',h3,fun D=>h4 _⟩
theorem CodeZ.feq{Ft':Tr SV}{F':Fr}{ex:Ex}(h:Feq Ft' F'∨∃ch,ex= .pan ch)(hn:∀ch,ex≠ .pan ch):Feq Ft' F':=by
 rcases h with h|⟨ch,h⟩
 ·exact h
 ·exact absurd h (hn ch)
theorem loopZ{ev:Tr SV→XW→R}{body:List Nat→Fr→HW→KZ→Rs}{kr:KZ}{ke:Nat→KZ}{r:Out×HW}(hb:∀L F h k,body L F h k=some r→CodeZ ev L F h k kr ke r):
 ∀(n:Nat) (L:List Nat) (F:Fr) (h:HW) (kn:KZ),zLoop body n L F h=some r→CodeZ (loopE ev n) L F h kn kr ke r
 |0,L,F,h,kn,e=>by cases e
 |n+1,L,F,h,kn,e=>by
  have e':body L F h (zLoop body n)=some r:=e;obtain⟨ex,L',F',h',h1,h2⟩:=hb _ _ _ _ e'
  have stop:(∀Ft X,ex≠ .nm→(match some (ex,Ft,X) with|some (.nm,F,X)=>loopE ev n F X|r=>r)=some (ex,Ft,X)):=by
   intro Ft X hne;cases ex<;>first|rfl|exact absurd rfl hne
  by_cases hnm:ex= .nm
  ·subst hnm;obtain⟨ex,L'',F'',h'',h3,h4⟩:=loopZ hb n L' F' h' kn h1;refine⟨ex,L'',F'',h'',h3,fun Ft hF=>?_⟩;obtain⟨Ft',h5,h6⟩:=h2 Ft hF;have h5:=CodeZ.feq h5 (fun ch e=>by cases e);obtain⟨Ft'',h7,h8⟩:=h4 Ft' h5;refine⟨Ft'',h7,fun D=>?_⟩;show(match ev Ft (h.xd _) with|some (.nm,F,X)=>loopE ev n F X|r=>r)=_;rw[h6];exact h8 D
  ·refine⟨ex,L',F',h',?_,fun Ft hF=>?_⟩
   ·cases ex<;>first|exact absurd rfl hnm|exact h1
   ·obtain⟨Ft',h5,h6⟩:=h2 Ft hF;refine⟨Ft',h5,fun D=>?_⟩;show(match ev Ft (h.xd _) with|some (.nm,F,X)=>loopE ev n F X|r=>r)=_;rw[h6];exact stop _ _ hnm
theorem blkH_spec{rd:Option Nat}{L L1:List Nat}{h h1:HW}{b:Nat}(e:blkH rd L h=some (b,L1,h1))(D:List SD):blkOf rd (h.xd (colls L++D))=some (b,h1.xd (colls L1++D)):=by
 unfold blkH at e;unfold blkOf;cases rd with
 |none=>simp only[Option.some.injEq,Prod.mk.injEq] at e;obtain⟨rfl,rfl,rfl⟩:=e;rfl
 |some k=>
  simp only at e⊢;split at e<;>try(cases e;done)
  rename_i o ho;split at e<;>try(cases e;done)
  rename_i hs;simp only[Option.some.injEq,Prod.mk.injEq] at e;obtain⟨rfl,rfl,rfl⟩:=e;simp only[HW.xd_objs,ho,hs]
theorem exK_spec{ke:Nat→KT}:∀{es:List Nat} {i:Nat} {L:List Nat} {h:HW} {r:Out×HW},exK (es.map fun i=>(i,ke i)) i L h=some r→ke i L h=some r
 | [],i,L,h,r,e=>by cases e
 |j::es,i,L,h,r,e=>by
  have e:(bif Nat.beq i j then ke j L h else exK (es.map fun i=>(i,ke i)) i L h)=some r:=e;cases hb:Nat.beq i j with
  |true=>rw[hb,cond_true] at e;rw[Nat.eq_of_beq_eq_true hb];exact e
  |false=>rw[hb,cond_false] at e;exact exK_spec e
theorem rangeZ_spec(hC:LiftOK C callf){ord:Nat→Hint}{me:FuncId}{rd:Option Nat}{ps:Array Tmp}{a c:Code}{g:SV}{L:List Nat}{F:Fr}{h:HW}{kn kr:KZ}{ke:Nat→KZ}{r:Out×HW}{rb:Bool}{es:List Nat}
 (e:rangeT C ord me rd N ps a c g L (normT (keepOf ord N c) F) h (fun L h=>kn L F h) (bif rb then(fun L h=>kr L F h) else noT) (es.map fun i=>(i,fun L h=>ke i L F h))=some r):CodeZ (fun Ft X=>rangeE callf ord me rd N ps a c g Ft X) L F h kn kr ke r:=by
 unfold rangeT at e;split at e<;>try(cases e;done)
 rename_i f fa fb b L1 h1 hb;generalize hcl:C (.ent f) (fa++[.yld h1.next]++fb) ⟨h1.ng,h1.next+1,h1.objs.put h1.next (mkLoop ord me N (normT (keepOf ord N c) F) ps a c b)⟩=x at e;rcases x with _|⟨out,h2⟩
 ·cases e
 ·cases out with
  |pan ch=>cases e
  |ret z=>
   have e:endT L1 h1.next h2 (fun L h=>kn L F h) (bif rb then(fun L h=>kr L F h) else noT) (es.map fun i=>(i,fun L h=>ke i L F h))=some r:=e
   unfold endT at e;split at e<;>try(cases e;done)
   rename_i o ho;split at e<;>try(cases e;done)
   rename_i st pend _ _ _ _ _ _ _ _ hs;have hne:st≠ .busy:=fun hh=>by subst hh;cases e
   have e:jumpT pend L1 ⟨h2.ng,h2.next,h2.objs.put h1.next (doneOb o)⟩ (fun L h=>kn L F h) (bif rb then(fun L h=>kr L F h) else noT) (es.map fun i=>(i,fun L h=>ke i L F h))=some r:=by
    cases st<;>first|exact absurd rfl hne|exact e
   refine⟨jumpEx pend,L1,F,⟨h2.ng,h2.next,h2.objs.put h1.next (doneOb o)⟩,?_,fun Ft hF=>⟨Ft,.inl hF,fun D=>?_⟩⟩
   ·cases pend with
    |none=>exact e
    |ret=>cases rb with
     |true=>exact e
     |false=>cases e
    |ex id=>exact exK_spec (ke:=fun i L h=>ke i L F h) e
   ·have hFF:Ft.get=F:=funext hF;have hc2:=hC _ _ _ _ _ hcl [];simp only[rangeE,blkH_spec hb D,hFF];have e2:({((h1.xd (colls L1++D)).new (mkLoop ord me N (normT (keepOf ord N c) F) ps a c b)).2 with dfs:=[]}:XW)=(HW.xd ⟨h1.ng,h1.next+1,h1.objs.put h1.next (mkLoop ord me N (normT (keepOf ord N c) F) ps a c b)⟩ []):=rfl;rw[e2];have e3:((h1.xd (colls L1++D)).new (mkLoop ord me N (normT (keepOf ord N c) F) ps a c b)).1=h1.next:=rfl
    rw[e3,hc2];have ho':(h2.xd []).objs.get h1.next=some o:=ho
    simp only[endE,ho',hs];unfold doneOb;cases st<;>first|exact absurd rfl hne|(simp only[hs];rfl)
theorem evZ_spec(hC:LiftOK C callf){ord:Nat→Hint}{me:FuncId}{rd:Option Nat}{lf:Nat}{jump:JumpF}:∀(c:Code) {L:List Nat} {F:Fr} {h:HW} {kn kr:KZ} {ke:Nat→KZ} {r:Out×HW},
 evZ P C N ord me rd lf c L F h kn kr ke=some r→CodeZ (evC P callf ord me rd N lf jump c) L F h kn kr ke r:=by
 intro c
 induction c with
 |seq a b iha ihb=>
  intro L F h kn kr ke r e;obtain⟨ex,L',F',h',h1,h2⟩:=iha e;by_cases hnm:ex= .nm
  ·subst hnm;obtain⟨ex,L'',F'',h'',h3,h4⟩:=ihb h1;refine⟨ex,L'',F'',h'',h3,fun Ft hF=>?_⟩;obtain⟨Ft',h5,h6⟩:=h2 Ft hF;obtain⟨Ft'',h7,h8⟩:=h4 Ft' (CodeZ.feq h5 (fun ch e=>by cases e));exact⟨Ft'',h7,fun D=>by simp only[evC,h6,h8]⟩
  ·refine⟨ex,L',F',h',?_,fun Ft hF=>?_⟩
   ·cases ex<;>first|exact absurd rfl hnm|exact h1
   ·obtain⟨Ft',h5,h6⟩:=h2 Ft hF;refine⟨Ft',h5,fun D=>?_⟩;simp only[evC,h6];cases ex<;>first|exact absurd rfl hnm|rfl
 |cond c a b iha ihb=>
  intro L F h kn kr ke r e;simp only[evZ] at e;obtain⟨y,hy,e⟩:=yl_spec e;unfold yIf at e;split at e<;>try(cases e;done)
  rename_i t;cases t with
  |true=>
   obtain⟨ex,L',F',h',h1,h2⟩:=iha e;refine⟨ex,L',F',h',h1,fun Ft hF=>?_⟩;obtain⟨Ft',h5,h6⟩:=h2 Ft hF;exact⟨Ft',h5,fun D=>by simp only[evC,HW.xd_ng,yLook_eq hF,hy,asB,h6]⟩
  |false=>
   obtain⟨ex,L',F',h',h1,h2⟩:=ihb e;refine⟨ex,L',F',h',h1,fun Ft hF=>?_⟩;obtain⟨Ft',h5,h6⟩:=h2 Ft hF;exact⟨Ft',h5,fun D=>by simp only[evC,HW.xd_ng,yLook_eq hF,hy,asB,h6]⟩
 |block id c ih=>
  intro L F h kn kr ke r e;obtain⟨ex,L',F',h',h1,h2⟩:=ih e;cases ex with
  |ex i=>
   cases hb:Nat.beq i id with
   |true=>
    have h1:kn L' F' h'=some r:=by simpa only[PostZ,hb,cond_true] using h1
    refine⟨.nm,L',F',h',h1,fun Ft hF=>?_⟩;obtain⟨Ft',h5,h6⟩:=h2 Ft hF;exact⟨Ft',.inl (CodeZ.feq h5 (fun ch e=>by cases e)),fun D=>by simp only[evC,h6,hb,cond_true]⟩
   |false=>
    have h1:ke i L' F' h'=some r:=by simpa only[PostZ,hb,cond_false] using h1
    refine⟨.ex i,L',F',h',h1,fun Ft hF=>?_⟩;obtain⟨Ft',h5,h6⟩:=h2 Ft hF;exact⟨Ft',.inl (CodeZ.feq h5 (fun ch e=>by cases e)),fun D=>by simp only[evC,h6,hb,cond_false]⟩
  |gt l=>exact h1.elim
  |nm=>
   refine⟨.nm,L',F',h',h1,fun Ft hF=>?_⟩;obtain⟨Ft',h5,h6⟩:=h2 Ft hF;exact⟨Ft',h5,fun D=>by simp only[evC,h6]⟩
  |ret=>
   refine⟨.ret,L',F',h',h1,fun Ft hF=>?_⟩;obtain⟨Ft',h5,h6⟩:=h2 Ft hF;exact⟨Ft',h5,fun D=>by simp only[evC,h6]⟩
  |pan ch=>
   refine⟨.pan ch,L',F',h',h1,fun Ft hF=>?_⟩;obtain⟨Ft',h5,h6⟩:=h2 Ft hF;exact⟨Ft',h5,fun D=>by simp only[evC,h6]⟩
 |loop c ih=>
  intro L F h kn kr ke r e;exact loopZ (fun L F h k e=>ih e) lf L F h kn e
 |rangeFunc g ps a c=>
  intro L F h kn kr ke r e;simp only[evZ] at e;obtain⟨y,hy,e⟩:=yl_spec e;obtain⟨ex,L',F',h',h1,h2⟩:=rangeZ_spec hC e;refine⟨ex,L',F',h',h1,fun Ft hF=>?_⟩;obtain⟨Ft',h5,h6⟩:=h2 Ft hF;exact⟨Ft',h5,fun D=>by simp only[evC,HW.xd_ng,yLook_eq hF,hy];exact h6 D⟩
 |_=>intro L F h kn kr ke r e;exact CodeZ.of_Y (evY_spec hC _ e)
theorem markZ_spec{dcall:DCallF}{fn:Func}{Ft:Tr SV}{D:List SD}:∀{L:List Nat} {h:HW} {k:HW→Rs} {r:Out×HW},markZ L h k=some r→
 ∃h',k h'=some r∧leaveE P dcall fn Ft (colls L) .ret (h.xd D)=leaveE P dcall fn Ft [] .ret (h'.xd D)
 | [],h,k,r,e=>⟨h,e,rfl⟩
 |b::L,h,k,r,e=>by
  unfold markZ at e;split at e<;>try(cases e;done)
  rename_i o ho;split at e<;>try(cases e;done)
  rename_i hs;obtain⟨h',h1,h2⟩:=markZ_spec (dcall:=dcall) (fn:=fn) (Ft:=Ft) (D:=D) (L:=L) e;refine⟨h',h1,?_⟩;rw[← h2];show leaveE P dcall fn Ft (.coll b::colls L) .ret (h.xd D)=_;simp only[leaveE,HW.xd_objs,ho,hs];rfl
theorem yFnZ_spec{e:Evs}(hC:LiftOK C e.call)(xf:XF P){lf:Nat}{args:List SV}{h h':HW}{out:Out}(hl:Nat.ble args.length xf.fn.ntmps=true)(hy:yFnZ P xf C lf args h=some (out,h')):
 ∀D,goE e xf lf xf.f args (h.xd D)=some (out,h'.xd D):=by
 intro D;unfold yFnZ noPan at hy;split at hy<;>try(cases hy;done)
 rename_i y g hy';cases hy;obtain⟨ex,L',F',h2,h3,h4⟩:=evZ_spec (rd:=none) (me:=xf.f) (jump:=jumpE P e.call xf.ord xf.f none xf.fn.ntmps lf lf) hC _ hy';obtain⟨Ft',h5,h6⟩:=h4 _ (feq_args args);have h7:=h6 []
 have hfin:zFin P xf.fn L' F' h2=some (.ret y,h')→Feq Ft' F'→leaveE P e.dcall xf.fn Ft' (colls L') .ret (h2.xd [])=some (.ret y,h'.xd []):=by
  intro hf hq;obtain⟨h8,h9,h10⟩:=markZ_spec (dcall:=e.dcall) (fn:=xf.fn) (Ft:=Ft') (D:=[]) hf;rw[h10];obtain⟨ys,h11,h12⟩:=yRss_spec h9;cases h11;simp only[leaveE,h12 Ft' hq]
 unfold goE bodyE;have hbeq:Nat.beq xf.f xf.f=true:=Nat.beq_refl _;simp only[hbeq,hl,Bool.and_self,cond_true];have hb:evC P e.call xf.ord xf.f none xf.fn.ntmps lf (jumpE P e.call xf.ord xf.f none xf.fn.ntmps lf lf) (xf.fn.body.getD .skip) (storeN .nil 0 args) {h.xd D with dfs:=[]}=some (ex,Ft',h2.xd (colls L'++[])):=h7;rw[hb,List.append_nil];cases ex with
 |nm=>
  show withD D (leaveE P e.dcall xf.fn Ft' (colls L') .ret (h2.xd []))=_;rw[hfin h3 (CodeZ.feq h5 (fun ch e=>by cases e))];rfl
 |ret=>
  show withD D (leaveE P e.dcall xf.fn Ft' (colls L') .ret (h2.xd []))=_;rw[hfin h3 (CodeZ.feq h5 (fun ch e=>by cases e))];rfl
 |ex i=>cases h3
 |pan ch=>obtain⟨_,_,hh⟩:=h3;cases hh
 |gt l=>exact h3.elim
theorem yFnA_spec{e:Evs}(hC:LiftOK C e.call)(xf:XF P){lf:Nat}{args:List SV}{h h':HW}{out:Out}(hl:Nat.ble args.length xf.fn.ntmps=true)(hy:yFn P xf C lf args h=some (out,h')∨yFnZ P xf C lf args h=some (out,h')):
 ∀D,goE e xf lf xf.f args (h.xd D)=some (out,h'.xd D):=by
 rcases hy with hy|hy
 ·exact yFn_spec hC xf hl hy
 ·exact yFnZ_spec hC xf hl hy
end
end Go.Xe
