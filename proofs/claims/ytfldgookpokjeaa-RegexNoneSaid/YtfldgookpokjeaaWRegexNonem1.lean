import Derived.Lib.BytesEntry
import Derived.Laws.Externs
import Derived.RangeFuncIn
import Derived.Test.YtfldgookpokjeaaWRegexNonem0
set_option linter.unusedSimpArgs false
set_option linter.unusedVariables false
namespace Go.Xe
section
variable{P:Program}{B:Nat}{w0 w:World}{X:XW}{E:Env}
theorem arr_yes{t:TypeId}{k off len lo:Nat}{cap:Option Nat}{z:SV}{u:Value}(hx:Den E (.sl k off len cap lo) u)(h:semArr P t k off len=some z):Yes P E w (Instr.arrayAt t u) z:=by
 unfold semArr at h;split at h<;>try(cases h;done)
 rename_i n e hu;cases hb:Nat.ble n len with
 |false=>simp[hb] at h
 |true=>
  simp only[hb,cond_true,Option.some.injEq] at h;subst h;have hle:=Nat.le_of_ble_eq_true hb
  have hx':∃id c capv,E k=some (id,c)∧u= .slice (some ⟨id,off,none⟩) len capv:=by
   cases cap with
   |none=>obtain⟨id,c,e1,e2⟩:=hx;exact⟨id,c,_,e1.1,e2⟩
   |some cap=>obtain⟨id,c,e1,e2⟩:=hx;exact⟨id,c,_,e1,e2⟩
  obtain⟨id,c,capv,hk,rfl⟩:=hx';refine⟨.pointer (some ⟨id,off,none⟩),?_,id,c,hk,rfl⟩;simp[Instr.arrayAt,und_run hu,Nat.not_lt.2 hle]
theorem newMap_good{t:TypeId}(hE:Emb P B w0 X E w):Good P B w0 E w (Instr.makeMap t none) (.mp (newMap X).1) (newMap X).2:=by
 refine⟨E.put X.next w.heap.size 0,.map (some w.heap.size),w.alloc (.map #[] 0),Env.le_put (hE.fresh _ (Nat.le_refl _)) hE.nle,?_,⟨_,_,Env.put_same _ _ _ _,rfl⟩,hE.newOb _ _ 0 fun E' _=> .inr ⟨⟨[],rfl,rfl⟩,rfl,rfl⟩⟩;simp[Instr.makeMap]
theorem den_int{k:IntKind}{n:Int}{v:Value}(h:Den E (.int k n) v):v= .int k n:=h
theorem den_str{s:ByteArray}{v:Value}(h:Den E (.str s) v):v= .string s:=h
theorem keyL_eq:∀{xs ys:List SV} {us vs:List Value},keyL xs ys=true→DenL E xs us→DenL E ys vs→us=vs
 | [],ys,us,vs,h,h1,h2=>by
   cases ys with
   |nil=>cases h1;cases h2;rfl
   |cons y ys=>simp[keyL] at h
 |x::xs,ys,us,vs,h,h1,h2=>by
  cases ys with
  |nil=>unfold keyL at h;cases x<;>cases h
  |cons y ys=>
   obtain⟨u,us',hu,hus,rfl⟩:=h1;obtain⟨v,vs',hv,hvs,rfl⟩:=h2;unfold keyL at h;split at h<;>try(cases h;done)
   ·rename_i e;cases e
   ·rename_i e1 e2;cases e1;cases e2;simp only[Bool.and_eq_true,beq_iff_eq] at h;have e1:=den_int hu;have e2:=den_int hv;rw[e1,e2,h.1.1,h.1.2,keyL_eq h.2 hus hvs]
   ·rename_i a xs' b2 ys' e1 e2;cases e1;cases e2;simp only[Bool.and_eq_true,beq_iff_eq] at h;have e1:=den_str hu;have e2:=den_str hv;have e3:=h.1;rw[ByteArray.toList_eq,ByteArray.toList_eq] at e3
    have e4:a=b2:=by
     obtain⟨⟨x⟩⟩:=a;obtain⟨⟨y⟩⟩:=b2;simp only at e3;rw[e3]
    rw[e1,e2,e4,keyL_eq h.2 hus hvs]
   ·rename_i e1 e2;cases e1;cases e2;simp only[Bool.and_eq_true,beq_iff_eq] at h;have e1:u=_:=hu;have e2:v=_:=hv;rw[e1,e2,h.1,keyL_eq h.2 hus hvs]
def Hit(E:Env)(kv:Value)(es:List (SV×SV×Nat))(l:List MapEntry)(i:Nat)(r:Option (Nat×SV))(o:Nat→Value→Prop):Prop:=
 ∃n q v b e,r=some (i+n,v)∧es[n]?=some (q,v,b)∧l[n]?=some e∧e.key=kv∧Den E v e.val∧e.born=b∧Den E q kv∧o (i+n) e.val
theorem Hit.next{kv:Value}{es:List (SV×SV×Nat)}{l:List MapEntry}{i:Nat}{r:Option (Nat×SV)}{o o':Nat→Value→Prop}{x:SV×SV×Nat}{y:MapEntry}(h:Hit E kv es l (i+1) r o)(ho:∀n v,o n v→o' n v):Hit E kv (x::es) (y::l) i r o':=by
 obtain⟨n,q,v,b,e,h1,h2,h3,h4,h5,h6,h7,h8⟩:=h;have e9:i+1+n=i+(n+1):=by omega
 rw[e9] at h1 h8;exact⟨n+1,q,v,b,e,h1,by simpa using h2,by simpa using h3,h4,h5,h6,h7,ho _ _ h8⟩
theorem same_now{kt:TypeId}{d:TypeDesc}{k q:SV}{kv:Value}(hd:P.underlying kt=some d)(hk:keyNow P kt k=true)(hkv:Den E k kv)(hna:∀xs,k≠ .agg xs){e:MapEntry}(h1:Den E q e.key):∀c,keyEq P kt k q=some c→Instr.sameNow d kv e.key=some c∧(c=true→e.key=kv):=by
 intro c hc;unfold keyNow at hk;rw[hd] at hk;unfold keyEq at hc;split at hc
 ·rename_i k1 a k2 b2;have e1:=den_int hkv;have e2:=den_int h1;subst e1;cases hkk:(k1==k2) with
  |false=>simp[hkk] at hc
  |true=>
   obtain rfl:k1=k2:=by simpa using hkk
   simp only[hkk,cond_true,Option.some.injEq] at hc;rw[e2];cases d<;>simp at hk
   subst hc;exact⟨by simp[Instr.sameNow],fun hab=>by simp at hab;rw[hab]⟩
 ·rename_i a b2;have e1:=den_str hkv;have e2:=den_str h1;subst e1;rw[e2];simp only[Option.some.injEq] at hc;cases d<;>simp at hk
  subst hc;refine⟨by simp only[Instr.sameNow,beq_toListBytes],fun hab=>?_⟩;have e3:a.toList=b2.toList:=by simpa using hab
  rw[ByteArray.toList_eq,ByteArray.toList_eq] at e3
  have e4:a=b2:=by
   obtain⟨⟨x⟩⟩:=a;obtain⟨⟨y⟩⟩:=b2;simp only at e3;rw[e3]
  rw[e4]
 ·exact absurd rfl (hna _)
 ·cases hc
theorem findN_run{kt:TypeId}{d:TypeDesc}{k:SV}{kv:Value}(hd:P.underlying kt=some d)(hk:keyNow P kt k=true)(hkv:Den E k kv)(hna:∀xs,k≠ .agg xs):∀(es:List (SV×SV×Nat)) (l:List MapEntry) (i:Nat) (r:Option (Nat×SV)),EntRel E es l→findE P kt k es i=some r→
 (r=none∧Instr.findNow d kv l i=some none)∨Hit E kv es l i r fun n v=>Instr.findNow d kv l i=some (some (n,v))
 | [],l,i,r,he,h=>by
   cases he;simp only[findE,Option.some.injEq] at h;subst h;exact .inl ⟨rfl,rfl⟩
 |(q,v,b)::es,_,i,r,⟨e,l',h1,h2,h3,h4,e1⟩,h=>by
  subst e1;simp only[findE] at h;split at h
  ·rename_i hq;obtain⟨g1,g2⟩:=same_now hd hk hkv hna h1 _ hq;cases h;exact .inr ⟨0,q,v,b,e,rfl,rfl,rfl,g2 rfl,h2,h3,by rw[← g2 rfl];exact h1,by simp only[Instr.findNow,g1];rfl⟩
  ·rename_i hq;obtain⟨g1,_⟩:=same_now hd hk hkv hna h1 _ hq;rcases findN_run hd hk hkv hna es l' (i+1) r h4 h with⟨rfl,g⟩|g
   ·exact .inl ⟨rfl,by simp only[Instr.findNow,g1,g]⟩
   ·exact .inr (g.next fun n v a7=>by simp only[Instr.findNow,g1,a7])
  ·cases h
theorem findA_run{kt:TypeId}{xs:List SV}{kv:Value}(hkv:Den E (.agg xs) kv):∀(es:List (SV×SV×Nat)) (l:List MapEntry) (i:Nat) (r:Option (Nat×SV)),EntRel E es l→findE P kt (.agg xs) es i=some r→
 (r=none∧(Instr.findAsking kt kv l i).run P w= .ok none w)∨Hit E kv es l i r fun n v=>(Instr.findAsking kt kv l i).run P w= .ok (some (n,v)) w
 | [],l,i,r,he,h=>by
   cases he;simp only[findE,Option.some.injEq] at h;subst h;exact .inl ⟨rfl,rfl⟩
 |(q,v,b)::es,_,i,r,⟨e,l',h1,h2,h3,h4,e1⟩,h=>by
  subst e1;simp only[findE] at h
  have same:∀c,keyEq P kt (.agg xs) q=some c→(Op.equal kt kv e.key).run P w= .ok c w∧(c=true→e.key=kv):=by
   intro c hc;unfold keyEq at hc;split at hc<;>rename_i e1<;>try(cases e1;done)
   ·rename_i ys;cases e1;split at hc<;>try(cases hc;done)
    rename_i c' he;cases hb:(c'==keyL xs ys) with
    |false=>simp[hb] at hc
    |true=>
     simp only[hb,cond_true,Option.some.injEq] at hc;subst hc;refine⟨(eqTop_yes (w:=w) (ox:= .global 0) (oy:= .global 0) hkv h1 he).1,fun ht=>?_⟩;subst ht;obtain⟨us,hu,rfl⟩:=hkv;obtain⟨vs,hv,ev⟩:=h1;rw[ev,keyL_eq (by simpa using hb.symm) hu hv]
   ·cases hc
  split at h
  ·rename_i hq;obtain⟨g1,g2⟩:=same _ hq;cases h;exact .inr ⟨0,q,v,b,e,rfl,rfl,rfl,g2 rfl,h2,h3,by rw[← g2 rfl];exact h1,by simp[Instr.findAsking,g1]⟩
  ·rename_i hq;obtain⟨g1,_⟩:=same _ hq;rcases findA_run hkv es l' (i+1) r h4 h with⟨rfl,g⟩|g
   ·exact .inl ⟨rfl,by simp[Instr.findAsking,g1,g]⟩
   ·exact .inr (g.next fun n v a7=>by simp[Instr.findAsking,g1,a7])
  ·cases h
theorem find_run{kt:TypeId}{k:SV}{kv:Value}(hk:keyNow P kt k=true)(hkv:Den E k kv){es:List (SV×SV×Nat)}{l:List MapEntry}{r:Option (Nat×SV)}(hr:EntRel E es l)(h:findE P kt k es 0=some r):
 (r=none∧(Instr.findKey kt kv l).run P w= .ok none w)∨Hit E kv es l 0 r fun n v=>(Instr.findKey kt kv l).run P w= .ok (some (n,v)) w:=by
 have hkk:=hk;unfold keyNow at hk;split at hk
 ·rename_i hu;rcases findN_run hu hkk hkv (fun xs e=>by cases e) es l 0 r hr h with⟨e,g⟩|⟨n,q,v,b,e,g1,g2,g3,g4,g5,g6,g7,g8⟩
  ·exact .inl ⟨e,by simp[Instr.findKey,und_run hu,g]⟩
  ·exact .inr ⟨n,q,v,b,e,g1,g2,g3,g4,g5,g6,g7,by simp[Instr.findKey,und_run hu,g8]⟩
 ·rename_i hu;rcases findN_run hu hkk hkv (fun xs e=>by cases e) es l 0 r hr h with⟨e,g⟩|⟨n,q,v,b,e,g1,g2,g3,g4,g5,g6,g7,g8⟩
  ·exact .inl ⟨e,by simp[Instr.findKey,und_run hu,g]⟩
  ·exact .inr ⟨n,q,v,b,e,g1,g2,g3,g4,g5,g6,g7,by simp[Instr.findKey,und_run hu,g8]⟩
 all_goals
  first
  |(cases hk;done)
  |(rename_i hu
    have hfk:(Instr.findKey kt kv l).run P w=(Instr.findAsking kt kv l).run P w:=by
     obtain⟨us,_,rfl⟩:=hkv;cases l with
     |nil=>simp[Instr.findKey,und_run hu,Instr.findNow,Instr.findAsking]
     |cons e l=>simp[Instr.findKey,und_run hu,Instr.findNow,Instr.sameNow]
    rw[hfk]
    exact findA_run hkv es l 0 r hr h)
theorem keyS_run{kt:TypeId}{k:SV}{kv:Value}{empty:Bool}(hk:keyS P kt k=true)(hkv:Den E k kv)(n:Nat):(Instr.checkKey empty (n+1) kt kv).run P w= .ok () w:=by
 unfold keyS at hk;split at hk
 ·rename_i hu;have e:=den_int hkv;subst e;simp[Instr.checkKey,und_run hu]
 ·rename_i hu;have e:=den_str hkv;subst e;simp[Instr.checkKey,und_run hu]
 ·rename_i hu;have e:kv=_:=hkv;subst e;simp[Instr.checkKey,und_run hu]
 ·cases hk
theorem forS{α:Type}(b:α→PUnit→Sem (ForInStep PUnit)):∀l:List α,(∀x∈l,(b x PUnit.unit).run P w= .ok (.yield PUnit.unit) w)→(forIn l PUnit.unit b:Sem PUnit).run P w= .ok PUnit.unit w
 | [],_=>rfl
 |x::l,h=>by
  rw[List.forIn_cons];simp only[Sem.run_bind,h x (List.mem_cons_self ..),Result.andThen_ok];exact forS b l fun y hy=>h y (List.mem_cons_of_mem _ hy)
theorem checkKey_run{kt:TypeId}{k:SV}{kv:Value}{empty:Bool}(hk:keyNow P kt k=true)(hkv:Den E k kv){m:Nat}(hm:2≤m):(Instr.checkKey empty m kt kv).run P w= .ok () w:=by
 obtain⟨n,rfl⟩:∃n,m=n+2:=⟨m-2,by omega⟩;unfold keyNow at hk;split at hk
 ·rename_i hu;have e:=den_int hkv;subst e;simp[Instr.checkKey,und_run hu]
 ·rename_i hu;have e:=den_str hkv;subst e;simp[Instr.checkKey,und_run hu]
 ·rename_i fs xs hu;obtain⟨us,hus,rfl⟩:=hkv;simp only[Bool.and_eq_true] at hk
  have key:∀fs:List Field,keyFs P xs fs=true→∀f∈fs,f.name="_"∨∃z,partE P f.type xs f.offset=some z∧keyS P f.type z=true:=by
   intro fs
   induction fs with
   |nil=>intro _ f hf;cases hf
   |cons f fs ih=>
    intro h g hg;unfold keyFs at h;simp only[Bool.and_eq_true,Bool.or_eq_true,beq_iff_eq] at h;rcases List.mem_cons.1 hg with rfl|hg
    ·refine h.1.imp id fun h1=>?_
     split at h1<;>try(cases h1;done)
     exact⟨_, ‹_›,h1⟩
    ·exact ih h.2 g hg
  rw[Instr.checkKey];simp only[Sem.run_bind,und_run hu,Result.andThen_ok];rw[← Array.forIn_toList];refine(congrArg (fun r=>Result.andThen r _) (forS _ _ fun f hf=>?_)).trans rfl;rcases key _ hk.2 f hf with h1|⟨z,hz,h1⟩
  ·simp[h1]
  ·obtain⟨u,g1,g2⟩:=part_yes (w:=w) hus hz;by_cases hf:f.name="_"
   ·simp[hf]
   ·simp[hf,g1,keyS_run h1 g2]
 ·rename_i m e xs hu;split at hk<;>try(cases hk;done)
  rename_i sz hsz;obtain⟨us,hus,rfl⟩:=hkv;simp only[Bool.and_eq_true] at hk
  have key:∀l:List Nat,keyIs P e sz xs l=true→∀i∈l,∃z,partE P e xs (i*sz)=some z∧keyS P e z=true:=by
   intro l
   induction l with
   |nil=>intro _ i hi;cases hi
   |cons i l ih=>
    intro h j hj;unfold keyIs at h;simp only[Bool.and_eq_true] at h;rcases List.mem_cons.1 hj with rfl|hj
    ·have h1:=h.1;split at h1<;>try(cases h1;done)
     exact⟨_, ‹_›,h1⟩
    ·exact ih h.2 j hj
  rw[Instr.checkKey];simp only[Sem.run_bind,und_run hu,Result.andThen_ok];rw[Std.Legacy.Range.forIn_eq_forIn_range'];refine(congrArg (fun r=>Result.andThen r _) (forS _ _ fun i hi=>?_)).trans rfl
  have hi':i∈List.range m:=by
   simp[List.mem_range'] at hi;simpa using hi
  obtain⟨z,hz,h1⟩:=key _ hk.2 i hi';obtain⟨u,g1,g2⟩:=part_yes (w:=w) hus hz;simp[tySize_run hsz,g1,keyS_run h1 g2]
 ·cases hk
theorem keyNow_bits{kt:TypeId}{k:SV}{kv:Value}(hk:keyNow P kt k=true)(hkv:Den E k kv):Instr.sameBits 10000 kv kv=true:=by
 unfold keyNow at hk
 have key:∀{xs:List SV} {us:List Value},keyL xs xs=true→DenL E xs us→(us.zip us).all (fun (x,y)=>Instr.sameBits 9999 x y)=true:=by
  intro xs
  induction xs with
  |nil=>intro us _ h;cases h;rfl
  |cons x xs ih=>
   intro us h hu;obtain⟨u,us',h1,h2,rfl⟩:=hu;unfold keyL at h;split at h<;>try(cases h;done)
   all_goals
    rename_i e1 e2;cases e1;try(cases e2;done)
   all_goals
    rename_i e2;cases e2;simp only[Bool.and_eq_true] at h;have e1:u=_:=h1;subst e1;simp[Instr.sameBits,beq_toListBytes,ih h.2 h2]
 split at hk
 ·have e1:=den_int hkv;subst e1;simp[Instr.sameBits]
 ·have e1:=den_str hkv;subst e1;simp[Instr.sameBits,beq_toListBytes]
 ·obtain⟨us,hus,rfl⟩:=hkv;simp only[Bool.and_eq_true] at hk
  have:=key hk.1 hus
  simpa[Instr.sameBits] using this
 ·split at hk<;>try(cases hk;done)
  obtain⟨us,hus,rfl⟩:=hkv;simp only[Bool.and_eq_true] at hk
  have:=key hk.1 hus
  simpa[Instr.sameBits] using this
 ·cases hk
theorem keyNow_und{kt:TypeId}{k:SV}(hk:keyNow P kt k=true):∃d,P.underlying kt=some d:=by
 unfold keyNow at hk;split at hk
 ·exact⟨_, ‹_›⟩
 ·exact⟨_, ‹_›⟩
 ·exact⟨_, ‹_›⟩
 ·exact⟨_, ‹_›⟩
 ·cases hk
theorem entriesOf_run(hE:Emb P B w0 X E w){j:Nat}{es:List (SV×SV×Nat)}{clock:Nat}(h:entriesOf X j=some (es,clock)){id c:Nat}(hj:E j=some (id,c)):
 ∃l:List MapEntry,(getObj id).run P w= .ok (.map l.toArray clock) w∧EntRel E es l:=by
 unfold entriesOf at h;split at h<;>try(cases h;done)
 rename_i o ho;split at h<;>try(cases h;done)
 rename_i es' clock' hs;cases h;obtain⟨id',c',hk',hrel,_⟩:=hE.spAt ho (by rw[hs];simp);rw[hj] at hk';cases hk';rw[hs] at hrel;obtain⟨l,h1,h2⟩:=hrel;have hrel':SpRel P E (.map es clock) (some (.map l.toArray clock)):=⟨l,rfl,h2⟩;exact⟨l,getObj_run h1 hrel',h2⟩
theorem lookup_yes(hE:Emb P B w0 X E w){t:TypeId}{m k z:SV}{mv kv:Value}{ok:Bool}(hm:Den E m mv)(hk:Den E k kv)(h:semLookup P t m k ok X=some z):Yes P E w (Instr.lookup t mv kv ok) z:=by
 unfold semLookup at h;split at h<;>try(cases h;done)
 rename_i kt e hu;split at h<;>try(cases h;done)
 rename_i es zv hes hz;cases hn:keyNow P kt k with
 |false=>simp[hn] at h
 |true=>
 simp only[hn,cond_true] at h;obtain⟨d,hd⟩:=keyNow_und hn
 have hent:∃l:List MapEntry,EntRel E es l∧((mv= .map none∧l=[])∨∃id clock,mv= .map (some id)∧(getObj id).run P w= .ok (.map l.toArray clock) w):=by
  unfold mapOf at hes;split at hes
  ·cases hes;have e1:mv= .map none:=hm;exact⟨[],rfl,.inl ⟨e1,rfl⟩⟩
  ·rename_i j;obtain⟨id,c,hj,rfl⟩:=hm;split at hes<;>try(cases hes;done)
   rename_i es' clock hen;cases hes;obtain⟨l,h1,h2⟩:=entriesOf_run hE hen hj;exact⟨l,h2,.inr ⟨id,clock,rfl,h1⟩⟩
  ·cases hes
 obtain⟨l,hrel,hC⟩:=hent;have hck:∀b,(Instr.checkKey b 10000 kt kv).run P w= .ok () w:=fun b=>checkKey_run hn hk (by omega)
 have hrun:∀r:Option (Nat×Value),(Instr.findKey kt kv l).run P w= .ok r w→(Instr.lookup t mv kv ok).run P w= .ok (if ok then .tuple #[(match r with|some (_,v)=>v|none=>zv),.bool r.isSome] else(match r with|some (_,v)=>v|none=>zv)) w:=by
  intro r hfn;rcases hC with⟨rfl,rfl⟩|⟨id,clock,rfl,hg⟩
  ·cases r with
   |none=>simp[Instr.lookup,und_run hu,hck,hfn,tyZero_run hz]
   |some r=>simp[Instr.lookup,und_run hu,hck,hfn]
  ·cases r with
   |none=>simp[Instr.lookup,und_run hu,hg,hck,hfn,tyZero_run hz]
   |some r=>simp[Instr.lookup,und_run hu,hg,hck,hfn]
 split at h
 ·rename_i i v hf;cases h;rcases find_run (w:=w) hn hk hrel hf with⟨h0,_⟩|⟨n,q,v',b,e',h0,_,_,_,hv,_,_,hfn⟩
  ·cases h0
  ·cases h0;have hr:=hrun _ hfn;cases ok with
   |true=>exact⟨.tuple #[e'.val,.bool true],by simpa using hr,[e'.val,.bool true],⟨_,_,hv,⟨_,_,rfl,rfl,rfl⟩,rfl⟩,rfl⟩
   |false=>exact⟨e'.val,by simpa using hr,hv⟩
 ·rename_i hf;cases h;rcases find_run (w:=w) hn hk hrel hf with⟨_,hfn⟩|⟨n,q,v',b,e',h0,_⟩
  ·have hr:=hrun _ hfn;cases ok with
   |true=>exact⟨.tuple #[zv,.bool false],by simpa using hr,[zv,.bool false],⟨_,_,den_mkV E zv,⟨_,_,rfl,rfl,rfl⟩,rfl⟩,rfl⟩
   |false=>exact⟨zv,by simpa using hr,den_mkV E zv⟩
  ·cases h0
 ·cases h
theorem entRel_upd{v:SV}{u:Value}(hv:Den E v u){kv:Value}:∀{es:List (SV×SV×Nat)} {l:List MapEntry} {n:Nat} {q w':SV} {b:Nat} {e:MapEntry},EntRel E es l→es[n]?=some (q,w',b)→l[n]?=some e→e.key=kv→
 EntRel E (updL v es n) (l.modify n fun e=>{e with key:=kv,val:=u})
 | [],_,_,_,_,_,_,_,h,_,_=>by simp at h
 |(k,x,b)::es,_,0,q,w',b',e,⟨e0,l',h1,h2,h3,h4,e1⟩,h,hl,hkey=>by
  subst e1;simp at hl;subst hl;rw[List.modify_zero_cons];exact⟨{e0 with key:=kv,val:=u},l',by rw[← hkey];exact h1,hv,h3,h4,rfl⟩
 |(k,x,b)::es,_,n+1,q,w',b',e,⟨e0,l',h1,h2,h3,h4,e1⟩,h,hl,hkey=>by
  subst e1;rw[List.modify_succ_cons];exact⟨e0,_,h1,h2,h3,entRel_upd hv h4 (by simpa using h) (by simpa using hl) hkey,rfl⟩
theorem entRel_push{k v:SV}{kv u:Value}(hk:Den E k kv)(hv:Den E v u)(c:Nat):∀{es:List (SV×SV×Nat)} {l:List MapEntry},EntRel E es l→EntRel E (es++[(k,v,c)]) (l++[{key:=kv,val:=u,born:=c}])
 | [],_,h=>by cases h;exact⟨_,[],hk,hv,rfl,rfl,rfl⟩
 |(_,_,_)::es,_,⟨e0,l',h1,h2,h3,h4,e1⟩=>by subst e1;exact⟨e0,_,h1,h2,h3,entRel_push hk hv c h4,rfl⟩
theorem update_good(hE:Emb P B w0 X E w){t:TypeId}{m k v:SV}{mv kv vv:Value}{X':XW}(hm:Den E m mv)(hk:Den E k kv)(hv:Den E v vv)(h:semUpdate P t m k v X=some X'):
 ∃w',(Instr.mapUpdate t mv kv vv).run P w= .ok () w'∧Emb P B w0 X' E w':=by
 unfold semUpdate at h;split at h<;>try(cases h;done)
 rename_i kt e j hu;split at h<;>try(cases h;done)
 rename_i o ho;split at h<;>try(cases h;done)
 rename_i es clock hs;cases hn:keyNow P kt k with
 |false=>simp[hn] at h
 |true=>
 simp only[hn,cond_true] at h;obtain⟨d,hd⟩:=keyNow_und hn;obtain⟨id,c,hj,rfl⟩:=hm;have hne:o.sp≠ .cells:=by rw[hs];simp
 obtain⟨l,hg,hrel⟩:=entriesOf_run (j:=j) (es:=es) (clock:=clock) hE (by unfold entriesOf;rw[ho];simp only[hs]) hj;have hck:∀b,(Instr.checkKey b 10000 kt kv).run P w= .ok () w:=fun b=>checkKey_run hn hk (by omega)
 split at h
 ·rename_i i v' hf;cases h;rcases find_run (w:=w) hn hk hrel hf with⟨h0,_⟩|⟨n,q,v'',b,e',h0,hes,hl,hkey,_,_,_,hfn⟩
  ·cases h0
  ·simp only[Option.some.injEq,Prod.mk.injEq] at h0;obtain⟨rfl,rfl⟩:=h0;rw[Nat.zero_add] at hfn;have hnew:=entRel_upd hv (kv:=kv) hrel hes hl hkey;obtain⟨w',hset,hE'⟩:=hE.setSp (s:= .map (updL v es n) clock) (obj':= .map ((l.modify n fun e:MapEntry=>{e with key:=kv,val:=vv}).toArray) clock) ho hne hj ⟨_,rfl,hnew⟩ P;refine⟨w',?_,by simpa using hE'⟩
   have hstay:(Instr.keyThatStays kv kv).run P w= .ok kv w:=by
    unfold Instr.keyThatStays
    have:Instr.sameBits 10000 kv kv=true:=keyNow_bits hn hk
    rw[if_pos this];rfl
   simp[Instr.mapUpdate,und_run hu,hg,hck,hfn,hl,hkey,hstay,hset]
 ·rename_i hf;rw[force_eq] at h;cases h;rcases find_run (w:=w) hn hk hrel hf with⟨_,hfn⟩|⟨n,q,v'',b,e',h0,_⟩
  ·have hnew:=entRel_push hk hv clock hrel;obtain⟨w',hset,hE'⟩:=hE.setSp (s:= .map (es++[(k,v,clock)]) (clock+1)) (obj':= .map (l++[({key:=kv,val:=vv,born:=clock}:MapEntry)]).toArray (clock+1)) ho hne hj ⟨_,rfl,hnew⟩ P;refine⟨w',?_,hE'⟩;simp[Instr.mapUpdate,und_run hu,hg,hck,hfn];simpa using hset
  ·cases h0
 ·cases h
theorem entRel_val{v:SV}{u:Value}(hv:Den E v u):∀{es:List (SV×SV×Nat)} {l:List MapEntry} (n:Nat),EntRel E es l→EntRel E (updL v es n) (l.modify n fun e=>{e with val:=u})
 | [],_,n,h=>by cases h;cases n<;>rfl
 |(k,x,b)::es,_,0,⟨e0,l',h1,h2,h3,h4,e1⟩=>by
  subst e1;rw[List.modify_zero_cons];exact⟨{e0 with val:=u},l',h1,hv,h3,h4,rfl⟩
 |(k,x,b)::es,_,n+1,⟨e0,l',h1,h2,h3,h4,e1⟩=>by
  subst e1;rw[List.modify_succ_cons];exact⟨e0,_,h1,h2,h3,entRel_val hv n h4,rfl⟩
theorem modify_key{kv:Value}:∀(l:List MapEntry) (n:Nat) (e:MapEntry),l[n]?=some e→e.key=kv→(l.modify n fun e=>{e with key:=kv})=l
 | [],n,_,h,_=>by simp at h
 |x::l,0,e,h,hk=>by
  simp at h;subst h;rw[List.modify_zero_cons, ← hk]
 |x::l,n+1,e,h,hk=>by
  rw[List.modify_succ_cons,modify_key l n e (by simpa using h) hk]
theorem born_at:∀{es:List (SV×SV×Nat)} {l:List MapEntry} (n:Nat),EntRel E es l→∀{e:MapEntry},l[n]?=some e→e.born=bornAt es n
 | [],_,n,h,e,he=>by cases h;simp at he
 |(k,x,b)::es,_,0,⟨e0,l',h1,h2,h3,h4,e1⟩,e,he=>by
  subst e1;simp at he;subst he;exact h3
 |(k,x,b)::es,_,n+1,⟨e0,l',h1,h2,h3,h4,e1⟩,e,he=>by
  subst e1;exact born_at n h4 (by simpa using he)
theorem findB_run{b:Int}:∀{es:List (SV×SV×Nat)} {l:List MapEntry} {i r:Nat},EntRel E es l→findB b es i=some r→∃n,r=i+n∧l.findIdx? (fun e=>(e.born:Int)==b)=some n
 | [],_,i,r,h,hf=>by cases hf
 |(k,x,c)::es,_,i,r,⟨e0,l',h1,h2,h3,h4,e1⟩,hf=>by
  subst e1;unfold findB at hf;rw[List.findIdx?_cons];rw[h3];cases hc:((c:Int)==b) with
  |true=>
   simp only[hc,cond_true,Option.some.injEq] at hf;exact⟨0,by omega,by simp⟩
  |false=>
   simp only[hc,cond_false] at hf;obtain⟨n,e,g⟩:=findB_run h4 hf;exact⟨n+1,by omega,by simp[g]⟩
theorem entry_good(hE:Emb P B w0 X E w){t:TypeId}{m k z:SV}{mv kv:Value}{X':XW}(hm:Den E m mv)(hk:Den E k kv)(h:semEntry P t m k X=some (z,X')):Good P B w0 E w (Instr.mapEntry t mv kv) z X':=by
 unfold semEntry at h;split at h<;>try(cases h;done)
 rename_i kt e j hu;split at h<;>try(cases h;done)
 rename_i o zv ho hz;split at h<;>try(cases h;done)
 rename_i es clock hs;cases hn:keyNow P kt k with
 |false=>simp[hn] at h
 |true=>
 simp only[hn,cond_true] at h;obtain⟨id,c,hj,rfl⟩:=hm;have hne:o.sp≠ .cells:=by rw[hs];simp
 obtain⟨l,hg,hrel⟩:=entriesOf_run (j:=j) (es:=es) (clock:=clock) hE (by unfold entriesOf;rw[ho];simp only[hs]) hj;have hck:∀b,(Instr.checkKey b 10000 kt kv).run P w= .ok () w:=fun b=>checkKey_run hn hk (by omega)
 split at h
 ·rename_i i v' hf;cases h;rcases find_run (w:=w) hn hk hrel hf with⟨h0,_⟩|⟨n,q,v'',b,e',h0,hes,hl,hkey,hv,hb,_,hfn⟩
  ·cases h0
  ·simp only[Option.some.injEq,Prod.mk.injEq,Nat.zero_add] at h0 hfn;obtain⟨rfl,rfl⟩:=h0;obtain⟨w',hset,hE'⟩:=hE.setSp (s:= .map es clock) (obj':= .map ((l.modify i fun e:MapEntry=>{e with key:=kv}).toArray) clock) ho hne hj ⟨_,rfl,by rw[modify_key l i e' hl hkey];exact hrel⟩ P;refine⟨E,.tuple #[e'.val,.int .i64 e'.born],w',Le.refl _,?_,⟨[e'.val,.int .i64 e'.born],⟨_,_,hv,⟨_,_,by rw[born_at i hrel hl];rfl,rfl,rfl⟩,rfl⟩,rfl⟩,hE'⟩
   have hstay:(Instr.keyThatStays kv kv).run P w= .ok kv w:=by
    unfold Instr.keyThatStays;rw[if_pos (keyNow_bits hn hk)];rfl
   simp[Instr.mapEntry,und_run hu,hg,hck,hfn,hl,hkey,hstay,hset,goInt]
 ·rename_i hf;split at h<;>try(cases h;done)
  rw[force_eq] at h;cases h;rcases find_run (w:=w) hn hk hrel hf with⟨_,hfn⟩|⟨n,q,v'',b,e',h0,_⟩
  ·have hnew:=entRel_push hk (den_mkV E zv) clock hrel;obtain⟨w',hset,hE'⟩:=hE.setSp (s:= .map (es++[(k,mkV zv,clock)]) (clock+1)) (obj':= .map (l++[({key:=kv,val:=zv,born:=clock}:MapEntry)]).toArray (clock+1)) ho hne hj ⟨_,rfl,hnew⟩ P;refine⟨E,.tuple #[zv,.int .i64 clock],w',Le.refl _,?_,⟨[zv,.int .i64 clock],⟨_,_,den_mkV E zv,⟨_,_,rfl,rfl,rfl⟩,rfl⟩,rfl⟩,hE'⟩;simp[Instr.mapEntry,und_run hu,hg,hck,hfn,tyZero_run hz,hset,goInt]
  ·cases h0
 ·cases h
theorem findE_put{kt:TypeId}{k v:SV}{c:Nat}(hkk:keyEq P kt k k=some true):∀(es:List (SV×SV×Nat)) (i:Nat),findE P kt k es i=some none→findE P kt k (es++[(k,v,c)]) i=some (some (i+es.length,v))
 | [],i,_=>by
   show findE P kt k [(k,v,c)] i=_;rw[findE,hkk];rfl
 |(q,x,b)::es,i,h=>by
  rw[List.cons_append,findE];rw[findE] at h;cases hq:keyEq P kt k q with
  |none=>rw[hq] at h;cases h
  |some c=>
   cases c with
   |true=>rw[hq] at h;cases h
   |false=>
    rw[hq] at h;show findE P kt k (es++[(k,v,_)]) (i+1)=_;rw[findE_put hkk es (i+1) h,List.length_cons];congr 3;omega
theorem lookup_entry{t:TypeId}{m k y z:SV}{X X':XW}(h:semLookup P t m k false X=some y)(he:semEntry P t m k X=some (z,X')):semLookup P t m k false X'=some y:=by
 unfold semEntry at he;split at he<;>try(cases he;done)
 rename_i kt e j hu;split at he<;>try(cases he;done)
 rename_i o zv ho hz;split at he<;>try(cases he;done)
 rename_i es clock hs;unfold semLookup at h⊢;simp only[hu,hz,mapOf,entriesOf,ho,hs] at h⊢;cases hn:keyNow P kt k with
 |false=>simp[hn] at h
 |true=>
 simp only[hn,cond_true] at h he⊢;split at he
 ·rename_i i v hf;cases he;simp only[Hp.get_put,if_true,hf] at h⊢;exact h
 ·rename_i hf;split at he<;>try(cases he;done)
  rename_i hkk;rw[force_eq] at he;cases he;simp only[hf,Option.some.injEq,cond_false] at h;simp only[Hp.get_put,if_true,findE_put hkk es 0 hf,cond_false,h]
 ·cases he
theorem entrySt_good(hE:Emb P B w0 X E w){t:TypeId}{m b v:SV}{mv bv vv:Value}{X':XW}(hm:Den E m mv)(hb:Den E b bv)(hv:Den E v vv)(h:semEntrySt m b v X=some X'):
 ∃w',(Instr.entryStore t mv bv vv).run P w= .ok () w'∧Emb P B w0 X' E w':=by
 unfold semEntrySt at h;split at h<;>try(cases h;done)
 rename_i j ik b';split at h<;>try(cases h;done)
 rename_i o ho;split at h<;>try(cases h;done)
 rename_i es clock hs;obtain⟨id,c,hj,rfl⟩:=hm;have e1:=den_int hb;subst e1;have hne:o.sp≠ .cells:=by rw[hs];simp
 obtain⟨l,hg,hrel⟩:=entriesOf_run (j:=j) (es:=es) (clock:=clock) hE (by unfold entriesOf;rw[ho];simp only[hs]) hj;split at h<;>try(cases h;done)
 rename_i i hf;cases h;obtain⟨n,e,hfi⟩:=findB_run hrel hf;obtain rfl:i=n:=by omega
 obtain⟨w',hset,hE'⟩:=hE.setSp (s:= .map (updL v es i) clock) (obj':= .map ((l.modify i fun e:MapEntry=>{e with val:=vv}).toArray) clock) ho hne hj ⟨_,rfl,entRel_val hv i hrel⟩ P;refine⟨w',?_,hE'⟩;simp[Instr.entryStore,hg,hfi,asInt,asIntOf,hset]
theorem assert_yes{x z:SV}{u:Value}{xt a:TypeId}{ok:Bool}(hx:Den E x u)(h:semAssert P x a ok=some z):Yes P E w (Instr.typeAssert u xt a ok) z:=by
 unfold semAssert at h;split at h<;>try(cases h;done)
 rename_i d zv hd hz;have hno:Den E (.tup [mkV zv,.bool false]) (.tuple #[zv,.bool false]):=⟨[zv,.bool false],⟨_,_,den_mkV E zv,⟨_,_,rfl,rfl,rfl⟩,rfl⟩,rfl⟩;split at h
 ·have e1:u= .nilIface:=hx;subst e1;cases ok<;>simp at h
  subst h;exact⟨_,by simp[Instr.typeAssert,und_run hd,tyZero_run hz],hno⟩
 ·rename_i ws t y;have hx':=hx;obtain⟨v,hv,rfl⟩:=hx';split at h<;>try(cases h;done)
  rename_i i hi;split at h
  ·rename_i hm;cases h;cases ok with
   |true=>exact⟨.tuple #[.iface t v,.bool true],by simp[Instr.typeAssert,und_run hd,typeInfo,hi,hm],[.iface t v,.bool true],⟨_,_,hx,⟨_,_,rfl,rfl,rfl⟩,rfl⟩,rfl⟩
   |false=>exact⟨.iface t v,by simp[Instr.typeAssert,und_run hd,typeInfo,hi,hm],hx⟩
  ·rename_i hm;cases ok<;>simp at h
   subst h;exact⟨_,by simp[Instr.typeAssert,und_run hd,typeInfo,hi,hm,tyZero_run hz],hno⟩
 ·rename_i hn;have e1:u= .nilIface:=hx;subst e1;cases ok<;>simp at h
  subst h;refine⟨_,?_,hno⟩;cases d<;>simp[Instr.typeAssert,und_run hd,tyZero_run hz]
 ·rename_i t y hn;have hx':=hx;obtain⟨v,hv,rfl⟩:=hx';cases hta:Nat.beq t a with
  |true=>
   have e:=Nat.eq_of_beq_eq_true hta;subst e;simp only[hta,cond_true,Option.some.injEq] at h;subst h;cases ok with
   |true=>
    refine⟨.tuple #[v,.bool true],?_,[v,.bool true],⟨_,_,hv,⟨_,_,rfl,rfl,rfl⟩,rfl⟩,rfl⟩;cases d<;>first|exact absurd rfl (hn _)|simp[Instr.typeAssert,und_run hd]
   |false=>
    refine⟨v,?_,hv⟩;cases d<;>first|exact absurd rfl (hn _)|simp[Instr.typeAssert,und_run hd]
  |false=>
   have e:=Nat.ne_of_beq_eq_false hta;simp only[hta,cond_false] at h;cases ok<;>simp at h
   subst h;refine⟨_,?_,hno⟩;cases d<;>first|exact absurd rfl (hn _)|simp[Instr.typeAssert,und_run hd,e,tyZero_run hz]
 ·cases h
theorem meth_run(hE:Emb P B w0 X E w){x r:SV}{u:Value}{name:String}{f:FuncId}(hx:Den E x u)(h:methE P x name X=some (f,r)):
 ∃rv,Den E r rv∧∀args,(callMethod u name args).run P w=(callFunc f (#[rv]++args)).run P w:=by
 unfold methE at h;split at h<;>try(cases h;done)
 rename_i t y;obtain⟨v,hv,rfl⟩:=hx;split at h<;>try(cases h;done)
 rename_i i hi;split at h<;>try(cases h;done)
 rename_i m hm;cases hp:m.path.isEmpty with
 |false=>simp[hp] at h
 |true=>
 simp only[hp,cond_true] at h;have hpath:m.path.toList=[]:=by simpa using hp
 have hpath2:m.path= #[]:=by simpa using hp
 have hfuel:∃n,P.types.size+Made.depth=n+1:=⟨P.types.size+99,rfl⟩;obtain⟨n,hfuel⟩:=hfuel;have hinfo:(typeInfo t).run P w= .ok i w:=by simp[typeInfo,hi]
 split at h
 ·rename_i f' e y' hfn hu;cases h;refine⟨v,hv,fun args=>?_⟩;simp[callMethod,run_program,hfuel,method,hinfo,hm,hpath,follow,hfn,receiverAt,und_run hu,Place.get]
 ·rename_i f' e k off hfn hu;split at h<;>try(cases h;done)
  rename_i z hz;cases h;obtain⟨id,c,hk,rfl⟩:=hv;obtain⟨zv,hr,hd⟩:=load_good hE hz hk;refine⟨zv,hd,fun args=>?_⟩;have hw:∀nm,(Builtin.ssaWrapNilChk_ #[t] t #[.pointer (some ⟨id,off,none⟩),strVal "",strVal nm]).run P w= .ok (.pointer (some ⟨id,off,none⟩)) w:=fun _=>rfl
  simp[callMethod,run_program,hfuel,method,hinfo,hm,follow,hfn,receiverAt,und_run hu,Place.get,hpath2,hw,asAddr,hr]
 ·cases h
 ·rename_i z g d hn3 hfn hu hn2;cases h;refine⟨v,hv,fun args=>?_⟩;cases d<;>first|exact(hn3 _ rfl).elim|exact(hn2 _ rfl).elim|simp[callMethod,run_program,hfuel,method,hinfo,hm,hpath,follow,hfn,receiverAt,und_run hu,Place.get]
 ·cases h
theorem idxL_eq(c:UInt8):∀(l:List UInt8) (i:Nat),idxL l c i=if Lib.indexByte l c= -1 then -1 else i+Lib.indexByte l c
 | [],i=>by simp[idxL,Lib.indexByte]
 |b::l,i=>by
  have hge:=Lib.indexByte_ge l c;simp only[idxL,Lib.indexByte];by_cases hb:(b==c)=true
  ·simp[hb]
  ·have hb':(b==c)=false:=by simpa using hb
   simp only[hb',cond_false,Bool.false_eq_true,if_false];rw[idxL_eq c l (i+1)];by_cases h:Lib.indexByte l c= -1
   ·simp[h]
   ·have h':(Lib.indexByte l c== -1)=false:=by simpa using h
    simp only[h,h',if_false,Bool.false_eq_true];rw[if_neg (by omega)]
    push_cast;omega
theorem idxL_zero(l:List UInt8)(c:UInt8):idxL l c 0=Lib.indexByte l c:=by
 rw[idxL_eq];by_cases h:Lib.indexByte l c= -1
 ·simp[h]
 ·simp[h]
theorem cmpL_eq:∀(a b:List UInt8),cmpL a b=Lib.compareBytes a b
 | [],[]=>rfl
 | [],_::_=>rfl
 |_::_,[]=>rfl
 |a::l,b::m=>by
  simp only[cmpL,Lib.compareBytes];cases hab:(a==b) with
  |true=>
   have e:a=b:=by simpa using hab
   subst e;simp only[cond_true];rw[if_neg (by simp),if_neg (by simp)];exact cmpL_eq l m
  |false=>
   have hne:a≠b:=by simpa using hab
   simp only[cond_false];cases hl:Nat.blt a.toNat b.toNat with
   |true=>
    rw[Nat.blt_eq] at hl;rw[if_pos (by rw[UInt8.lt_iff_toNat_lt];exact hl)];rfl
   |false=>
    have hl':¬a.toNat<b.toNat:=fun h=>by have:Nat.blt a.toNat b.toNat=true:=by rw[Nat.blt_eq];exact h
                                         rw[hl] at this;cases this
    have hne':a.toNat≠b.toNat:=fun h=>hne (UInt8.toNat_inj.1 h)
    rw[if_neg (by rw[UInt8.lt_iff_toNat_lt];exact hl'),if_pos (by rw[UInt8.lt_iff_toNat_lt];omega)];rfl
theorem nat_yes(hE:Emb P B w0 X E w){k:NK}{args:List SV}{argv:List Value}{z:SV}(hv:DenL E args argv)(h:natE k args X=some z):Yes P E w (natSem k argv.toArray) z:=by
 have two:∀{x1 x2:SV},DenL E [x1,x2] argv→∃u1 u2,argv=[u1,u2]∧Den E x1 u1∧Den E x2 u2:=by
  rintro x1 x2 ⟨u1,_,h1,⟨u2,_,h2,h3,e2⟩,e1⟩
  cases h3;exact⟨u1,u2,by rw[e1,e2],h1,h2⟩
 unfold natE at h;split at h
 ·rename_i s c;obtain⟨u1,u2,rfl,h1,h2⟩:=two hv;have e1:=den_str h1;have e2:=den_int h2;subst e1;subst e2;simp only[forceI_eq,Option.some.injEq,idxL_zero] at h;subst h;exact⟨_,Lib.run_indexByteString s c w,rfl⟩
 ·rename_i n1 n2 c;obtain⟨u1,u2,rfl,h1,h2⟩:=two hv;have e1:u1= .slice none n1 n2:=h1;have e2:=den_int h2;subst e1;subst e2;cases h;exact⟨_,Lib.run_indexByteNil w n1 n2 c,rfl⟩
 ·rename_i k off n cap lo c;obtain⟨u1,u2,rfl,h1,h2⟩:=two hv;have e2:=den_int h2;subst e2;split at h<;>try(cases h;done)
  rename_i o ho;split at h<;>try(cases h;done)
  rename_i ys hys;split at h<;>try(cases h;done)
  rename_i ns hns;simp only[forceI_eq,Option.some.injEq,idxL_zero] at h;subst h
  have hx':∃id c capv,E k=some (id,c)∧u1= .slice (some ⟨id,off,none⟩) n capv:=by
   cases cap with
   |none=>obtain⟨id,c,e1,e2⟩:=h1;exact⟨id,c,_,e1.1,e2⟩
   |some cap=>obtain⟨id,c,e1,e2⟩:=h1;exact⟨id,c,_,e1,e2⟩
  obtain⟨id,c',capv,hk,rfl⟩:=hx';obtain⟨id',c2,hk',hrel,_⟩:=hE.obj k o ho;rw[hk] at hk';cases hk';obtain⟨vs,g1,g2,g3⟩:=loadN_spec hrel _ off ys hys;have hvs:=bytesOf_spec hns g1;have hlen:ns.length=n:=by rw[← g2,hvs];simp
  have hcells:∀i,i<n→w.cell? ⟨id,off+i,none⟩=some (.int .u8 (ns.getD i 0)):=by
   intro i hi;refine g3 i _ ?_;rw[hvs];simp[List.getElem?_map,List.getD,List.getElem?_eq_getElem (show i<ns.length by omega)]
  exact⟨_,Lib.run_indexByteSlice w id off n capv ns hlen hcells c,rfl⟩
 ·rename_i a b;obtain⟨u1,u2,rfl,h1,h2⟩:=two hv;have e1:=den_str h1;have e2:=den_str h2;subst e1;subst e2;simp only[forceI_eq,Option.some.injEq,cmpL_eq] at h;subst h;exact⟨_,Lib.run_compareString a b w,rfl⟩
 ·obtain⟨u1,_,h1,h2,rfl⟩:=hv;cases h2;cases h;exact⟨u1,rfl,h1⟩
 ·cases h
end
end Go.Xe
namespace Go.Xe
section
variable{P:Program}{B:Nat}{w0 w:World}{X:XW}{E:Env}
def OpGood(P:Program)(B:Nat)(w0:World)(E:Env)(w:World)(s:Sem Next)(y:SV)(X':XW):Prop:=
 ∃E' v w',Le E E'∧(s.run P w= .ok (.value v) w'∨(s.run P w= .ok .skip w'∧v=undef))∧Den E' y v∧Emb P B w0 X' E' w'
theorem Good.op{s:Sem Value}{y:SV}{X':XW}(h:Good P B w0 E w s y X'):OpGood P B w0 E w (do Pure.pure (.value (← s))) y X':=by
 obtain⟨E',v,w',h1,h2,h3,h4⟩:=h;exact⟨E',v,w',h1,.inl (by simp[h2]),h3,h4⟩
theorem Yes.op{s:Sem Value}{y:SV}(hE:Emb P B w0 X E w)(h:Yes P E w s y):OpGood P B w0 E w (do Pure.pure (.value (← s))) y X:=by
 obtain⟨v,h2,h3⟩:=h;exact⟨E,v,w,Le.refl _,.inl (by simp[h2]),h3,hE⟩
theorem withX_some{o:Option SV}{y:SV}{X X':XW}(h:withX X o=some (y,X')):o=some y∧X=X':=by
 unfold withX at h;split at h<;>simp at h
 obtain⟨rfl,rfl⟩:=h;exact⟨rfl,rfl⟩
theorem denL1{a:SV}{l:List Value}(h:DenL E [a] l):∃u,l=[u]∧Den E a u:=by
 obtain⟨u,us,h1,h2,e⟩:=h;cases h2;exact⟨u,e,h1⟩
theorem denL2{a b:SV}{l:List Value}(h:DenL E [a,b] l):∃u v,l=[u,v]∧Den E a u∧Den E b v:=by
 obtain⟨u,us,h1,h2,e⟩:=h;obtain⟨v,rfl,h3⟩:=denL1 h2;exact⟨u,v,e,h1,h3⟩
theorem denL3{a b c:SV}{l:List Value}(h:DenL E [a,b,c] l):∃u v x,l=[u,v,x]∧Den E a u∧Den E b v∧Den E c x:=by
 obtain⟨u,us,h1,h2,e⟩:=h;obtain⟨v,x,rfl,h3⟩:=denL2 h2;exact⟨u,v,x,e,h1,h3⟩
inductive Turned (X:XW):XW→Prop
 |same:Turned X X
 |new (o:Ob):Turned X (X.new o).2
 |set (k:Nat) (o o':Ob):X.objs.get k=some o→o.ver<o'.ver→Turned X {X with objs:=X.objs.put k o'}
 |name (k:Nat) (o:Ob):Turned X {X with next:=X.next+1,objs:=(X.objs.del k).put X.next o}
theorem Turned.pc{X X':XW}(h:Turned X X'):X'.pc=X.pc:=by cases h<;>rfl
theorem Turned.dfs{X X':XW}(h:Turned X X'):X'.dfs=X.dfs:=by cases h<;>rfl
theorem loose_turned{ty esz:Nat}{cells:List SV}{X:XW}:Turned X (newLoose X ty esz cells).2:=by
 unfold newLoose;rw[force_eq];exact .new _
theorem convX_turned{s d:TypeId}{x y:SV}{X X':XW}(h:convX P s d x X=some (y,X')):Turned X X':=by
 unfold convX at h;split at h
 ·generalize(isU8 P _&&_)=b at h;cases b<;>simp only[cond_true,cond_false,Option.some.injEq,Prod.mk.injEq,reduceCtorEq] at h
  obtain⟨_,rfl⟩:=h;exact loose_turned
 ·generalize(isU8 P _&&_)=b at h;cases b<;>simp only[cond_true,cond_false,reduceCtorEq] at h
  split at h<;>try(cases h;done)
  rename_i o _;cases ho:o.ro<;>simp only[ho,cond_true,cond_false,Option.some.injEq,Prod.mk.injEq,reduceCtorEq] at h
  obtain⟨_,rfl⟩:=h;exact .same
 ·generalize isU8 P _=b at h;cases b<;>simp only[cond_true,cond_false,Option.some.injEq,Prod.mk.injEq,reduceCtorEq] at h
  obtain⟨_,rfl⟩:=h;exact .same
 ·generalize isU8 P _=b at h;cases b<;>simp only[cond_true,cond_false,Option.some.injEq,Prod.mk.injEq,reduceCtorEq] at h
  obtain⟨_,rfl⟩:=h;exact .same
 ·generalize isU8 P _=b at h;cases b<;>simp only[cond_true,cond_false,reduceCtorEq] at h
  split at h<;>try(cases h;done)
  split at h<;>try(cases h;done)
  split at h<;>try(cases h;done)
  cases h;exact .same
 ·cases h
theorem appIn_turned{k off len lo need sz:Nat}{cap:Option Nat}{o:Ob}{ny:List SV}{y:SV}{X X':XW}(ho:X.objs.get k=some o)(h:appIn k off len cap lo need sz o ny X=some (y,X')):Turned X X':=by
 unfold appIn at h;generalize(Nat.ble _ _&&_)=b at h;cases b<;>simp only[cond_true,cond_false,Option.some.injEq,Prod.mk.injEq,reduceCtorEq] at h
 obtain⟨_,rfl⟩:=h;exact .set k o _ ho (Nat.lt_succ_self _)
theorem appNew_turned{e sz b need:Nat}{cells:List SV}{y:SV}{X X':XW}(h:appNew e sz b need cells X=some (y,X')):Turned X X':=by
 unfold appNew at h;generalize(Nat.ble _ _&&_)=b at h;cases b<;>simp only[cond_true,cond_false,Option.some.injEq,Prod.mk.injEq,reduceCtorEq] at h
 obtain⟨_,rfl⟩:=h;exact loose_turned
theorem appOn_turned{k len need sz b:Nat}{o:Ob}{ny:List SV}{y:SV}{X X':XW}(h:appOn k len need sz b o ny X=some (y,X')):Turned X X':=by
 unfold appOn at h;generalize(Nat.ble _ _&&(_&&_))=c at h;cases c<;>simp only[cond_true,cond_false,force_eq,Option.some.injEq,Prod.mk.injEq,reduceCtorEq] at h
 obtain⟨_,rfl⟩:=h;exact .name k _
theorem appTo_turned{e sz b k off len lo n:Nat}{cap:Option Nat}{news:List SV}{y:SV}{X X':XW}(h:appTo e sz b k off len cap lo n news X=some (y,X')):Turned X X':=by
 unfold appTo at h;split at h<;>try(cases h;done)
 rename_i o ho;rw[force_eq] at h;split at h
 ·generalize Nat.ble _ _=b1 at h;cases b1<;>simp only[cond_true,cond_false] at h
  ·split at h<;>try(cases h;done)
   exact appNew_turned h
  ·exact appIn_turned ho h
 ·generalize(Nat.beq _ _&&(_&&(_&&(_&&(_&&_)))))=b1 at h;cases b1<;>simp only[cond_true,cond_false,reduceCtorEq] at h
  generalize Nat.ble _ _=b2 at h;cases b2<;>simp only[cond_true,cond_false] at h
  ·exact appOn_turned h
  ·exact appIn_turned ho h
theorem append_turned{t:TypeId}{s x y:SV}{X X':XW}(h:semAppend P t s x X=some (y,X')):Turned X X':=by
 unfold semAppend at h;split at h<;>try(cases h;done)
 split at h<;>try(cases h;done)
 split at h<;>try(cases h;done)
 generalize(Nat.ble _ _&&(_&&(_&&_)))=c at h;cases c<;>simp only[cond_true,cond_false,reduceCtorEq] at h
 split at h
 ·rename_i a c;generalize(Nat.beq a 0&&_)=b1 at h;cases b1<;>simp only[cond_true,cond_false,reduceCtorEq] at h
  rename_i n _ _ _ _;generalize Nat.beq _ 0=b2 at h;cases b2<;>simp only[cond_true,cond_false,Option.some.injEq,Prod.mk.injEq] at h
  ·exact appNew_turned h
  ·obtain⟨_,rfl⟩:=h;exact .same
 ·exact appTo_turned h
 ·generalize Nat.beq _ 0=b1 at h;cases b1<;>simp only[cond_true,cond_false,reduceCtorEq] at h
  cases h;exact .same
 ·cases h
theorem appendZ_turned{t:TypeId}{s x y:SV}{X X':XW}(h:semAppendZ P t s x X=some (y,X')):Turned X X':=by
 unfold semAppendZ at h;split at h<;>try(cases h;done)
 split at h<;>try(cases h;done)
 split at h<;>try(cases h;done)
 generalize(Nat.beq _ _&&(_&&(_&&_)))=c at h;cases c<;>simp only[cond_true,cond_false,reduceCtorEq] at h
 split at h<;>try(cases h;done)
 exact appTo_turned h
theorem copy_turned{t:TypeId}{s x y:SV}{X X':XW}(h:semCopy P t s x X=some (y,X')):Turned X X':=by
 unfold semCopy at h;split at h<;>try(cases h;done)
 split at h<;>try(cases h;done)
 split at h<;>try(cases h;done)
 generalize(Nat.beq _ _&&_)=c at h;cases c<;>simp only[cond_true,cond_false,reduceCtorEq] at h
 split at h
 ·generalize Nat.beq _ _=b1 at h;cases b1<;>simp only[cond_true,cond_false,Option.some.injEq,Prod.mk.injEq,reduceCtorEq] at h
  obtain⟨_,rfl⟩:=h;exact .same
 ·split at h<;>try(cases h;done)
  rename_i o ho;rw[force_eq] at h;generalize(Nat.ble _ _&&_)=b1 at h;cases b1<;>simp only[cond_true,cond_false,Option.some.injEq,Prod.mk.injEq,reduceCtorEq] at h
  obtain⟨_,rfl⟩:=h;exact .set _ o _ ho (Nat.lt_succ_self _)
 ·cases h
theorem blt_turned{b:Builtin}{ts:Array TypeId}{vals:List SV}{y:SV}{X X':XW}(h:bltE P b ts vals X=some (y,X')):Turned X X':=by
 unfold bltE at h;split at h
 ·split at h<;>try(cases h;done)
  obtain⟨_,rfl⟩:=withX_some h;exact .same
 ·split at h<;>try(cases h;done)
  obtain⟨_,rfl⟩:=withX_some h;exact .same
 ·obtain⟨_,rfl⟩:=withX_some h;exact .same
 ·obtain⟨_,rfl⟩:=withX_some h;exact .same
 ·split at h<;>try(cases h;done)
  split at h<;>try(cases h;done)
  generalize noInt _=b1 at h;cases b1<;>simp only[cond_true,cond_false,reduceCtorEq] at h
  ·generalize yesInt _=b2 at h;cases b2<;>simp only[cond_true,cond_false,reduceCtorEq] at h
   exact appendZ_turned h
  ·exact append_turned h
 ·split at h<;>try(cases h;done)
  exact copy_turned h
 ·cases h
theorem range_turned{t:TypeId}{x y:SV}{X X':XW}(h:semRange P t x X=some (y,X')):Turned X X':=by
 unfold semRange at h;split at h<;>cases h
 exact .new _
theorem next_turned{k:Nat}{y:SV}{X X':XW}(h:semNext k X=some (y,X')):Turned X X':=by
 unfold semNext at h;split at h<;>try(cases h;done)
 rename_i o ho;split at h<;>try(cases h;done)
 generalize Nat.blt _ _=b at h;cases b<;>simp only[cond_true,cond_false,force_eq,Option.some.injEq,Prod.mk.injEq] at h
 ·obtain⟨_,rfl⟩:=h;exact .same
 ·obtain⟨_,rfl⟩:=h;exact .set k o _ ho (Nat.lt_succ_self _)
theorem update_turned{t:TypeId}{m k v:SV}{X X':XW}(h:semUpdate P t m k v X=some X'):Turned X X':=by
 unfold semUpdate at h;split at h<;>try(cases h;done)
 split at h<;>try(cases h;done)
 rename_i o ho;split at h<;>try(cases h;done)
 generalize keyNow P _ k=b at h;cases b<;>simp only[cond_true,cond_false,reduceCtorEq] at h
 split at h
 ·cases h;exact .set _ o _ ho (Nat.lt_succ_self _)
 ·rw[force_eq] at h;cases h;exact .set _ o _ ho (Nat.lt_succ_self _)
 ·cases h
theorem entry_turned{t:TypeId}{m k z:SV}{X X':XW}(h:semEntry P t m k X=some (z,X')):Turned X X':=by
 unfold semEntry at h;split at h<;>try(cases h;done)
 split at h<;>try(cases h;done)
 rename_i o _ ho _;split at h<;>try(cases h;done)
 generalize keyNow P _ k=b at h;cases b<;>simp only[cond_true,cond_false,reduceCtorEq] at h
 split at h
 ·cases h;exact .set _ o _ ho (Nat.lt_succ_self _)
 ·split at h<;>try(cases h;done)
  rw[force_eq] at h;cases h;exact .set _ o _ ho (Nat.lt_succ_self _)
 ·cases h
theorem entrySt_turned{m b v:SV}{X X':XW}(h:semEntrySt m b v X=some X'):Turned X X':=by
 unfold semEntrySt at h;split at h<;>try(cases h;done)
 split at h<;>try(cases h;done)
 rename_i o ho;split at h<;>try(cases h;done)
 split at h<;>try(cases h;done)
 cases h;exact .set _ o _ ho (Nat.lt_succ_self _)
theorem sem_pc{op:Op}{vals:List SV}{X X':XW}{y:SV}(h:sem P op vals X=some (y,X'))(hp:Pc X'):Pc X:=by
 unfold sem at h;split at h
 case h_3=>
  unfold semPick at h;split at h
  ·rename_i hb;cases h;exact((asB_spec hb).1 hp).1
  ·rename_i hb;cases h;exact((asB_spec hb).1 hp).1
  ·cases h
 case h_4=>unfold semAlloc newRow XW.new at h;split at h<;>(try simp only[force_eq] at h)<;>cases h;exact hp
 case h_5=>
  unfold semBox newRow XW.new at h;rename_i x;cases hx:x.flat<;>simp only[hx,cond_false,cond_true,force_eq] at h<;>cases h
  exact hp
 case h_7=>
  unfold semBuildSlice newRow XW.new at h;split at h<;>try(cases h;done)
  split at h<;>try(cases h;done)
  rename_i s z _ _;generalize hc:(Nat.ble _ _&&Nat.ble 1 s&&_)=b at h;cases b<;>simp only[cond_true,cond_false,force_eq] at h
  ·cases h
  ·split at h<;>cases h;exact hp
 case h_9=>
  split at h<;>cases h
  rename_i X1 hs;unfold semStore at hs;split at hs<;>try(cases hs;done)
  rename_i o n _ _;generalize hc:(Nat.beq _ _&&_&&_&&_)=b at hs;cases b<;>simp only[cond_true,cond_false] at hs<;>cases hs
  exact hp
 case h_16=>
  unfold semMake newPat XW.new at h;split at h<;>try(cases h;done)
  split at h<;>try(cases h;done)
  split at h<;>try(cases h;done)
  rename_i s z b _ _ _;generalize hc:(Nat.ble _ _&&_&&_&&_&&_)=b at h;cases b<;>simp only[cond_true,cond_false,force_eq] at h<;>cases h
  exact hp
 all_goals first
  |(cases h;exact hp)
  |(obtain⟨_,rfl⟩:=withX_some h;exact hp)
  |(cases h;done)
  |(unfold Pc;rw[← (range_turned h).pc];exact hp)
  |(unfold Pc;rw[← (next_turned h).pc];exact hp)
  |(split at h<;>cases h;rename_i hu;unfold Pc;rw[← (update_turned hu).pc];exact hp)
  |(unfold Pc;rw[← (entry_turned h).pc];exact hp)
  |(split at h<;>cases h;rename_i hu;unfold Pc;rw[← (entrySt_turned hu).pc];exact hp)
  |(split at h
    ·cases h;exact hp
    ·unfold Pc;rw[← (convX_turned h).pc];exact hp)
theorem store_good(hE:Emb P B w0 X E w){t:TypeId}{k off id c:Nat}{y:SV}{v:Value}{X':XW}(hk:E k=some (id,c))(hv':Den E y v)(hs:semStore P t X k off y=some X'):
 ∃w',(storeVar t ⟨id,off,none⟩ v).run P w= .ok () w'∧Emb P B w0 X' E w':=by
 unfold semStore at hs;split at hs<;>try(cases hs;done)
 rename_i o n ho hn;cases h1:Nat.beq y.cells.length n with
 |false=>simp[h1] at hs
 |true=>
 cases h2:Nat.ble (off+n) o.n with
 |false=>simp[h1,h2] at hs
 |true=>
 cases h4:o.ro with
 |true=>simp[h1,h2,h4] at hs
 |false=>
 cases h5:allOne y.cells with
 |false=>simp[h1,h2,h4,h5] at hs
 |true=>
 simp only[h1,h2,h4,h5,Bool.and_self,Bool.not_false,cond_true,Option.some.injEq] at hs;subst hs;have h1':=Nat.eq_of_beq_eq_true h1;have h2':=Nat.le_of_ble_eq_true h2;have hcl:=den_cells hv' (flat_of_allOne h5);obtain⟨w',hr,hE'⟩:=hE.stored (off:=off) ho hk h4 hcl h5 (by omega) P;have hlen:=hcl.length;simp only[Array.length_toList] at hlen;exact⟨w',by simp[storeVar,tySize_run hn,hlen,h1',hr],by simpa[h4] using hE'⟩
theorem sem_sound(hE:Emb P B w0 X E w){o:Oper}{ρ:Operand→Value}{vals:List SV}{y:SV}{X':XW}(hv:DenL E vals (o.op.operands.toList.map ρ))(hp:Pc X')
 (h:sem P o.op vals X=some (y,X')):OpGood P B w0 E w (execOp ρ o) y X':=by
 obtain⟨dst,op,type,pos,after,guard⟩:=o;simp only at hv h;unfold sem at h;split at h
 ·
  obtain⟨u,e,hu⟩:=denL1 hv;cases h;simp[Op.operands] at e;subst e;exact⟨E,_,w,Le.refl _,.inl rfl,hu,hE⟩
 ·
  obtain⟨u,e,hu⟩:=denL1 hv;cases h;simp[Op.operands] at e;subst e;exact⟨E,_,w,Le.refl _,.inl rfl,hu,hE⟩
 ·
  obtain⟨u,v,x,e,hu,hv',hx⟩:=denL3 hv;simp[Op.operands] at e;obtain⟨rfl,rfl,rfl⟩:=e;unfold semPick at h;split at h
  ·rename_i hb;cases h;obtain⟨h1,h2,h3,h4⟩:=asB_spec hb;exact⟨E,_,w,Le.refl _,.inl (by simp[execOp,(h1 hp).2 _ _ hu,asBool]),hv',hE.same h2 h3 h4⟩
  ·rename_i hb;cases h;obtain⟨h1,h2,h3,h4⟩:=asB_spec hb;exact⟨E,_,w,Le.refl _,.inl (by simp[execOp,(h1 hp).2 _ _ hu,asBool]),hx,hE.same h2 h3 h4⟩
  ·cases h
 ·
  exact(alloc_good hE h).op
 ·
  obtain⟨u,e,hu⟩:=denL1 hv;simp[Op.operands] at e;subst e;exact(box_good hE hu h).op
 ·
  obtain⟨h',hXX⟩:=withX_some h;subst hXX;simp only[Op.operands,List.map_map] at hv;exact(build_good hE hv h').op
 ·
  simp only[Op.operands,List.map_map] at hv;exact(buildSlice_good hE hv h).op
 ·
  obtain⟨h',hXX⟩:=withX_some h;subst hXX;obtain⟨u,e,id,c,hk,hu⟩:=denL1 hv;simp[Op.operands] at e;subst e;obtain⟨v,hr,hd⟩:=load_good hE h' hk;exact⟨E,v,w,Le.refl _,.inl (by simp[execOp,Instr.loadAt,hu,Instr.sureAddr,hr]),hd,hE⟩
 ·
  split at h<;>try(cases h;done)
  rename_i X1 hs;cases h;obtain⟨u,v,e,⟨id,c,hk,hu⟩,hv'⟩:=denL2 hv;simp[Op.operands] at e;obtain⟨rfl,rfl⟩:=e;obtain⟨w',hr,hE'⟩:=store_good hE hk hv' hs;exact⟨E,undef,w',Le.refl _,.inr ⟨by simp[execOp,Instr.storeAt,hu,Instr.sureAddr,hr],rfl⟩,rfl,hE'⟩
 ·
  obtain⟨h',hXX⟩:=withX_some h;subst hXX;obtain⟨u,e,hu⟩:=denL1 hv;simp[Op.operands] at e;obtain⟨rfl,h1⟩:=nil_yes hu h';refine⟨E,u,w,Le.refl _,.inl ?_,hu,hE⟩;rcases h1 with⟨a,rfl⟩|⟨f,a,b,rfl⟩<;>simp[execOp,e]
 ·
  obtain⟨h',hXX⟩:=withX_some h;subst hXX;obtain⟨u,v,e,hu,hv'⟩:=denL2 hv;simp[Op.operands] at e;obtain⟨rfl,rfl⟩:=e;exact(bin_yes hu hv' h').op hE
 ·
  obtain⟨h',hXX⟩:=withX_some h;subst hXX;obtain⟨u,e,hu⟩:=denL1 hv;simp[Op.operands] at e;subst e;exact(un_yes hu h').op hE
 ·
  obtain⟨u,e,hu⟩:=denL1 hv;simp[Op.operands] at e;subst e;split at h
  ·rename_i z h';cases h;exact(conv_yes hu h').op hE
  ·exact(convX_good hE hu h).op
 ·
  obtain⟨h',hXX⟩:=withX_some h;subst hXX;obtain⟨u,e,hu⟩:=denL1 hv;simp[Op.operands] at e;subst e;exact(iface_yes hu h').op hE
 ·
  cases h;rename_i fn a b;simp only[Op.operands,Array.toList_append,List.map_append] at hv;have h1:=DenL.take a.size hv;have h2:=DenL.drop a.size hv;rw[List.take_left' (by simp)] at h1;rw[List.drop_left' (by simp)] at h2;exact⟨E,.func fn (a.map ρ) (b.map ρ),w,Le.refl _,.inl (by simp[execOp,Instr.makeFunc]),⟨_,_,h1,h2,by rw[← Array.toList_map, ← Array.toList_map]⟩,hE⟩
 ·
  obtain⟨u,v,e,hu,hv'⟩:=denL2 hv;simp[Op.operands] at e;obtain⟨rfl,rfl⟩:=e;exact(make_good hE hu hv' h).op
 ·
  obtain⟨h',hXX⟩:=withX_some h;subst hXX;obtain⟨u,e,id,c,hk,hu⟩:=denL1 hv;simp[Op.operands] at e
  have:=(fieldAddr_yes (w:=w) hk h').op hE
  rw[← hu, ← e] at this;exact this
 ·
  obtain⟨h',hXX⟩:=withX_some h;subst hXX;obtain⟨u,e,vs,hvs,hu⟩:=denL1 hv;simp[Op.operands] at e
  have:=(field_yes (w:=w) hvs h').op hE
  rw[← hu, ← e] at this;exact this
 ·
  obtain⟨h',hXX⟩:=withX_some h;subst hXX;obtain⟨u,v,e,hu,hv'⟩:=denL2 hv;simp[Op.operands] at e;obtain⟨rfl,rfl⟩:=e;exact(indexAddr_yes hu hv' h').op hE
 ·
  obtain⟨h',hXX⟩:=withX_some h;subst hXX;obtain⟨u,v,e,hu,hv'⟩:=denL2 hv;simp[Op.operands] at e;obtain⟨rfl,rfl⟩:=e;exact(index_yes hu hv' h').op hE
 ·
  obtain⟨h',hXX⟩:=withX_some h;subst hXX;obtain⟨u,e,vs,hvs,hu⟩:=denL1 hv;simp[Op.operands] at e;obtain⟨v,h1,h2⟩:=hvs.get _ _ h';exact⟨E,v,w,Le.refl _,.inl (by simp[execOp,Instr.extract,e,hu,h1]),h2,hE⟩
 ·
  obtain⟨u,e,hu⟩:=denL1 hv;simp[Op.operands] at e;subst e;exact(range_good hE hu h).op
 ·
  obtain⟨u,e,hu⟩:=denL1 hv;simp[Op.operands] at e;subst e;obtain⟨id,c,hk,hu'⟩:=hu
  have:=(next_good (P:=P) (ty:=type) hE hk h).op
  rw[← hu'] at this;exact this
 ·
  obtain⟨h',hXX⟩:=withX_some h;subst hXX;obtain⟨u,e,hu⟩:=denL1 hv;simp[Op.operands] at e;subst e;exact(arr_yes hu h').op hE
 ·
  cases h;exact(newMap_good hE).op
 ·
  obtain⟨h',hXX⟩:=withX_some h;subst hXX;obtain⟨u,v,e,hu,hv'⟩:=denL2 hv;simp[Op.operands] at e;obtain⟨rfl,rfl⟩:=e;exact(lookup_yes hE hu hv' h').op hE
 ·
  split at h<;>try(cases h;done)
  rename_i X1 hs;cases h;obtain⟨u,v,x,e,hu,hv',hx⟩:=denL3 hv;simp[Op.operands] at e;obtain⟨rfl,rfl,rfl⟩:=e;obtain⟨w',hr,hE'⟩:=update_good hE hu hv' hx hs;exact⟨E,undef,w',Le.refl _,.inr ⟨by simp[execOp,hr],rfl⟩,rfl,hE'⟩
 ·
  obtain⟨u,v,e,hu,hv'⟩:=denL2 hv;simp[Op.operands] at e;obtain⟨rfl,rfl⟩:=e;exact(entry_good hE hu hv' h).op
 ·
  split at h<;>try(cases h;done)
  rename_i t _ _ _ _ _ _ _ X1 hs;cases h;obtain⟨u,v,x,e,hu,hv',hx⟩:=denL3 hv;simp[Op.operands] at e;obtain⟨rfl,rfl,rfl⟩:=e;obtain⟨w',hr,hE'⟩:=entrySt_good (t:=t) hE hu hv' hx hs;exact⟨E,undef,w',Le.refl _,.inr ⟨by simp[execOp,hr],rfl⟩,rfl,hE'⟩
 ·
  obtain⟨h',hXX⟩:=withX_some h;subst hXX;obtain⟨u,e,hu⟩:=denL1 hv;simp[Op.operands] at e;subst e;exact(assert_yes hu h').op hE
 ·
  obtain⟨h',hXX⟩:=withX_some h;subst hXX;obtain⟨u,e,hu⟩:=denL1 hv;simp[Op.operands] at e;subst e;exact(slice_yes (lv:=none) (hv:=none) hu (fun y h=>by cases h) (fun _=>rfl) (fun y h=>by cases h) (fun _=>rfl) h').op hE
 ·obtain⟨h',hXX⟩:=withX_some h;subst hXX;obtain⟨u,v,e,hu,hv'⟩:=denL2 hv;simp[Op.operands] at e;obtain⟨rfl,rfl⟩:=e;exact(slice_yes (lv:=some _) (hv:=none) hu (fun y h=>by cases h;exact⟨_,rfl,hv'⟩) (fun h=>by cases h) (fun y h=>by cases h) (fun _=>rfl) h').op hE
 ·obtain⟨h',hXX⟩:=withX_some h;subst hXX;obtain⟨u,v,e,hu,hv'⟩:=denL2 hv;simp[Op.operands] at e;obtain⟨rfl,rfl⟩:=e;exact(slice_yes (lv:=none) (hv:=some _) hu (fun y h=>by cases h) (fun _=>rfl) (fun y h=>by cases h;exact⟨_,rfl,hv'⟩) (fun h=>by cases h) h').op hE
 ·obtain⟨h',hXX⟩:=withX_some h;subst hXX;obtain⟨u,v,x,e,hu,hv',hx⟩:=denL3 hv;simp[Op.operands] at e;obtain⟨rfl,rfl,rfl⟩:=e;exact(slice_yes (lv:=some _) (hv:=some _) hu (fun y h=>by cases h;exact⟨_,rfl,hv'⟩) (fun h=>by cases h) (fun y h=>by cases h;exact⟨_,rfl,hx⟩) (fun h=>by cases h) h').op hE
 ·cases h
end
end Go.Xe
namespace Go.Xe
section
variable{P:Program}{B:Nat}{w0 w:World}{X:XW}{E:Env}{ds:List Deferred}
def FrRel(ds:List Deferred)(N:Nat)(E:Env)(F:Tr SV)(a:Act):Prop:=
 a.defers=ds∧N≤a.tmps.size∧∀j y,F.get j=some y→j<N∧∃v,a.tmps[j]?=some v∧Den E y v
theorem FrRel.mono{N:Nat}{E E':Env}{F:Tr SV}{a:Act}(h:FrRel ds N E F a)(hE:Le E E'):FrRel ds N E' F a:=
 ⟨h.1,h.2.1,fun j y hj=>let ⟨l,v,h1,h2⟩:=h.2.2 j y hj;⟨l,v,h1,h2.mono hE⟩⟩
theorem FrRel.put{N:Nat}{F:Tr SV}{a:Act}(h:FrRel ds N E F a){d:Option Tmp}{y:SV}{v:Value}(hd:Den E y v):FrRel ds N E (Xe.put N F d y) (a.put d v):=by
 cases d with
 |none=>exact h
 |some d=>
  simp only[Xe.put,Act.put];cases hb:Nat.blt d N with
  |false=>
   refine⟨h.1,by simpa using h.2.1,fun j z hj=>?_⟩;obtain⟨hl,u,h1,h2⟩:=h.2.2 j z hj
   have hne:d≠j:=fun e=>by subst e;have:Nat.blt d N=true:=by rw[Nat.blt_eq];exact hl
                           rw[hb] at this;cases this
   exact⟨hl,u,by simpa[Array.getElem?_setIfInBounds_ne hne] using h1,h2⟩
  |true=>
   have hlt:d<N:=by rw[Nat.blt_eq] at hb;exact hb
   refine⟨h.1,by simpa using h.2.1,fun j z hj=>?_⟩;rcases get_put_some hj with⟨e,e2⟩|⟨e,hz⟩
   ·subst e;subst e2;have hsz:=h.2.1;exact⟨hlt,v,Array.getElem?_setIfInBounds_self_of_lt (Nat.lt_of_lt_of_le hlt hsz),hd⟩
   ·obtain⟨hl,u,h1,h2⟩:=h.2.2 j z hz;exact⟨hl,u,by simpa[Array.getElem?_setIfInBounds_ne (fun h=>e h.symm)] using h1,h2⟩
theorem look_sound{N:Nat}{F:Tr SV}{a:Act}(hE:Emb P B w0 X E w)(hF:FrRel ds N E F a){x:Operand}{y:SV}(h:look X.ng F x=some y):Den E y (a.eval x):=by
 cases x with
 |tmp t=>
  obtain⟨_,v,h1,h2⟩:=hF.2.2 t y h;simpa[Act.eval,h1] using h2
 |const v=>simp only[look,Option.some.injEq] at h;subst h;exact den_mkV E v
 |global g=>
  simp only[look] at h;cases hb:Nat.blt g X.ng with
  |false=>simp[hb] at h
  |true=>
   simp only[hb,cond_true,Option.some.injEq] at h;subst h;obtain⟨c,hc⟩:=hE.glob g (by rw[Nat.blt_eq] at hb;exact hb);exact⟨g,c,hc,rfl⟩
 |func f=>simp only[look,Option.some.injEq] at h;subst h;exact⟨[],[],rfl,rfl,rfl⟩
theorem looks_sound{N:Nat}{F:Tr SV}{a:Act}(hE:Emb P B w0 X E w)(hF:FrRel ds N E F a):∀{xs:List Operand} {ys:List SV},looks X.ng F xs=some ys→DenL E ys (xs.map a.eval)
 | [],ys,h=>by simp[looks] at h;subst h;rfl
 |x::xs,ys,h=>by
  simp only[looks] at h;split at h<;>try(cases h;done)
  rename_i y hy;split at h<;>try(cases h;done)
  rename_i ys' hys;cases h;exact⟨_,_,look_sound hE hF hy,looks_sound hE hF hys,rfl⟩
def wideR(ro:Option Nat):Fence:={fn:=fun _=>True,depth:=none,alive:=false,round:=ro}
def RetPost(P:Program)(B:Nat)(w0:World)(E:Env)(y:Out)(X':XW)(e:Ending)(w':World):Prop:=
 ∃E',Le E E'∧Emb P B w0 X' E' w'∧match y with
  | .ret z=>∃v,e= .returned v∧Den E' z v
  | .pan ch=>∃l,e= .panicked l∧DenCh E' ch l
def CalIn(P:Program)(E:Env)(c:Cal)(argv:List Value)(w:World)(R:Ending→World→Prop):Prop:=match c with
 | .fn f=>(∃fn,P.funcs[f]?=some fn∧fn.body.isSome=true∧fn.name≠"runtime.NumGoroutine"∧CallsIn (wideR none) 0 P f argv.toArray w R)∨(∃v w',(callFunc f argv.toArray).run P w= .ok (.value v) w'∧R (.returned v) w')
 | .ent f=>∃fn,P.funcs[f]?=some fn∧fn.body.isSome=true∧fn.name≠"runtime.NumGoroutine"∧CallsIn (wideR none) 0 P f argv.toArray w R
 | .yld k=>∃l c fn tmps assign body,E k=some (l,c)∧(Instr.yield l argv.toArray).run P w= .ok (.round l fn tmps assign body) w∧RoundIn (wideR none) 0 P l fn tmps assign body w R
def CallOK(P:Program)(callf:CallF):Prop:=∀c args X y X',callf c args X=some (y,X')→Pc X'→
 Pc X∧∀B w0 E w argv,Emb P B w0 X E w→DenL E args argv→CalIn P E c argv w (RetPost P B w0 E y X')
theorem CallsIn.anyRound{f:FuncId}{args:Array Value}{R:Ending→World→Prop}(ro:Option Nat)(h:CallsIn (wideR none) 0 P f args w R):CallsIn (wideR ro) 0 P f args w R:=h
theorem RoundIn.anyRound{l:Nat}{f:FuncId}{tmps:Array Value}{a c:Code}{R:Ending→World→Prop}(ro:Option Nat)(h:RoundIn (wideR none) 0 P l f tmps a c w R):RoundIn (wideR ro) 0 P l f tmps a c w R:=h
theorem cal_run{c:Call}{type:TypeId}{vals args:List SV}{cal:Cal}{ρ:Operand→Value}(hE:Emb P B w0 X E w)(hv:DenL E vals (c.operands.toList.map ρ))(h:calE P c vals X=some (cal,args)):
 ∃argv,DenL E args argv∧(match cal with
  | .fn f=>(do let d ← resolve ρ c type;invoke d.target d.args:Sem Next).run P w=(callFunc f argv.toArray).run P w
  | .ent _=>False
  | .yld k=>∃l cc,E k=some (l,cc)∧(do let d ← resolve ρ c type;invoke d.target d.args:Sem Next).run P w=(Instr.yield l argv.toArray).run P w):=by
 unfold calE at h;split at h
 ·rename_i f' hcal;have hops:c.operands.toList=f'::c.args.toList:=by simp[Call.operands,hcal]
  rw[hops] at hv;split at h<;>try(cases h;done)
  ·rename_i f fa fb az;obtain⟨u,us,⟨xa,xb,hxa,hxb,hu⟩,hus,e⟩:=hv;simp only[List.map_cons,List.cons.injEq] at e;obtain⟨e1,e2⟩:=e;cases h;refine⟨xa++us++xb,(hxa.append hus).append hxb,?_⟩;have hmap:Array.map ρ c.args=us.toArray:=by rw[← e2, ← Array.toList_inj];simp
   simp[resolve,hcal,e1,hu,Deferred.ofValue,hmap,invoke]
  ·rename_i k az;obtain⟨u,us,⟨l,cc,hk,hu⟩,hus,e⟩:=hv;simp only[List.map_cons,List.cons.injEq] at e;obtain⟨e1,e2⟩:=e;cases h;refine⟨us,hus,l,cc,hk,?_⟩;have hmap:Array.map ρ c.args=us.toArray:=by rw[← e2, ← Array.toList_inj];simp
   simp[resolve,hcal,e1,hu,Deferred.ofValue,hmap,invoke]
 ·rename_i rc name hcal;have hops:c.operands.toList=rc::c.args.toList:=by simp[Call.operands,hcal]
  rw[hops] at hv;split at h<;>try(cases h;done)
  rename_i x az;split at h<;>try(cases h;done)
  rename_i f r hm;obtain⟨u,us,hu,hus,e⟩:=hv;simp only[List.map_cons,List.cons.injEq] at e;obtain⟨e1,e2⟩:=e;cases h;obtain⟨rv,hr,hrun⟩:=meth_run hE hu hm;refine⟨rv::us,⟨_,_,hr,hus,rfl⟩,?_⟩;have hmap:Array.map ρ c.args=us.toArray:=by rw[← e2, ← Array.toList_inj];simp
  have hx:(#[u]++us.toArray).extract 1 (#[u]++us.toArray).size=us.toArray:=by
   apply Array.ext';simp
  have h0:(#[u]++us.toArray)[0]?=some u:=by simp
  have hrun':=hrun us.toArray;simp only[resolve,hcal,e1,hmap,Sem.run_bind,Sem.run_pure,Result.andThen_ok,invoke,h0,hx];rw[hrun'];simp
 ·cases h
theorem opO_sound{callf:CallF}(hcall:CallOK P callf){N:Nat}{F:Tr SV}{a:Act}{o:Oper}{y:Out}{X':XW}(hE:Emb P B w0 X E w)(hF:FrRel ds N E F a)(hsel:noSel o.op=true)
 (h:evOpO P callf o F X=some (y,X'))(hp:Pc X')(ro:Option Nat){K:Act→World→Prop}{Q:Exit→Act→World→Prop}
 (hK:∀z,y= .ret z→∀E' v w',Le E E'→Den E' z v→Emb P B w0 X' E' w'→K (a.put o.dst v) w')
 (hQ:∀ch,y= .pan ch→∀E' l w',Le E E'→DenCh E' ch l→Emb P B w0 X' E' w'→Q (.panic l) a w'):o.wpIn (wideR ro) 0 P a w K Q:=by
 refine⟨fun _ _=>trivial,?_⟩
 have hsem:o.semAt (wideR ro).round a.eval=execOp a.eval o:=by
  cases ro with
  |none=>rfl
  |some l=>exact Oper.semAt_some l _ o (fun c hc=>by rw[hc] at hsel;simp[noSel] at hsel)
 rw[hsem];unfold evOpO at h;split at h<;>try(cases h;done)
 rename_i vals hv;have hv':=looks_sound hE hF hv
 have plain:∀z,y= .ret z→OpGood P B w0 E w (execOp a.eval o) z X'→o.uponIn (wideR ro) 0 P a K Q ((execOp a.eval o).run P w):=by
  rintro z hz ⟨E',v,w',h1,h2,h3,h4⟩
  rcases h2 with h2|⟨h2,rfl⟩
  ·rw[h2];exact hK z hz E' v w' h1 h3 h4
  ·rw[h2];exact hK z hz E' undef w' h1 h3 h4
 have retO_some:∀{r:Option (SV×XW)},retO r=some (y,X')→∃z,y= .ret z∧r=some (z,X'):=by
  intro r hr;unfold retO at hr;split at hr<;>cases hr
  exact⟨_,rfl,rfl⟩
 have pan:∀{u:Value},panE vals X=some (y,X')→DenL E vals [u]→(execOp a.eval o).run P w=((Instr.panic u).run P w).andThen (fun v w'=>Result.ok (Next.value v) w')→o.uponIn (wideR ro) 0 P a K Q ((execOp a.eval o).run P w):=by
  intro u hpa hd hrun;unfold panE at hpa;split at hpa<;>try(cases hpa;done)
  rename_i tt xx;cases hpa;obtain⟨u',hu',hd'⟩:=denL1 hd;cases hu';have hd2:=hd';obtain⟨x,hx,rfl⟩:=hd2;rw[hrun];have hpn:(Instr.panic (.iface tt x):Sem Value).run P w= .halt (.panic (.iface tt x)) w:=rfl;rw[hpn];exact hQ _ rfl E _ w (Le.refl _) ⟨_,[],hd',rfl,rfl⟩ hE
 split at h
 ·rename_i c hc;have hops:o.op.operands.toList=c.operands.toList:=by rw[hc];rfl
  rw[hops] at hv';have hex:execOp a.eval o=(do let d ← resolve a.eval c o.type;invoke d.target d.args):=by simp only[execOp,hc]
  split at h
  ·rename_i b hcal;have hops2:c.operands.toList=c.args.toList:=by simp[Call.operands,hcal]
   rw[hops2] at hv';have hmap:Array.map a.eval c.args=(c.args.toList.map a.eval).toArray:=by rw[← Array.toList_inj];simp
   cases hpb:isPanB b with
   |true=>
    rw[hpb] at h;simp only[cond_true] at h;have hb:b= .panic:=by cases b<;>first|rfl|cases hpb
    subst hb;have hlen:=hv'.length;unfold panE at h;split at h<;>try(cases h;done)
    rename_i t x;obtain⟨u,hu,hd⟩:=denL1 hv';refine pan (u:=u) (by unfold panE;exact h) ⟨u,[],hd,rfl,rfl⟩ ?_;rw[hex];simp only[resolve,hcal,hmap,hu,invoke,Sem.run_bind,Sem.run_pure,Result.andThen_ok,builtin];rfl
   |false=>
    rw[hpb] at h;simp only[cond_false] at h;obtain⟨z,rfl,h3⟩:=retO_some h;obtain⟨E',v,w',g1,g2,g3,g4⟩:=blt_good (ty:=o.type) (consts:=c.args.map fun| .const _=>true|_=>false) hE hv' h3;refine plain z rfl ⟨E',v,w',g1,.inl ?_,g3,g4⟩;rw[hex];simp only[resolve,hcal,hmap,invoke,Sem.run_bind,Sem.run_pure,Result.andThen_ok];exact g2
  ·split at h<;>try(cases h;done)
   rename_i cal args hcal;obtain⟨argv,hargs,hrun⟩:=cal_run (type:=o.type) hE hv' hcal;obtain⟨_,hcl⟩:=hcall _ _ _ _ _ h hp;have hcal2:=hcl B w0 E w argv hE hargs
   have post:∀{e w'},RetPost P B w0 E y X' e w'→(∀v,e= .returned v→K (a.put o.dst v) w')∧(∀ch,e= .panicked ch→Q (.panic ch) a w')∧e≠ .outgrown:=by
    rintro e w' ⟨E',h1,h2,h3⟩
    cases y with
    |ret z=>
     obtain⟨v,rfl,hd⟩:=h3;exact⟨fun v' e=>(by cases e;exact hK z rfl E' v w' h1 hd h2),fun ch e=>(by cases e),by simp⟩
    |pan ch=>
     obtain⟨l,rfl,hd⟩:=h3;exact⟨fun v' e=>(by cases e),fun ch' e=>(by cases e;exact hQ ch rfl E' l w' h1 hd h2),by simp⟩
   rw[hex];cases cal with
   |fn f=>
    rw[hrun];rcases hcal2 with⟨fn,hfn,hbody,hname,hci⟩|⟨v,w',hr,hpost⟩
    ·have hbn:fn.body≠none:=fun e=>by rw[e] at hbody;cases hbody
     have:(callFunc f argv.toArray).run P w= .ok (.enter f argv.toArray) w:=by simp[callFunc,hfn,hname,hbn]
     rw[this,Oper.uponIn_enter];refine⟨(fun h=>by cases h),?_⟩;refine CallsIn.mono (CallsIn.anyRound ro hci) ?_;intro e w' hpost;obtain⟨p1,p2,p3⟩:=post hpost;cases e with
     |returned v=>exact p1 v rfl
     |panicked ch=>exact p2 ch rfl
     |outgrown=>exact absurd rfl p3
    ·rw[hr];exact(post hpost).1 v rfl
   |ent f=>exact hrun.elim
   |yld k=>
    obtain⟨l,cc,hk,hrun⟩:=hrun;obtain⟨l',cc',fn,tmps,assign,body,hk',hy,hri⟩:=hcal2;rw[hk] at hk';cases hk';rw[hrun,hy,Oper.uponIn_round];refine⟨(fun h=>by cases h),?_⟩;refine RoundIn.mono (RoundIn.anyRound ro hri) ?_;intro e w' hpost;obtain⟨p1,p2,p3⟩:=post hpost;cases e with
    |returned v=>exact p1 v rfl
    |panicked ch=>exact p2 ch rfl
    |outgrown=>exact absurd rfl p3
 ·rename_i x hx;have hops:o.op.operands.toList=[x]:=by rw[hx];rfl
  rw[hops] at hv';refine pan (u:=a.eval x) h hv' ?_;simp only[execOp,hx,Sem.run_bind];rfl
 ·rename_i op hne1 hne2;obtain⟨z,rfl,h3⟩:=retO_some h;exact plain z rfl (sem_sound hE hv' hp h3)
theorem evOpO_ret{callf:CallF}{F:Tr SV}{o:Oper}{y:SV}{X':XW}(h:evOp P callf o F X=some (y,X')):evOpO P callf o F X=some (.ret y,X'):=by
 unfold evOp at h;unfold evOpO;split at h<;>try(cases h;done)
 rename_i vals hv;split at h
 ·rename_i c hc;unfold evCall at h;split at h
  ·rename_i b hcal
   have hb:isPanB b=false:=by
    cases b<;>first|rfl|(unfold bltE at h;split at h<;>first|cases h|contradiction)
   simp only[hc,hcal,hb,cond_false,h,retO]
  ·rename_i hcal;split at h<;>try(cases h;done)
   rename_i cal args hc2;unfold callV at h;split at h<;>try(cases h;done)
   rename_i z X1 hz;cases h;split
   ·rename_i c' hc';rw[hc] at hc';cases hc';split
    ·rename_i b hb;exact absurd hb (hcal b)
    ·simp only[hc2,hz]
   ·rename_i hx;rw[hc] at hx;cases hx
   ·rename_i hx _;exact absurd hc (hx c)
 ·rename_i op hne;split
  ·rename_i c hc;exact absurd hc (hne c)
  ·rename_i x hx;rw[hx] at h;simp[sem] at h
  ·rw[h];rfl
theorem op_sound{callf:CallF}(hcall:CallOK P callf){N:Nat}{F:Tr SV}{a:Act}{o:Oper}{y:SV}{X':XW}(hE:Emb P B w0 X E w)(hF:FrRel ds N E F a)(hsel:noSel o.op=true)
 (h:evOp P callf o F X=some (y,X'))(hp:Pc X')(ro:Option Nat){K:Act→World→Prop}{Q:Exit→Act→World→Prop}
 (hK:∀E' v w',Le E E'→Den E' y v→Emb P B w0 X' E' w'→K (a.put o.dst v) w'):o.wpIn (wideR ro) 0 P a w K Q:=
 opO_sound hcall hE hF hsel (evOpO_ret h) hp ro (fun z hz=>by cases hz;exact hK) (fun ch hz=>by cases hz)
theorem evOpO_pc{callf:CallF}(hcall:CallOK P callf){F:Tr SV}{o:Oper}{y:Out}{X':XW}(h:evOpO P callf o F X=some (y,X'))(hp:Pc X'):Pc X:=by
 have panPc:∀{vals:List SV},panE vals X=some (y,X')→Pc X:=by
  intro vals h;unfold panE at h;split at h<;>cases h
  exact hp
 have retPc:∀{r:Option (SV×XW)},retO r=some (y,X')→∃z,r=some (z,X'):=by
  intro r hr;unfold retO at hr;split at hr<;>cases hr
  exact⟨_,rfl⟩
 unfold evOpO at h;split at h<;>try(cases h;done)
 split at h
 ·split at h
  ·rename_i b _;cases hb:isPanB b with
   |true=>rw[hb] at h;exact panPc h
   |false=>
    rw[hb] at h;obtain⟨z,h⟩:=retPc h;unfold Pc;rw[← (blt_turned h).pc];exact hp
  ·split at h<;>try(cases h;done)
   exact(hcall _ _ _ _ _ h hp).1
 ·exact panPc h
 ·obtain⟨z,h⟩:=retPc h;exact sem_pc h hp
theorem op_pc{callf:CallF}(hcall:CallOK P callf){F:Tr SV}{o:Oper}{y:SV}{X':XW}(h:evOp P callf o F X=some (y,X'))(hp:Pc X'):Pc X:=evOpO_pc hcall (evOpO_ret h) hp
theorem want_sound{N:Nat}{F:Tr SV}{a:Act}{ops:Array Oper}{o:Oper}{b:Bool}{X':XW}(hF:FrRel ds N E F a)(h:wantE ops.toList F X o.guard=some (b,X')):
 (Pc X'→Pc X∧Region.wanted o (yielded ops a.tmps)=b)∧X'.objs=X.objs∧X'.next=X.next∧X'.ng=X.ng:=by
 unfold wantE at h;unfold Region.wanted;split at h
 ·rename_i hg;cases h;simp[hg]
 ·rename_i j want hg;split at h<;>try(cases h;done)
  rename_i o' ho';split at h<;>try(cases h;done)
  rename_i d hd;split at h<;>try(cases h;done)
  rename_i y hy;obtain⟨h1,h2,h3,h4⟩:=asW_spec h;refine⟨fun hp=>⟨(h1 hp).1,?_⟩,h2,h3,h4⟩;obtain⟨_,v,hv,hdv⟩:=hF.2.2 d y hy;have ho'':ops[j]?=some o':=by simpa using ho'
  rcases(h1 hp).2 _ _ hdv with⟨c,rfl,hc⟩|⟨a,rfl,rfl⟩
  ·rw[← hc];simp[hg,yielded,ho'',hd,hv]
  ·simp[hg,yielded,ho'',hd,hv]
theorem want_pc{F:Tr SV}{ops:List Oper}{g:Option (Nat×Bool)}{b:Bool}{X':XW}(h:wantE ops F X g=some (b,X'))(hp:Pc X'):Pc X:=by
 unfold wantE at h;split at h
 ·cases h;exact hp
 ·split at h<;>try(cases h;done)
  split at h<;>try(cases h;done)
  split at h<;>try(cases h;done)
  exact((asW_spec h).1 hp).1
theorem step_pc{callf:CallF}(hcall:CallOK P callf){N:Nat}{F F':Tr SV}{ops:List Oper}{o:Oper}{X':XW}(h:stepE P callf N ops o F X=some (F',X'))(hp:Pc X'):Pc X:=by
 unfold stepE at h;split at h
 ·rename_i X1 hw;split at h<;>try(cases h;done)
  rename_i y X2 ho;cases h;exact want_pc hw (op_pc hcall ho hp)
 ·rename_i X1 hw;cases h;exact want_pc hw hp
 ·cases h
theorem step_sound{callf:CallF}(hcall:CallOK P callf){N:Nat}{F F':Tr SV}{a:Act}{ops:Array Oper}{o:Oper}{X':XW}(hE:Emb P B w0 X E w)(hF:FrRel ds N E F a)(hsel:noSel o.op=true)
 (h:stepE P callf N ops.toList o F X=some (F',X'))(hp:Pc X')(ro:Option Nat){K:Act→World→Prop}{Q:Exit→Act→World→Prop}
 (hK:∀E' a' w',Le E E'→FrRel ds N E' F' a'→Emb P B w0 X' E' w'→K a' w'):
 if Region.wanted o (yielded ops a.tmps) then o.wpIn (wideR ro) 0 P a w K Q
 else(∀f,o.about P w a.eval=some f→(wideR ro).fn f)∧K (a.put o.dst undef) w:=by
 unfold stepE at h;split at h
 ·rename_i X1 hw;split at h<;>try(cases h;done)
  rename_i y X2 ho;cases h;have hp1:=op_pc hcall ho hp;obtain⟨h1,h2,h3,h4⟩:=want_sound hF hw;rw[(h1 hp1).2,if_pos rfl];exact op_sound hcall (hE.same h2 h3 h4) hF hsel ho hp ro (fun E' v w' a1 a2 a3=>hK E' _ w' a1 ((hF.mono a1).put a2) a3)
 ·rename_i X1 hw;cases h;obtain⟨h1,h2,h3,h4⟩:=want_sound hF hw;rw[(h1 hp).2,if_neg (by simp)];exact⟨fun _ _=>trivial,hK E _ w (Le.refl _) (hF.put rfl) (hE.same h2 h3 h4)⟩
 ·cases h
end
end Go.Xe
namespace Go.Xe
section
variable{P:Program}{B:Nat}{w0 w:World}{E:Env}{ds:List Deferred}
def Eqv(F F':Tr SV):Prop:=∀k,F.get k=F'.get k
theorem Eqv.refl(F:Tr SV):Eqv F F:=fun _=>rfl
theorem Eqv.symm{F F':Tr SV}(h:Eqv F F'):Eqv F' F:=fun k=>(h k).symm
theorem Eqv.trans{F F' F'':Tr SV}(h:Eqv F F')(h':Eqv F' F''):Eqv F F'':=fun k=>(h k).trans (h' k)
theorem FrRel.eqv{N:Nat}{F F':Tr SV}{a:Act}(h:FrRel ds N E F a)(he:Eqv F F'):FrRel ds N E F' a:=
 ⟨h.1,h.2.1,fun j y hj=>h.2.2 j y (by rw[he j];exact hj)⟩
theorem looks_eqv{ng:Nat}{F F':Tr SV}:∀{xs:List Operand},(∀x∈xs,look ng F x=look ng F' x)→looks ng F xs=looks ng F' xs
 | [],_=>rfl
 |x::xs,h=>by simp only[looks,h x (List.mem_cons_self ..),looks_eqv (fun y hy=>h y (List.mem_cons_of_mem _ hy))]
def stepV(P:Program)(callf:CallF)(ops:List Oper)(o:Oper)(F:Tr SV)(X:XW):Option (SV×XW):=
 match wantE ops F X o.guard with
 |some (true,X)=>evOp P callf o F X
 |some (false,X)=>some (.val undef,X)
 |none=>none
theorem stepE_eq{callf:CallF}{N:Nat}{ops:List Oper}{o:Oper}{F F':Tr SV}{X X':XW}:
 stepE P callf N ops o F X=some (F',X')↔∃y,stepV P callf ops o F X=some (y,X')∧F'=put N F o.dst y:=by
 unfold stepE stepV;cases hw:wantE ops F X o.guard with
 |none=>simp
 |some r=>
  obtain⟨b,X1⟩:=r;cases b with
  |false=>
   simp only[Option.some.injEq,Prod.mk.injEq];constructor
   ·rintro ⟨rfl,rfl⟩;exact⟨_,⟨rfl,rfl⟩,rfl⟩
   ·rintro ⟨y',⟨rfl,rfl⟩,rfl⟩;exact⟨rfl,rfl⟩
  |true=>
   simp only[];cases ho:evOp P callf o F X1 with
   |none=>simp
   |some r=>
    obtain⟨y,X2⟩:=r;simp only[Option.some.injEq,Prod.mk.injEq];constructor
    ·rintro ⟨rfl,rfl⟩;exact⟨y,⟨rfl,rfl⟩,rfl⟩
    ·rintro ⟨y',⟨rfl,rfl⟩,rfl⟩;exact⟨rfl,rfl⟩
theorem look_same{ops:Array Oper}{o:Oper}{F F':Tr SV}{X:XW}(h:∀t∈o.looksAt ops,F.get t=F'.get t):
 wantE ops.toList F X o.guard=wantE ops.toList F' X o.guard∧∀ng,looks ng F o.op.operands.toList=looks ng F' o.op.operands.toList:=by
 refine⟨?_,fun ng=>looks_eqv fun x hx=>?_⟩
 ·unfold wantE;cases hg:o.guard with
  |none=>rfl
  |some gw=>
   obtain⟨j,want⟩:=gw;simp only[];cases ho:ops.toList[j]? with
   |none=>rfl
   |some o'=>
    simp only[];cases hd:o'.dst with
    |none=>rfl
    |some d=>
     have ho':ops[j]?=some o':=by simpa using ho
     have hm:d∈o.looksAt ops:=by simp[Oper.looksAt,hg,ho',hd]
     simp only[h d hm]
 ·cases x with
  |tmp t=>exact h t (List.mem_append_left _ (List.mem_filterMap.2 ⟨.tmp t,hx,rfl⟩))
  |_=>rfl
theorem stepV_look{callf:CallF}{ops:Array Oper}{o:Oper}{F F':Tr SV}{X:XW}(h:∀t∈o.looksAt ops,F.get t=F'.get t):
 stepV P callf ops.toList o F X=stepV P callf ops.toList o F' X:=by
 obtain⟨hw,hl⟩:=look_same (X:=X) h;unfold stepV;rw[hw];unfold evOp;simp only[hl]
theorem put_get{N:Nat}{F:Tr SV}{d:Option Tmp}{y:SV}(k:Nat)(h:d≠some k):(put N F d y).get k=F.get k:=by
 cases d with
 |none=>rfl
 |some t=>
  simp only[put];cases hb:Nat.blt t N with
  |false=>rfl
  |true=>
   have hlt:t<N:=by rw[Nat.blt_eq] at hb;exact hb
   simp only[cond_true];rw[get_put,if_neg (fun e=>h (by rw[e]))]
theorem put_self{N:Nat}{F F':Tr SV}{d:Option Tmp}{y:SV}{k:Nat}(h:d=some k)(hF:F.get k=F'.get k):(put N F d y).get k=(put N F' d y).get k:=by
 subst h;simp only[put];cases hb:Nat.blt k N with
 |false=>exact hF
 |true=>
  simp only[cond_true];rw[get_put,get_put];simp
theorem put_eqv{N:Nat}{F F':Tr SV}(he:Eqv F F')(d:Option Tmp)(y:SV):Eqv (put N F d y) (put N F' d y):=fun k=>by
 by_cases h:d=some k
 ·exact put_self h (he k)
 ·rw[put_get k h,put_get k h];exact he k
theorem put_comm{N:Nat}{F:Tr SV}{d e:Option Tmp}{y z:SV}(h:∀t,d=some t→e≠some t):Eqv (put N (put N F d y) e z) (put N (put N F e z) d y):=fun k=>by
 by_cases hd:d=some k
 ·have he:=h k hd;rw[put_get k he];exact put_self hd (put_get k he).symm
 ·rw[put_get (d:=d) k hd];by_cases he:e=some k
  ·exact put_self he (put_get k hd)
  ·rw[put_get k he,put_get k he,put_get k hd]
theorem stepE_eqv{callf:CallF}{N:Nat}{ops:Array Oper}{o:Oper}{F F' G:Tr SV}{X X':XW}(he:Eqv F F')(h:stepE P callf N ops.toList o F X=some (G,X')):
 ∃G',stepE P callf N ops.toList o F' X=some (G',X')∧Eqv G G':=by
 obtain⟨y,hy,rfl⟩:=stepE_eq.1 h;exact⟨_,stepE_eq.2 ⟨y,by rw[← stepV_look (fun t _=>he t)];exact hy,rfl⟩,put_eqv he _ _⟩
theorem asB_orc{X X':XW}{y:SV}{b:Bool}(ho:X.orc=[])(h:asB X y=some (b,X')):X'=X∧∀X1,asB X1 y=some (b,X1):=by
 cases y with
 |bool c=>simp only[asB,Option.some.injEq,Prod.mk.injEq] at h;obtain⟨rfl,rfl⟩:=h;exact⟨rfl,fun _=>rfl⟩
 |val x=>cases x<;>simp[asB,XW.ask,ho] at h
 |_=>simp[asB] at h
theorem asW_orc{X X':XW}{y:SV}{b want:Bool}(ho:X.orc=[])(h:asW X want y=some (b,X')):X'=X∧∀X1,asW X1 want y=some (b,X1):=by
 unfold asW at h⊢;cases ht:isTup y with
 |true=>
  simp only[ht,cond_true,Option.some.injEq,Prod.mk.injEq] at h;obtain⟨rfl,rfl⟩:=h;exact⟨rfl,fun _=>rfl⟩
 |false=>
  simp only[ht,cond_false] at h;split at h<;>try(cases h;done)
  rename_i hb;cases h;obtain⟨h1,h2⟩:=asB_orc ho hb;exact⟨h1,fun X1=>by simp[h2 X1]⟩
theorem want_orc{ops:List Oper}{F:Tr SV}{X X':XW}{g:Option (Nat×Bool)}{b:Bool}(ho:X.orc=[])(h:wantE ops F X g=some (b,X')):X'=X∧∀X1,wantE ops F X1 g=some (b,X1):=by
 unfold wantE at h⊢;split at h
 ·cases h;exact⟨rfl,fun _=>rfl⟩
 ·split at h<;>try(cases h;done)
  split at h<;>try(cases h;done)
  split at h<;>try(cases h;done)
  obtain⟨h1,h2⟩:=asW_orc ho h;exact⟨h1,fun X1=>by simp[*]⟩
theorem convX_row{s d:TypeId}{x y:SV}{X X':XW}(h:convX P s d x X=some (y,X')):rowConv P s d=true:=by
 unfold convX at h;unfold rowConv
 split at h<;>first
  |(cases h;done)
  |(rename_i h1 h2;simp only[h1,h2])
  |(rename_i h1 h2;simp[h1,h2])
theorem pure_sem{op:Op}{vals:List SV}{X X':XW}{y:SV}(hp:isPure P op=true)(ho:X.orc=[])(h:sem P op vals X=some (y,X')):X'=X∧∀X1,sem P op vals X1=some (y,X1):=by
 unfold sem at h;split at h
 all_goals first
  |(simp[isPure] at hp;done)
  |(cases h;done)
  |(cases h;exact⟨rfl,fun _=>rfl⟩)
  |(obtain⟨h',hXX⟩:=withX_some h;subst hXX;exact⟨rfl,fun X1=>by simp only[sem,withX,h']⟩)
  |(unfold semPick at h
    split at h
    ·rename_i hb;cases h;obtain⟨h1,h2⟩:=asB_orc ho hb;exact⟨h1,fun X1=>by simp only[sem,semPick,h2]⟩
    ·rename_i hb;cases h;obtain⟨h1,h2⟩:=asB_orc ho hb;exact⟨h1,fun X1=>by simp only[sem,semPick,h2]⟩
    ·cases h)
  |(split at h
    ·rename_i hc;cases h;exact⟨rfl,fun X1=>by simp only[sem,hc]⟩
    ·have:=convX_row h;simp[isPure,this] at hp)
structure Keeps (X X':XW):Prop where
 orc:X.orc=[]→X'.orc=[]
 ng:X'.ng=X.ng
 next:X.next≤X'.next
 ver:∀k o o',k<X.next→X.objs.get k=some o→X'.objs.get k=some o'→o.ver≤o'.ver∧(o'.ver=o.ver→o'=o)
 dead:∀k,k<X.next→X.objs.get k=none→X'.objs.get k=none
 dfs:X'.dfs=X.dfs
 pc:Pc X'→Pc X
theorem Keeps.refl(X:XW):Keeps X X:=⟨fun h=>h,rfl,Nat.le_refl _,fun k o o' _ h h'=>by rw[h] at h';cases h';exact⟨Nat.le_refl _,fun _=>rfl⟩,fun _ _ h=>h,rfl,fun h=>h⟩
theorem Keeps.trans{X Y Z:XW}(h:Keeps X Y)(h':Keeps Y Z):Keeps X Z:=by
 refine⟨fun ho=>h'.orc (h.orc ho),h'.ng.trans h.ng,Nat.le_trans h.next h'.next,fun k o o' hk ho ho'=>?_,fun k hk hd=>h'.dead k (Nat.lt_of_lt_of_le hk h.next) (h.dead k hk hd),h'.dfs.trans h.dfs,fun p=>h.pc (h'.pc p)⟩;cases hy:Y.objs.get k with
 |none=>have:=h'.dead k (Nat.lt_of_lt_of_le hk h.next) hy;rw[ho'] at this;cases this
 |some oy=>
  obtain⟨a1,a2⟩:=h.ver k o oy hk ho hy;obtain⟨b1,b2⟩:=h'.ver k oy o' (Nat.lt_of_lt_of_le hk h.next) hy ho';exact⟨Nat.le_trans a1 b1,fun e=>by rw[b2 (by omega),a2 (by omega)]⟩
theorem Keeps.same{X X':XW}(ho:X.orc=[]→X'.orc=[])(hn:X'.ng=X.ng)(hx:X'.next=X.next)(hobj:X'.objs=X.objs)(hd:X'.dfs=X.dfs)(hpc:Pc X'→Pc X):Keeps X X':=
 ⟨ho,hn,by rw[hx];exact Nat.le_refl _,fun k o o' _ h h'=>by rw[hobj,h] at h';cases h';exact⟨Nat.le_refl _,fun _=>rfl⟩,fun k _ h=>by rw[hobj];exact h,hd,hpc⟩
theorem Keeps.new(X:XW)(o:Ob):Keeps X (X.new o).2:=by
 refine⟨fun h=>h,rfl,Nat.le_succ _,fun k a b hk h h'=>?_,fun k hk h=>?_,rfl,fun h=>h⟩
 ·rcases Hp.get_put_some h' with⟨e,_⟩|⟨_,h2⟩
  ·omega
  ·rw[h] at h2;cases h2;exact⟨Nat.le_refl _,fun _=>rfl⟩
 ·cases h':(X.new o).2.objs.get k with
  |none=>rfl
  |some b=>
   rcases Hp.get_put_some h' with⟨e,_⟩|⟨_,h2⟩
   ·omega
   ·rw[h] at h2;cases h2
theorem Keeps.store{X:XW}{k:Nat}{o o':Ob}(hk:X.objs.get k=some o)(hv:o.ver<o'.ver):Keeps X {X with objs:=X.objs.put k o'}:=by
 refine⟨fun h=>h,rfl,Nat.le_refl _,fun j a b _ h h'=>?_,fun j _ h=>?_,rfl,fun h=>h⟩
 ·rcases Hp.get_put_some h' with⟨rfl,rfl⟩|⟨_,h2⟩
  ·rw[hk] at h;cases h;exact⟨by omega,fun e=>by omega⟩
  ·rw[h] at h2;cases h2;exact⟨Nat.le_refl _,fun _=>rfl⟩
 ·cases h':(X.objs.put k o').get j with
  |none=>rfl
  |some b=>
   rcases Hp.get_put_some h' with⟨rfl,_⟩|⟨_,h2⟩
   ·rw[hk] at h;cases h
   ·rw[h] at h2;cases h2
theorem Keeps.name{X:XW}{k:Nat}{o:Ob}:Keeps X {X with next:=X.next+1,objs:=(X.objs.del k).put X.next o}:=by
 refine⟨fun h=>h,rfl,Nat.le_succ _,fun j a b hj h h'=>?_,fun j hj h=>?_,rfl,fun h=>h⟩
 ·rcases Hp.get_put_some h' with⟨e,_⟩|⟨_,h2⟩
  ·omega
  ·have:=(Hp.get_del_some h2).2;rw[h] at this;cases this;exact⟨Nat.le_refl _,fun _=>rfl⟩
 ·show((X.objs.del k).put X.next o).get j=none;cases h':((X.objs.del k).put X.next o).get j with
  |none=>rfl
  |some b=>
   rcases Hp.get_put_some h' with⟨e,_⟩|⟨_,h2⟩
   ·omega
   ·have:=(Hp.get_del_some h2).2;rw[h] at this;cases this
theorem Turned.keeps{X X':XW}(h:Turned X X'):Keeps X X':=by
 cases h with
 |same=>exact Keeps.refl _
 |new o=>exact Keeps.new _ _
 |set k o o' h1 h2=>exact Keeps.store h1 h2
 |name k o=>exact Keeps.name
theorem asB_dfs{X X':XW}{y:SV}{b:Bool}(h:asB X y=some (b,X')):X'.dfs=X.dfs:=by
 cases y with
 |bool c=>simp only[asB,Option.some.injEq,Prod.mk.injEq] at h;obtain⟨rfl,rfl⟩:=h;rfl
 |val x=>
  cases x with
  |bool s=>
   simp only[asB,XW.ask] at h;split at h<;>cases h
   rfl
  |_=>simp[asB] at h
 |_=>simp[asB] at h
theorem asB_keeps{X X':XW}{y:SV}{b:Bool}(h:asB X y=some (b,X')):Keeps X X':=by
 obtain⟨_,h2,h3,h4⟩:=asB_spec h;exact Keeps.same (fun ho=>by rw[(asB_orc ho h).1];exact ho) h4 h3 h2 (asB_dfs h) (fun hp=>((asB_spec h).1 hp).1)
def KeepsOK(callf:CallF):Prop:=∀c args X y X',callf c args X=some (y,X')→Keeps X X'
theorem sem_keeps{op:Op}{vals:List SV}{X X':XW}{y:SV}(h:sem P op vals X=some (y,X')):Keeps X X':=by
 unfold sem at h;split at h
 case h_3=>
  unfold semPick at h;split at h
  ·rename_i hb;cases h;exact asB_keeps hb
  ·rename_i hb;cases h;exact asB_keeps hb
  ·cases h
 case h_4=>unfold semAlloc newRow at h;split at h<;>(try simp only[force_eq] at h)<;>cases h;exact Keeps.new _ _
 case h_5=>
  unfold semBox newRow at h;rename_i x;cases hx:x.flat<;>simp only[hx,cond_false,cond_true,force_eq] at h<;>cases h
  exact Keeps.new _ _
 case h_7=>
  unfold semBuildSlice newRow at h;split at h<;>try(cases h;done)
  split at h<;>try(cases h;done)
  rename_i s z _ _;generalize hc:(Nat.ble _ _&&Nat.ble 1 s&&_)=b at h;cases b<;>simp only[cond_true,cond_false,force_eq] at h
  ·cases h
  ·split at h<;>cases h;exact Keeps.new _ _
 case h_9=>
  split at h<;>cases h
  rename_i X1 hs;unfold semStore at hs;split at hs<;>try(cases hs;done)
  rename_i o n ho _;generalize hc:(Nat.beq _ _&&_&&_&&_)=b at hs;cases b<;>simp only[cond_true,cond_false] at hs<;>cases hs
  exact Keeps.store ho (Nat.lt_succ_self _)
 case h_16=>
  unfold semMake newPat at h;split at h<;>try(cases h;done)
  split at h<;>try(cases h;done)
  split at h<;>try(cases h;done)
  rename_i s z b _ _ _;generalize hc:(Nat.ble _ _&&_&&_&&_&&_)=b at h;cases b<;>simp only[cond_true,cond_false,force_eq] at h<;>cases h
  exact Keeps.new _ _
 all_goals first
  |(cases h;exact Keeps.refl _)
  |(obtain⟨_,rfl⟩:=withX_some h;exact Keeps.refl _)
  |(cases h;done)
  |exact(range_turned h).keeps
  |exact(next_turned h).keeps
  |(unfold newMap at h;cases h;exact Keeps.new _ _)
  |(split at h<;>cases h;rename_i hu;exact(update_turned hu).keeps)
  |exact(entry_turned h).keeps
  |(split at h<;>cases h;rename_i hu;exact(entrySt_turned hu).keeps)
  |(split at h
    ·cases h;exact Keeps.refl _
    ·exact(convX_turned h).keeps)
theorem evOp_keeps{callf:CallF}(hc:KeepsOK callf){o:Oper}{F:Tr SV}{X X':XW}{y:SV}(h:evOp P callf o F X=some (y,X')):Keeps X X':=by
 unfold evOp at h;split at h<;>try(cases h;done)
 split at h
 ·unfold evCall at h;split at h
  ·exact(blt_turned h).keeps
  ·split at h<;>try(cases h;done)
   unfold callV at h;split at h<;>try(cases h;done)
   rename_i hz;cases h;exact hc _ _ _ _ _ hz
 ·exact sem_keeps h
theorem evOpO_keeps{callf:CallF}(hc:KeepsOK callf){o:Oper}{F:Tr SV}{X X':XW}{y:Out}(h:evOpO P callf o F X=some (y,X')):Keeps X X':=by
 have panK:∀{vals:List SV},panE vals X=some (y,X')→Keeps X X':=by
  intro vals h;unfold panE at h;split at h<;>cases h
  exact Keeps.refl _
 have retK:∀{r:Option (SV×XW)},retO r=some (y,X')→∃z,r=some (z,X'):=by
  intro r hr;unfold retO at hr;split at hr<;>cases hr
  exact⟨_,rfl⟩
 unfold evOpO at h;split at h<;>try(cases h;done)
 split at h
 ·split at h
  ·rename_i b _;cases hb:isPanB b with
   |true=>rw[hb] at h;exact panK h
   |false=>
    rw[hb] at h;obtain⟨z,h⟩:=retK h;exact(blt_turned h).keeps
  ·split at h<;>try(cases h;done)
   exact hc _ _ _ _ _ h
 ·exact panK h
 ·obtain⟨z,h⟩:=retK h;exact sem_keeps h
theorem want_keeps{ops:List Oper}{F:Tr SV}{X X':XW}{g:Option (Nat×Bool)}{b:Bool}(h:wantE ops F X g=some (b,X')):Keeps X X':=by
 unfold wantE at h;split at h
 ·cases h;exact Keeps.refl _
 ·split at h<;>try(cases h;done)
  split at h<;>try(cases h;done)
  split at h<;>try(cases h;done)
  rename_i y _;unfold asW at h;cases ht:isTup y with
  |true=>
   simp only[ht,cond_true,Option.some.injEq,Prod.mk.injEq] at h;obtain⟨rfl,rfl⟩:=h;exact Keeps.refl _
  |false=>
   simp only[ht,cond_false] at h;split at h<;>try(cases h;done)
   rename_i hb;cases h;exact asB_keeps hb
theorem stepV_keeps{callf:CallF}(hc:KeepsOK callf){ops:List Oper}{o:Oper}{F:Tr SV}{X X':XW}{y:SV}(h:stepV P callf ops o F X=some (y,X')):Keeps X X':=by
 unfold stepV at h;split at h
 ·rename_i X1 hw;exact(want_keeps hw).trans (evOp_keeps hc h)
 ·rename_i X1 hw;cases h;exact want_keeps hw
 ·cases h
theorem stepE_keeps{callf:CallF}(hc:KeepsOK callf){N:Nat}{ops:List Oper}{o:Oper}{F F':Tr SV}{X X':XW}(h:stepE P callf N ops o F X=some (F',X')):Keeps X X':=by
 obtain⟨y,hy,_⟩:=stepE_eq.1 h;exact stepV_keeps hc hy
theorem pure_blt{c:Call}{vals:List SV}{X X':XW}{y:SV}{b:Builtin}(hp:isPure P (.call c)=true)(hb:c.callee= .builtin b)(h:bltE P b c.argTypes vals X=some (y,X')):
 X'=X∧∀X1,bltE P b c.argTypes vals X1=some (y,X1):=by
 unfold bltE at h;split at h
 ·split at h<;>try(cases h;done)
  rename_i ht;obtain⟨h',hXX⟩:=withX_some h;exact⟨hXX.symm,fun X1=>by simp only[bltE,ht,h',withX]⟩
 ·split at h<;>try(cases h;done)
  rename_i ht;obtain⟨h',hXX⟩:=withX_some h;exact⟨hXX.symm,fun X1=>by simp only[bltE,ht,h',withX]⟩
 ·obtain⟨h',hXX⟩:=withX_some h;exact⟨hXX.symm,fun X1=>by simp only[bltE,h',withX]⟩
 ·obtain⟨h',hXX⟩:=withX_some h;exact⟨hXX.symm,fun X1=>by simp only[bltE,h',withX]⟩
 ·simp[isPure,pureCallee,hb,pureBlt] at hp
 ·simp[isPure,pureCallee,hb,pureBlt] at hp
 ·cases h
theorem pure_op{callf:CallF}{o:Oper}{F:Tr SV}{X X':XW}{y:SV}(hp:isPure P o.op=true)(ho:X.orc=[])(h:evOp P callf o F X=some (y,X')):
 X'=X∧∀X1,X1.ng=X.ng→evOp P callf o F X1=some (y,X1):=by
 unfold evOp at h⊢;split at h<;>try(cases h;done)
 rename_i vals hl;split at h
 ·rename_i c hc;unfold evCall at h;rw[hc] at hp;split at h
  ·rename_i b hcal;obtain⟨h1,h2⟩:=pure_blt hp hcal h;exact⟨h1,fun X1 hng=>by simp only[hng,hl,evCall,hcal];exact h2 X1⟩
  ·rename_i hcal;have hp':pureCallee c.callee=true:=hp;unfold pureCallee at hp';split at hp'
   ·rename_i b hb;exact absurd hb (hcal b)
   ·cases hp'
 ·rename_i op hne;obtain⟨h1,h2⟩:=pure_sem hp ho h;refine⟨h1,fun X1 hng=>?_⟩;simp only[hng,hl];exact h2 X1
theorem stepV_pure{callf:CallF}{ops:List Oper}{o:Oper}{F:Tr SV}{X X':XW}{y:SV}(hp:isPure P o.op=true)(ho:X.orc=[])(h:stepV P callf ops o F X=some (y,X')):
 X'=X∧∀X1,X1.ng=X.ng→stepV P callf ops o F X1=some (y,X1):=by
 unfold stepV at h⊢;split at h
 ·rename_i X2 hw;obtain⟨rfl,hw'⟩:=want_orc ho hw;obtain⟨h1,h2⟩:=pure_op hp ho h;refine⟨h1,fun X1 hng=>?_⟩;rw[hw' X1];exact h2 X1 hng
 ·rename_i X2 hw;obtain⟨rfl,hw'⟩:=want_orc ho hw;cases h;exact⟨rfl,fun X1 _=>by rw[hw' X1]⟩
 ·cases h
def readK:List SV→Option Nat
 | [.ptr k _]=>some k
 | [.sl k _ _ _ _]=>some k
 | [.mp k,_]=>some k
 |_=>none
theorem lookup_same{t:TypeId}{m k y:SV}{ok:Bool}{X X1:XW}(hk:∀j,m= .mp j→X1.objs.get j=X.objs.get j)(h:semLookup P t m k ok X=some y):semLookup P t m k ok X1=some y:=by
 have e:mapOf m X1=mapOf m X:=by
  unfold mapOf;split
  ·rfl
  ·rename_i j;simp only[entriesOf,hk j rfl]
  ·rfl
 unfold semLookup at h⊢;rw[e];exact h
theorem read_sem{op:Op}{vals:List SV}{X X':XW}{y:SV}(hp:isRead P op=true)(h:sem P op vals X=some (y,X')):X'=X∧∀X1:XW,(∀k,readK vals=some k→X1.objs.get k=X.objs.get k)→sem P op vals X1=some (y,X1):=by
 unfold sem at h;split at h
 case h_8=>
  obtain⟨h',hXX⟩:=withX_some h;refine⟨hXX.symm,fun X1 hk=>?_⟩;simp only[sem,semLoad,hk _ rfl,withX] at h'⊢;rw[h']
 case h_13=>
  rename_i s d _ x;have hs:strConv P s d=true:=hp;split at h
  ·rename_i hc;cases h;exact⟨rfl,fun X1 _=>by simp only[sem,hc]⟩
  ·rename_i hc
   have:X'=X∧∀X1:XW,(∀k,readK [x]=some k→X1.objs.get k=X.objs.get k)→convX P s d x X1=some (y,X1):=by
    unfold strConv at hs;split at hs<;>try(cases hs;done)
    rename_i e h1 h2;unfold convX at h;simp only[h1,h2] at h;split at h
    ·rename_i he _;cases he
    ·rename_i _ he;cases he
    ·rename_i a c he _;cases he;cases c1:isU8 P e with
     |false=>simp[c1] at h
     |true=>
      simp only[c1,cond_true,Option.some.injEq,Prod.mk.injEq] at h;obtain⟨rfl,rfl⟩:=h;exact⟨rfl,fun X1 _=>by simp only[convX,h1,h2,c1,cond_true]⟩
    ·rename_i a he _;cases he;cases c1:isU8 P e with
     |false=>simp[c1] at h
     |true=>
      simp only[c1,cond_true,Option.some.injEq,Prod.mk.injEq] at h;obtain⟨rfl,rfl⟩:=h;exact⟨rfl,fun X1 _=>by simp only[convX,h1,h2,c1,cond_true]⟩
    ·rename_i k off n cap lo he _;cases he;cases c1:isU8 P e with
     |false=>simp[c1] at h
     |true=>
      simp only[c1,cond_true] at h;split at h<;>try(cases h;done)
      rename_i o ho;split at h<;>try(cases h;done)
      rename_i ys hys;split at h<;>try(cases h;done)
      rename_i ns hns;cases h;exact⟨rfl,fun X1 hk=>by simp only[convX,h1,h2,c1,cond_true,hk k rfl,ho,hys,hns]⟩
    ·cases h
   exact⟨this.1,fun X1 hk=>by simp only[sem,hc];exact this.2 X1 hk⟩
 all_goals first
  |(simp[isRead] at hp;done)
  |(cases h;done)
  |(obtain⟨h',hXX⟩:=withX_some h
    refine⟨hXX.symm,fun X1 hk=>?_⟩
    simp only[sem,withX,lookup_same (fun k e=>hk k (by rw[e];rfl)) h'])
theorem read_op{callf:CallF}{o:Oper}{F:Tr SV}{X:XW}(h:isRead P o.op=true):evOp P callf o F X=match looks X.ng F o.op.operands.toList with
 |none=>none
 |some vals=>sem P o.op vals X:=by
 unfold evOp;cases looks X.ng F o.op.operands.toList with
 |none=>rfl
 |some vals=>
  simp only[];split
  ·rename_i hc;simp[hc,isRead] at h
  ·rfl
theorem stepV_read{callf:CallF}{ops:List Oper}{o:Oper}{F:Tr SV}{X X':XW}{y:SV}(hp:isRead P o.op=true)(ho:X.orc=[])(h:stepV P callf ops o F X=some (y,X')):
 X'=X∧∀X1,X1.ng=X.ng→(∀k,addrOf ops o F X=some k→X1.objs.get k=X.objs.get k)→stepV P callf ops o F X1=some (y,X1):=by
 unfold stepV at h⊢;unfold addrOf;split at h
 ·rename_i X2 hw;obtain⟨rfl,hw'⟩:=want_orc ho hw;rw[read_op hp] at h;split at h<;>try(cases h;done)
  rename_i vals hl;obtain⟨e,hind⟩:=read_sem hp h;refine⟨e,fun X1 hng hk=>?_⟩;rw[hw' X1];simp only[];rw[read_op hp,hng,hl];simp only[hw,hl] at hk;refine hind X1 fun k hk'=>hk k ?_
  unfold readK at hk';split at hk'<;>first|exact hk'|cases hk'
 ·rename_i X2 hw;obtain⟨rfl,hw'⟩:=want_orc ho hw;cases h;exact⟨rfl,fun X1 _ _=>by rw[hw' X1]⟩
 ·cases h
theorem addrOf_look{ops:Array Oper}{o:Oper}{F F':Tr SV}{X:XW}(h:∀t∈o.looksAt ops,F.get t=F'.get t):addrOf ops.toList o F X=addrOf ops.toList o F' X:=by
 obtain⟨hw,hl⟩:=look_same (X:=X) h;unfold addrOf;rw[hw];simp only[hl]
theorem addrOf_X{ops:List Oper}{o:Oper}{F:Tr SV}{X X1:XW}(ho:X.orc=[])(ho1:X1.orc=[])(hng:X1.ng=X.ng):addrOf ops o F X1=addrOf ops o F X:=by
 unfold addrOf;cases hw:wantE ops F X o.guard with
 |none=>
  cases hw1:wantE ops F X1 o.guard with
  |none=>rfl
  |some r=>obtain⟨b,X2⟩:=r;have:=(want_orc ho1 hw1).2 X;rw[hw] at this;cases this
 |some r=>
  obtain⟨b,X2⟩:=r;obtain⟨rfl,hw'⟩:=want_orc ho hw;rw[hw' X1];cases b with
  |false=>rfl
  |true=>simp only[hng]
structure Sees where
 pre:Nat→XW
 post:Nat→XW
 obj:Nat→Option Nat
def St(P:Program)(callf:CallF)(N:Nat)(ops:Array Oper)(S:Sees)(i:Nat)(F:Tr SV)(X:XW)(F':Tr SV)(X':XW):Prop:=
 ∃o,ops[i]?=some o∧stepE P callf N ops.toList o F X=some (F',X')∧(isBar P o.op=true→X=S.pre i∧X'=S.post i)∧(isRead P o.op=true→addrOf ops.toList o F X=S.obj i)
theorem sameVer_spec{X X':XW}(hk:Keeps X X'){k:Nat}(h:sameVer X X' k=true):X'.objs.get k=X.objs.get k:=by
 unfold sameVer at h;cases hb:Nat.blt k X.next with
 |false=>rw[hb] at h;cases h
 |true=>
  rw[hb] at h;have hlt:k<X.next:=by rw[Nat.blt_eq] at hb;exact hb
  simp only[cond_true,verOf] at h;cases h1:X.objs.get k with
  |none=>simp[h1] at h
  |some o=>
   cases h2:X'.objs.get k with
   |none=>simp[h1,h2] at h
   |some o'=>
    simp only[h1,h2] at h;rw[(hk.ver k o o' hlt h1 h2).2 (Nat.eq_of_beq_eq_true h).symm]
theorem str_row{s d:TypeId}(h:rowConv P s d=false):strConv P s d=false:=by
 unfold rowConv at h;unfold strConv;cases hs:P.underlying s with
 |none=>rfl
 |some t=>cases t<;>first|rfl|(simp[hs] at h)
theorem pure_cases{op:Op}(h:isPure P op=true):isBar P op=false∧isRead P op=false:=by
 have hr:isRead P op=false:=by
  cases op<;>first
   |rfl
   |(simp[isPure] at h;done)
   |(simp only[isPure,Bool.not_eq_true'] at h;exact str_row h)
 exact⟨by simp[isBar,h],hr⟩
theorem read_cases{op:Op}(h:isRead P op=true):isBar P op=false:=by simp[isBar,h]
theorem sem_lookup{t:TypeId}{m k:Operand}{ok:Bool}{vals:List SV}{y:SV}{X X':XW}(h:sem P (.lookup t m k ok) vals X=some (y,X')):∃mv kv,vals=[mv,kv]∧semLookup P t mv kv ok X=some y:=by
 match vals,h with
 | [mv,kv],h=>exact⟨mv,kv,rfl,(withX_some h).1⟩
theorem lkEnt_comm{callf:CallF}{ops:Array Oper}{oi oj:Oper}{F:Tr SV}{X Xi Xij:XW}{yi yj:SV}(hl:lkEnt oi.op oj.op=true)(ho:X.orc=[])
 (hi:stepV P callf ops.toList oi F X=some (yi,Xi))(hj:stepV P callf ops.toList oj F Xi=some (yj,Xij)):
 isRead P oi.op=true∧isBar P oj.op=true∧stepV P callf ops.toList oi F Xij=some (yi,Xij):=by
 unfold lkEnt at hl;split at hl<;>try(cases hl;done)
 rename_i t m k t' m' k' e1 e2;simp only[Bool.and_eq_true,Nat.beq_eq] at hl;obtain⟨⟨rfl,rfl⟩,rfl⟩:=hl;refine⟨by rw[e1];rfl,by rw[e2];rfl,?_⟩;unfold stepV at hi hj⊢;split at hi
 ·rename_i X2 hw;obtain⟨rfl,hw'⟩:=want_orc ho hw;rw[hw' Xij];simp only[];unfold evOp at hi⊢;rw[e1] at hi⊢;cases hv:looks X2.ng F (Op.operands (.lookup t (.tmp m) (.tmp k) false)).toList with
  |none=>simp[hv] at hi
  |some vals=>
   simp only[hv] at hi;obtain⟨rfl,_⟩:=read_sem (P:=P) (op:= .lookup t (.tmp m) (.tmp k) false) rfl hi;split at hj
   ·rename_i X3 hw3;obtain⟨rfl,_⟩:=want_orc ho hw3;unfold evOp at hj;rw[e2] at hj;have hv2:looks X3.ng F (Op.operands (.mapEntry t (.tmp m) (.tmp k))).toList=some vals:=hv;simp only[hv2] at hj;obtain⟨mv,kv,rfl,h1⟩:=sem_lookup hi;have hj':semEntry P t mv kv X3=some (yj,Xij):=hj;have hng:Xij.ng=X3.ng:=(entry_turned hj').keeps.ng;rw[hng,hv];show withX Xij (semLookup P t mv kv false Xij)=_;rw[lookup_entry h1 hj'];rfl
   ·rename_i X3 hw3;obtain⟨rfl,_⟩:=want_orc ho hw3;cases hj;simp only[hv];exact hi
   ·cases hj
 ·rename_i X2 hw;obtain⟨rfl,hw'⟩:=want_orc ho hw;cases hi;rw[hw' Xij]
 ·cases hi
theorem step_comm{callf:CallF}(hc:KeepsOK callf){N:Nat}{ops:Array Oper}{S:Sees}{chk:List (Nat×List Nat)}{i j:Nat}{oi oj:Oper}{F Fi Fij:Tr SV}{X Xi Xij:XW}(hoi:ops[i]?=some oi)(hoj:ops[j]?=some oj)
 (hap:oi.apart ops oj=true)(hco:compat P chk i j oi.op oj.op=true)(hsv:isBar P oj.op=true→hasNat (chkOf chk j) i=true→∀k,S.obj i=some k→sameVer (S.pre j) (S.post j) k=true)
 (ho:X.orc=[])(h1:St P callf N ops S i F X Fi Xi)(h2:St P callf N ops S j Fi Xi Fij Xij):
 ∃Fj Xj Fji,St P callf N ops S j F X Fj Xj∧Xj.orc=[]∧St P callf N ops S i Fj Xj Fji Xij∧Eqv Fij Fji:=by
 obtain⟨oi',hoi',h1,b1,r1⟩:=h1;obtain⟨oj',hoj',h2,b2,r2⟩:=h2;rw[hoi] at hoi';cases hoi';rw[hoj] at hoj';cases hoj';obtain⟨a1,a2,a3⟩:=Oper.apart_spec hap;obtain⟨yi,hyi,rfl⟩:=stepE_eq.1 h1;obtain⟨yj,hyj,rfl⟩:=stepE_eq.1 h2;have lj:∀t∈oj.looksAt ops,F.get t=(put N F oi.dst yi).get t:=fun t ht=>(put_get t fun e=>a1 t e ht).symm
 have li:∀t∈oi.looksAt ops,F.get t=(put N F oj.dst yj).get t:=fun t ht=>(put_get t fun e=>a3 t e ht).symm
 have hj:stepV P callf ops.toList oj F Xi=some (yj,Xij):=by rw[← hyj];exact stepV_look lj
 have hi':∀X1 X2,stepV P callf ops.toList oi F X1=some (yi,X2)→stepV P callf ops.toList oi (put N F oj.dst yj) X1=some (yi,X2):=fun X1 X2 h=>by
  rw[← h];exact(stepV_look li).symm
 have rj:∀X1,addrOf ops.toList oj F X1=addrOf ops.toList oj (put N F oi.dst yi) X1:=fun X1=>addrOf_look lj
 have ri:∀X1,addrOf ops.toList oi F X1=addrOf ops.toList oi (put N F oj.dst yj) X1:=fun X1=>addrOf_look li
 have hfr:=put_comm (N:=N) (F:=F) (y:=yi) (z:=yj) a2;have ki:=stepV_keeps hc hyi;have kj:=stepV_keeps hc hj;have oi0:=ki.orc ho;have oj0:=kj.orc oi0;simp only[compat,Bool.or_eq_true,Bool.and_eq_true] at hco;rcases hco with(((hp|hp)|⟨hr1,hr2⟩)|⟨⟨hr1,hb2⟩,hn⟩)|hl
 ·obtain⟨rfl,hind⟩:=stepV_pure hp ho hyi;obtain⟨nb,nr⟩:=pure_cases hp
  exact⟨_,Xij,_,⟨oj,hoj,stepE_eq.2 ⟨yj,hj,rfl⟩,b2,fun h=>by rw[rj];exact r2 h⟩,oj0,
   ⟨oi,hoi,stepE_eq.2 ⟨yi,hi' _ _ (hind Xij kj.ng),rfl⟩,fun h=>(by rw[nb] at h;cases h),fun h=>(by rw[nr] at h;cases h)⟩,hfr⟩
 ·obtain⟨rfl,hind⟩:=stepV_pure hp oi0 hj;obtain⟨nb,nr⟩:=pure_cases hp
  exact⟨_,X,_,⟨oj,hoj,stepE_eq.2 ⟨yj,hind X ki.ng.symm,rfl⟩,fun h=>(by rw[nb] at h;cases h),fun h=>(by rw[nr] at h;cases h)⟩,ho,
   ⟨oi,hoi,stepE_eq.2 ⟨yi,hi' _ _ hyi,rfl⟩,b1,fun h=>by rw[← ri];exact r1 h⟩,hfr⟩
 ·obtain⟨e1,_⟩:=stepV_read hr1 ho hyi;subst e1;obtain⟨e2,_⟩:=stepV_read hr2 ho hj;subst e2
  exact⟨_,_,_,⟨oj,hoj,stepE_eq.2 ⟨yj,hj,rfl⟩,b2,fun h=>by rw[rj];exact r2 h⟩,ho,
   ⟨oi,hoi,stepE_eq.2 ⟨yi,hi' _ _ hyi,rfl⟩,b1,fun h=>by rw[← ri];exact r1 h⟩,hfr⟩
 ·obtain⟨e1,hind⟩:=stepV_read hr1 ho hyi;subst e1;have nb:=read_cases hr1;obtain⟨p1,p2⟩:=b2 hb2
  refine⟨_,Xij,_,⟨oj,hoj,stepE_eq.2 ⟨yj,hj,rfl⟩,b2,fun h=>by rw[rj];exact r2 h⟩,oj0,
   ⟨oi,hoi,stepE_eq.2 ⟨yi,hi' _ _ (hind Xij kj.ng fun k hk=>?_),rfl⟩,fun h=>(by rw[nb] at h;cases h),fun h=>by rw[← ri,addrOf_X ho oj0 kj.ng];exact r1 h⟩,hfr⟩
  have:=hsv hb2 hn k (by rw[← r1 hr1];exact hk)
  rw[← p1, ← p2] at this;exact sameVer_spec kj this
 ·obtain⟨hr1,hb2,hre⟩:=lkEnt_comm hl ho hyi hj;obtain⟨e1,_⟩:=stepV_read hr1 ho hyi;subst e1;have nb:=read_cases hr1
  exact⟨_,Xij,_,⟨oj,hoj,stepE_eq.2 ⟨yj,hj,rfl⟩,b2,fun h=>by rw[rj];exact r2 h⟩,oj0,
   ⟨oi,hoi,stepE_eq.2 ⟨yi,hi' _ _ hre,rfl⟩,fun h=>(by rw[nb] at h;cases h),fun h=>by rw[← ri,addrOf_X ho oj0 kj.ng];exact r1 h⟩,hfr⟩
end
end Go.Xe
namespace Go.Xe
section
variable{P:Program}{B:Nat}{w0 w:World}{E:Env}{ds:List Deferred}
def anyE(P:Program)(callf:CallF)(N:Nat)(ops:Array Oper)(S:Sees)(G:Tr SV→XW→Prop):Nat→Array Bool→Tr SV→XW→Prop
 |0,listed,F,X=>Region.ready .any ops listed=[]∧G F X
 |n+1,listed,F,X=>(Region.ready .any ops listed=[]→G F X)∧
  ∀i∈Region.ready .any ops listed,∃F' X',St P callf N ops S i F X F' X'∧anyE P callf N ops S G n (listed.setIfInBounds i true) F' X'
theorem anyE_eqv{callf:CallF}{N:Nat}{ops:Array Oper}{S:Sees}{G:Tr SV→XW→Prop}(hG:∀F F' X,Eqv F F'→G F X→G F' X):
 ∀(n:Nat) (listed:Array Bool) (F F':Tr SV) (X:XW),Eqv F F'→anyE P callf N ops S G n listed F X→anyE P callf N ops S G n listed F' X
 |0,_,_,_,_,he,h=>⟨h.1,hG _ _ _ he h.2⟩
 |n+1,listed,F,F',X,he,h=>⟨fun hr=>hG _ _ _ he (h.1 hr),fun i hi=>by
   obtain⟨F1,X1,⟨o,ho,h1,hb,hr⟩,h2⟩:=h.2 i hi;obtain⟨G',h3,h4⟩:=stepE_eqv he h1
   exact⟨G',X1,⟨o,ho,h3,hb,fun h=>by rw[← addrOf_look (fun t _=>he t)];exact hr h⟩,anyE_eqv hG n _ _ _ _ h4 h2⟩⟩
theorem anyE_sees{callf:CallF}{N:Nat}{ops:Array Oper}{S S':Sees}{G:Tr SV→XW→Prop}:
 ∀(n:Nat) (listed:Array Bool) (F:Tr SV) (X:XW),(∀i,listed.getD i true=false→S'.pre i=S.pre i∧S'.post i=S.post i∧S'.obj i=S.obj i)→anyE P callf N ops S G n listed F X→anyE P callf N ops S' G n listed F X
 |0,_,_,_,_,h=>h
 |n+1,listed,F,X,hs,h=>⟨h.1,fun i hi=>by
   obtain⟨F1,X1,⟨o,ho,h1,hb,hr⟩,h2⟩:=h.2 i hi;obtain⟨e1,e2,e3⟩:=hs i (mem_ready.1 hi).1;refine⟨F1,X1,⟨o,ho,h1,fun h=>by rw[e1,e2];exact hb h,fun h=>by rw[e3];exact hr h⟩,anyE_sees n _ _ _ (fun j hj=>hs j ?_) h2⟩;by_cases e:i=j
   ·subst e;exact(mem_ready.1 hi).1
   ·rw[getD_set_ne true e] at hj;exact hj⟩
structure Inv (ops:Array Oper) (i:Nat) (listed0:Array Bool) (r:List Bool) (listed:Array Bool):Prop where
 inR:∀k,listed.getD k false=true→r.getD k false=true
 more:∀k,listed0.getD k true=true→listed.getD k true=true
theorem stepOK_spec{chk:List (Nat×List Nat)}{ops:Array Oper}{listed0:Array Bool}{i:Nat}{oi:Oper}{r:List Bool}(hi:ops[i]?=some oi)(h:stepOK P chk ops listed0 i r=true){j:Nat}{oj:Oper}(hj:ops[j]?=some oj)(hne:j≠i):
 (r.getD j false=true∧(listed0.getD j true=true∨(oi.apart ops oj=true∧compat P chk i j oi.op oj.op=true)))∨
 (r.getD j false=false∧listed0.getD j true=false∧∃e∈oj.after,Region.binds .any e=true∧r.getD e.on false=false):=by
 unfold stepOK at h;simp only[hi,List.all_eq_true,List.mem_range] at h;have hlt:=(Array.getElem?_eq_some_iff.1 hj).1
 have:=h j hlt
 simp only[hj] at this;have hb:(j==i)=false:=by simpa using hne
 simp only[hb,Bool.false_or] at this;cases hr:r.getD j false with
 |true=>
  simp only[hr,cond_true,Bool.or_eq_true,Bool.and_eq_true] at this;exact .inl ⟨rfl,this⟩
 |false=>
  simp only[hr,cond_false,Bool.and_eq_true,Bool.not_eq_true',Array.any_eq_true'] at this;obtain⟨h1,e,he,h2,h3⟩:=this;exact .inr ⟨rfl,h1,e,he,h2,h3⟩
theorem anyE_first{callf:CallF}(hc:KeepsOK callf){N:Nat}{ops:Array Oper}{S:Sees}{G:Tr SV→XW→Prop}(hG:∀F F' X,Eqv F F'→G F X→G F' X){i:Nat}{oi:Oper}(hi:ops[i]?=some oi)
 {listed0:Array Bool}{r:List Bool}{chk:List (Nat×List Nat)}(hok:stepOK P chk ops listed0 i r=true)
 (hsv:∀j oj,ops[j]?=some oj→listed0.getD j true=false→j≠i→isBar P oj.op=true→hasNat (chkOf chk j) i=true→∀k,S.obj i=some k→sameVer (S.pre j) (S.post j) k=true):
 ∀(n:Nat) (listed:Array Bool) (F Fi:Tr SV) (X Xi:XW),Inv ops i listed0 r listed→i∈Region.ready .any ops listed→X.orc=[]→St P callf N ops S i F X Fi Xi→
  anyE P callf N ops S G n (listed.setIfInBounds i true) Fi Xi→anyE P callf N ops S G (n+1) listed F X:=by
 intro n
 induction n with
 |zero=>
  intro listed F Fi X Xi _ hr _ hs H;refine⟨fun h=>(by rw[h] at hr;cases hr),fun j hj=>?_⟩;by_cases hji:j=i
  ·subst hji;exact⟨Fi,Xi,hs,H⟩
  ·have:=ready_mono hj hji
   rw[H.1] at this;cases this
 |succ n ih=>
  intro listed F Fi X Xi inv hr ho hs H;refine⟨fun h=>(by rw[h] at hr;cases hr),fun j hj=>?_⟩;by_cases hji:j=i
  ·subst hji;exact⟨Fi,Xi,hs,H⟩
  ·obtain⟨Fij,Xij,h1,h2⟩:=H.2 j (ready_mono hj hji);obtain⟨hjun,oj,hoj,hall⟩:=mem_ready.1 hj
   have hj0:listed0.getD j true=false:=by
    cases h:listed0.getD j true with
    |false=>rfl
    |true=>have:=inv.more j h;rw[hjun] at this;cases this
   have hcase:=stepOK_spec hi hok hoj hji
   have hRj:r.getD j false=true∧oi.apart ops oj=true∧compat P chk i j oi.op oj.op=true:=by
    rcases hcase with⟨h3,h4⟩|⟨_,_,e,he,hb,hn⟩
    ·rcases h4 with h4|h4
     ·rw[hj0] at h4;cases h4
     ·exact⟨h3,h4⟩
    ·have:=inv.inR _ (hall e he hb);rw[hn] at this;cases this
   obtain⟨Fj,Xj,Fji,k1,k2,k3,k4⟩:=step_comm hc hi hoj hRj.2.1 hRj.2.2 (hsv j oj hoj hj0 hji) ho hs h1;refine⟨Fj,Xj,k1,?_⟩;refine ih (listed.setIfInBounds j true) Fj Fji Xj Xij ⟨fun k hk=>?_,fun k hk=>?_⟩ (ready_mono hr (Ne.symm hji)) k2 k3 ?_
   ·by_cases e:j=k
    ·subst e;exact hRj.1
    ·rw[getD_set_ne false e] at hk;exact inv.inR k hk
   ·by_cases e:j=k
    ·subst e;have:=inv.more j hk;rw[hjun] at this;cases this
    ·rw[getD_set_ne true e];exact inv.more k hk
   ·rw[Array.setIfInBounds_comm _ _ hji];exact anyE_eqv hG n _ _ _ _ k4 h2
theorem getD_set_true{l:Array Bool}{k j:Nat}(h:(l.setIfInBounds k true).getD j true=false):l.getD j true=false∧j≠k:=by
 by_cases e:k=j
 ·subst e
  exfalso
  rcases Nat.lt_or_ge k l.size with h'|h'
  ·simp[h'] at h
  ·simp at h
 ·rw[getD_set_ne true e] at h;exact⟨h,fun e'=>e e'.symm⟩
theorem lex_unlisted{chk:List (Nat×List Nat)}{ops:Array Oper}:∀(ks:List Nat) (listed:Array Bool),lexOK P chk ops ks listed=true→(∀j∈ks,listed.getD j true=false)∧∀j,listed.getD j true=false→j∈ks
 | [],listed,h=>by
   refine⟨fun j hj=>(by cases hj),fun j hj=>?_⟩;simp only[lexOK,Array.all_eq_true_iff_forall_mem] at h;rcases Nat.lt_or_ge j listed.size with h'|h'
   ·have:=h listed[j] (Array.getElem_mem h')
    simp only[id] at this;simp[h',this] at hj
   ·simp[Array.getElem?_eq_none h'] at hj
 |k::ks,listed,h=>by
  simp only[lexOK,Bool.and_eq_true] at h;obtain⟨⟨⟨hr,hnr⟩,hst⟩,hl2⟩:=h;have hr':k∈Region.ready .any ops listed:=by simpa using hr
  have hk:=(mem_ready.1 hr').1;obtain⟨i1,i2⟩:=lex_unlisted ks _ hl2;refine⟨fun j hj=>?_,fun j hj=>?_⟩
  ·rcases List.mem_cons.1 hj with rfl|hj
   ·exact hk
   ·exact(getD_set_true (i1 j hj)).1
  ·by_cases e:j=k
   ·subst e;exact List.mem_cons_self ..
   ·refine List.mem_cons_of_mem _ (i2 j ?_);rw[getD_set_ne true (fun e'=>e e'.symm)];exact hj
theorem chkOK_spec{recs:List (Nat×Option Nat)}{X X':XW}:∀{ls:List Nat},chkOK recs X X' ls=true→∀l,hasNat ls l=true→∀k,findK recs l=some k→sameVer X X' k=true
 | [],_,l,hl,_,_=>by simp[hasNat] at hl
 |l'::ls,h,l,hl,k,hk=>by
  simp only[chkOK,Bool.and_eq_true] at h;simp only[hasNat,Bool.or_eq_true] at hl;rcases hl with hl|hl
  ·have e:=Nat.eq_of_beq_eq_true hl;subst e
   have:=h.1
   rw[hk] at this;exact this
  ·exact chkOK_spec h.2 l hl k hk
def Sees.set(S:Sees)(k:Nat)(X X':XW)(a:Option Nat):Sees:=
 {pre:=fun j=>if j=k then X else S.pre j,post:=fun j=>if j=k then X' else S.post j,obj:=fun j=>if j=k then a else S.obj j}
theorem anyE_lex{callf:CallF}(hc:KeepsOK callf){N:Nat}{ops:Array Oper}{chk:List (Nat×List Nat)}{F':Tr SV}{X':XW}:∀(ks:List Nat) (recs:List (Nat×Option Nat)) (listed:Array Bool) (F:Tr SV) (X:XW),listed.size=ops.size→X.orc=[]→
 lexOK P chk ops ks listed=true→evD P callf N ops.toList chk ks recs F X=some (F',X')→∃S:Sees,anyE P callf N ops S (fun F1 X1=>Eqv F' F1∧X1=X') ks.length listed F X∧
  ∀i,i ∉ ks→∀k,findK recs i=some k→∀j oj,j∈ks→ops[j]?=some oj→isBar P oj.op=true→hasNat (chkOf chk j) i=true→sameVer (S.pre j) (S.post j) k=true
 | [],recs,listed,F,X,_,_,hl,h=>by
   simp only[evD,Option.some.injEq,Prod.mk.injEq] at h;obtain⟨rfl,rfl⟩:=h;refine⟨⟨fun _=>X,fun _=>X,fun _=>none⟩,⟨?_,Eqv.refl _,rfl⟩,fun i _ k _ j oj hj=>by cases hj⟩
   have:=(lex_unlisted [] listed hl).2
   cases hr:Region.ready .any ops listed with
   |nil=>rfl
   |cons a az=>
    have ha:a∈Region.ready .any ops listed:=by rw[hr];exact List.mem_cons_self ..
    have:=this a (mem_ready.1 ha).1
    cases this
 |k::ks,recs,listed,F,X,hsz,ho,hl,h=>by
  obtain⟨hun,hcov⟩:=lex_unlisted (k::ks) listed hl;simp only[evD] at h;split at h<;>try(cases h;done)
  rename_i o hok;split at h<;>try(cases h;done)
  rename_i F1 X1 hs;cases hck:chkOK recs X X1 (chkOf chk k) with
  |false=>rw[hck] at h;cases h
  |true=>
   rw[hck] at h;simp only[cond_true] at h;simp only[lexOK,Bool.and_eq_true] at hl;obtain⟨⟨⟨hr,hnr⟩,hst⟩,hl2⟩:=hl;have hk:ops[k]?=some o:=by simpa using hok
   have hr':k∈Region.ready .any ops listed:=by simpa using hr
   have ho1:X1.orc=[]:=(stepE_keeps hc hs).orc ho;obtain⟨S0,hany,hrec⟩:=anyE_lex hc ks _ _ F1 X1 (by simpa using hsz) ho1 hl2 h;obtain⟨hun2,hcov2⟩:=lex_unlisted ks _ hl2;have hkks:k ∉ ks:=fun hmem=>(getD_set_true (hun2 k hmem)).2 rfl
   have hne:∀j,j∈ks→j≠k:=fun j hj e=>hkks (e▸hj)
   let S:Sees:=S0.set k X X1 (bif isRead P o.op then addrOf ops.toList o F X else none)
   have hS:∀j,j≠k→S.pre j=S0.pre j∧S.post j=S0.post j∧S.obj j=S0.obj j:=fun j hj=>⟨if_neg hj,if_neg hj,if_neg hj⟩
   have hSk:S.pre k=X∧S.post k=X1∧S.obj k=(bif isRead P o.op then addrOf ops.toList o F X else none):=⟨if_pos rfl,if_pos rfl,if_pos rfl⟩;refine⟨S,?_,?_⟩
   ·have hany':anyE P callf N ops S (fun F1 X1=>Eqv F' F1∧X1=X') ks.length (listed.setIfInBounds k true) F1 X1:=anyE_sees ks.length _ _ _ (fun j hj=>hS j (getD_set_true hj).2) hany;refine anyE_first hc (fun F F1 X he hg=>⟨hg.1.trans he,hg.2⟩) hk hst ?_ ks.length listed F F1 X X1 ⟨fun j hj=>?_,fun j hj=>hj⟩ hr' ho ⟨o,hk,hs,fun _=>⟨hSk.1.symm,hSk.2.1.symm⟩,fun hrd=>by rw[hSk.2.2,hrd];rfl⟩ hany'
    ·intro j oj hoj hj0 hjk hb hn k' hk';rw[hSk.2.2] at hk'
     have hjm:j∈ks:=by
      rcases List.mem_cons.1 (hcov j hj0) with e|e
      ·exact absurd e hjk
      ·exact e
     obtain⟨e1,e2,_⟩:=hS j hjk;rw[e1,e2];cases hrd:isRead P o.op with
     |true=>
      rw[hrd] at hk';simp only[cond_true] at hk';refine hrec k hkks k' ?_ j oj hjm hoj hb hn;simp only[hrd,cond_true,findK];rw[hk']
      have:Nat.beq k k=true:=by simp
      rw[this];rfl
     |false=>rw[hrd] at hk';cases hk'
    ·by_cases hjk:j=k
     ·subst hjk;have hun':=hun j (List.mem_cons_self ..);rcases Nat.lt_or_ge j listed.size with h'|h'
      ·simp[h'] at hun' hj;rw[hun'] at hj;cases hj
      ·simp[Array.getElem?_eq_none h'] at hj
     ·cases hoj:ops[j]? with
      |none=>
       exfalso
       rcases Nat.lt_or_ge j listed.size with h'|h'
       ·rw[hsz] at h';rw[Array.getElem?_eq_none_iff] at hoj;omega
       ·simp[Array.getElem?_eq_none h'] at hj
      |some oj=>
       rcases stepOK_spec hk hst hoj hjk with⟨h1,_⟩|⟨_,h1,_⟩
       ·exact h1
       ·rcases Nat.lt_or_ge j listed.size with h'|h'
        ·simp[h'] at h1 hj;rw[h1] at hj;cases hj
        ·simp[Array.getElem?_eq_none h'] at hj
   ·intro i hi k' hk' j oj hj hoj hb hn;have hik:i≠k:=fun e=>hi (by rw[e];exact List.mem_cons_self ..)
    rcases List.mem_cons.1 hj with rfl|hj
    ·rw[hSk.1,hSk.2.1];exact chkOK_spec hck i hn k' hk'
    ·obtain⟨e1,e2,_⟩:=hS j (hne j hj);rw[e1,e2];refine hrec i (fun h=>hi (List.mem_cons_of_mem _ h)) k' ?_ j oj hj hoj hb hn;cases isRead P o.op with
     |true=>
      simp only[cond_true,findK]
      have:Nat.beq k i=false:=by
       cases h:Nat.beq k i with
       |false=>rfl
       |true=>exact absurd (Nat.eq_of_beq_eq_true h).symm hik
      rw[this];exact hk'
     |false=>exact hk'
theorem anyE_pc{callf:CallF}(hcall:CallOK P callf){N:Nat}{ops:Array Oper}{S:Sees}{G:Tr SV→XW→Prop}(hG:∀F X,G F X→Pc X):∀(n:Nat) (listed:Array Bool) (F:Tr SV) (X:XW),anyE P callf N ops S G n listed F X→Pc X
 |0,_,_,_,h=>hG _ _ h.2
 |n+1,listed,F,X,h=>by
  cases hr:Region.ready .any ops listed with
  |nil=>exact hG _ _ (h.1 hr)
  |cons i is=>
   obtain⟨F1,X1,⟨o,_,h1,_⟩,h2⟩:=h.2 i (by rw[hr];exact List.mem_cons_self ..);exact step_pc hcall h1 (anyE_pc hcall hG n _ _ _ h2)
theorem wpAny_of_anyE{callf:CallF}(hcall:CallOK P callf){N:Nat}{ops:Array Oper}{S:Sees}(hsel:∀o∈ops,noSel o.op=true){G:Tr SV→XW→Prop}(hG:∀F X,G F X→Pc X)(ro:Option Nat)
 {Q:Exit→Act→World→Prop}:∀(n:Nat) (listed:Array Bool) (F:Tr SV) (X:XW) (E:Env) (a:Act) (w:World),anyE P callf N ops S G n listed F X→Emb P B w0 X E w→FrRel ds N E F a→
   (∀F1 X1 E' a' w',G F1 X1→Le E E'→FrRel ds N E' F1 a'→Emb P B w0 X1 E' w'→Q .normal a' w')→wpAnyIn (wideR ro) 0 P .any ops Q n listed a w
 |0,_,F,X,E,a,w,h,hE,hF,hQ=>⟨h.1,hQ F X E a w h.2 (Le.refl _) hF hE⟩
 |n+1,listed,F,X,E,a,w,h,hE,hF,hQ=>by
  refine⟨fun hr=>hQ F X E a w (h.1 hr) (Le.refl _) hF hE,fun i hi=>?_⟩;obtain⟨F1,X1,⟨o,ho,h1,_⟩,h2⟩:=h.2 i hi;unfold wpOpIn;simp only[ho]
  exact step_sound hcall hE hF (hsel o (Array.mem_of_getElem? ho)) h1 (anyE_pc hcall hG n _ _ _ h2) ro (fun E' a' w' a1 a2 a3=>
   wpAny_of_anyE hcall hsel hG ro n _ F1 X1 E' a' w' h2 a3 a2 (fun F2 X2 E'' a'' w'' b1 b2=>hQ F2 X2 E'' a'' w'' b1 (a1.trans b2)))
theorem d_keeps{callf:CallF}(hc:KeepsOK callf){N:Nat}{ops:List Oper}{chk:List (Nat×List Nat)}:∀{ks:List Nat} {recs:List (Nat×Option Nat)} {F F':Tr SV} {X X':XW},evD P callf N ops chk ks recs F X=some (F',X')→Keeps X X'
 | [],_,_,_,_,_,h=>by simp only[evD,Option.some.injEq,Prod.mk.injEq] at h;obtain⟨rfl,rfl⟩:=h;exact Keeps.refl _
 |k::ks,recs,F,F',X,X',h=>by
  simp only[evD] at h;split at h<;>try(cases h;done)
  split at h<;>try(cases h;done)
  rename_i F1 X1 hs;generalize chkOK recs X X1 (chkOf chk k)=b at h;cases b with
  |false=>cases h
  |true=>exact(stepE_keeps hc hs).trans (d_keeps hc h)
theorem d_pc{callf:CallF}(hcall:CallOK P callf){N:Nat}{ops:List Oper}{chk:List (Nat×List Nat)}:∀{ks:List Nat} {recs:List (Nat×Option Nat)} {F F':Tr SV} {X X':XW},evD P callf N ops chk ks recs F X=some (F',X')→Pc X'→Pc X
 | [],_,_,_,_,_,h,hp=>by simp only[evD,Option.some.injEq,Prod.mk.injEq] at h;obtain⟨rfl,rfl⟩:=h;exact hp
 |k::ks,recs,F,F',X,X',h,hp=>by
  simp only[evD] at h;split at h<;>try(cases h;done)
  split at h<;>try(cases h;done)
  rename_i F1 X1 hs;generalize chkOK recs X X1 (chkOf chk k)=b at h;cases b with
  |false=>cases h
  |true=>exact step_pc hcall hs (d_pc hcall h hp)
end
end Go.Xe
namespace Go.Xe
def XW.add(X:XW)(m:Nat)(ob:Ob):XW:={X with objs:=X.objs.put m ob}
structure Free (X:XW) (m:Nat):Prop where
 dead:X.objs.get m=none
 lt:m<X.next
theorem Free.keeps{X X':XW}{m:Nat}(h:Free X m)(k:Keeps X X'):Free X' m:=⟨k.dead m h.lt h.dead,Nat.lt_of_lt_of_le h.lt k.next⟩
section
variable{P:Program}{X X':XW}{m:Nat}{ob:Ob}
theorem add_get(h:Free X m){k:Nat}{o:Ob}(hk:X.objs.get k=some o):(X.add m ob).objs.get k=some o∧k≠m:=by
 have hne:k≠m:=fun e=>by rw[e,h.dead] at hk;cases hk
 refine⟨?_,hne⟩;show(X.objs.put m ob).get k=some o;rw[Hp.get_put,if_neg hne];exact hk
theorem add_new(h:Free X m)(o:Ob):((X.add m ob).new o)=((X.new o).1,((X.new o).2).add m ob):=by
 unfold XW.new XW.add;simp only[Prod.mk.injEq,true_and];rw[Hp.put_comm _ _ _ (by have:=h.lt;omega)]
theorem add_newRow(h:Free X m)(ty:TypeId)(cells:List SV):newRow (X.add m ob) ty cells=((newRow X ty cells).1,(newRow X ty cells).2.add m ob):=by
 unfold newRow;simp only[force_eq];exact add_new h _
theorem add_newPat(h:Free X m)(ty:TypeId)(n:Nat)(cells:List SV):newPat (X.add m ob) ty n cells=((newPat X ty n cells).1,(newPat X ty n cells).2.add m ob):=by
 unfold newPat;simp only[force_eq];exact add_new h _
theorem add_newLoose(h:Free X m)(ty esz:Nat)(cells:List SV):newLoose (X.add m ob) ty esz cells=((newLoose X ty esz cells).1,(newLoose X ty esz cells).2.add m ob):=by
 unfold newLoose;simp only[force_eq];exact add_new h _
theorem add_set(h:Free X m){k:Nat}{o o':Ob}(hk:X.objs.get k=some o):({X.add m ob with objs:=(X.add m ob).objs.put k o'}:XW)=({X with objs:=X.objs.put k o'}:XW).add m ob:=by
 obtain⟨_,hne⟩:=add_get (ob:=ob) h hk;unfold XW.add;simp only[XW.mk.injEq,true_and,and_true];exact Hp.put_comm _ _ _ (fun e=>hne e.symm)
theorem asB_frame{y:SV}{b:Bool}(h:asB X y=some (b,X')):asB (X.add m ob) y=some (b,X'.add m ob):=by
 cases y with
 |bool c=>simp only[asB,Option.some.injEq,Prod.mk.injEq] at h⊢;obtain⟨rfl,rfl⟩:=h;exact⟨rfl,rfl⟩
 |val x=>
  cases x with
  |bool s=>
   simp only[asB,XW.ask] at h;split at h
   ·rename_i o os ho;cases h
    have:(X.add m ob).orc=_::os:=ho
    simp only[asB,XW.ask,this];rfl
   ·cases h
  |_=>simp[asB] at h
 |_=>simp[asB] at h
theorem withX_frame{o:Option SV}{y:SV}(h:withX X o=some (y,X')):withX (X.add m ob) o=some (y,X'.add m ob):=by
 obtain⟨rfl,rfl⟩:=withX_some h;rfl
theorem load_frame(hf:Free X m){t:TypeId}{k off:Nat}{y:SV}(h:semLoad P t X k off=some y):semLoad P t (X.add m ob) k off=some y:=by
 unfold semLoad at h⊢;cases hk:X.objs.get k with
 |none=>simp[hk] at h
 |some o=>rw[hk] at h;rw[(add_get hf hk).1];exact h
theorem elems_frame(hf:Free X m){sz n:Nat}{x:SV}{ys:List SV}(h:appElems X sz x=some (n,ys)):appElems (X.add m ob) sz x=some (n,ys):=by
 unfold appElems at h⊢;split at h
 ·split at h<;>try(cases h;done)
  rename_i o ho;simp only[(add_get hf ho).1];exact h
 ·exact h
 ·exact h
 ·exact h
 ·cases h
theorem store_frame(hf:Free X m){t:TypeId}{k off:Nat}{y:SV}(h:semStore P t X k off y=some X'):semStore P t (X.add m ob) k off y=some (X'.add m ob):=by
 unfold semStore at h⊢;split at h<;>try(cases h;done)
 rename_i o n ho hn;simp only[(add_get hf ho).1,hn];generalize(Nat.beq _ _&&_&&_&&_)=b at h⊢;cases b<;>simp only[cond_true,cond_false,Option.some.injEq,reduceCtorEq] at h⊢
 subst h;exact add_set hf ho
theorem appNew_frame(hf:Free X m){e sz b need:Nat}{cells:List SV}{y:SV}(h:appNew e sz b need cells X=some (y,X')):appNew e sz b need cells (X.add m ob)=some (y,X'.add m ob):=by
 unfold appNew at h⊢;generalize(Nat.ble _ _&&_)=c at h⊢;cases c<;>simp only[cond_true,cond_false,Option.some.injEq,Prod.mk.injEq,reduceCtorEq] at h⊢
 obtain⟨rfl,rfl⟩:=h;rw[add_newLoose hf];exact⟨rfl,rfl⟩
theorem appIn_frame(hf:Free X m){k off len lo need sz:Nat}{cap:Option Nat}{o:Ob}{ny:List SV}{y:SV}(ho:X.objs.get k=some o)(h:appIn k off len cap lo need sz o ny X=some (y,X')):
 appIn k off len cap lo need sz o ny (X.add m ob)=some (y,X'.add m ob):=by
 unfold appIn at h⊢;generalize(Nat.ble _ _&&_)=c at h⊢;cases c<;>simp only[cond_true,cond_false,Option.some.injEq,Prod.mk.injEq,reduceCtorEq] at h⊢
 obtain⟨rfl,rfl⟩:=h;exact⟨rfl,add_set hf ho⟩
theorem appOn_frame(hf:Free X m){k len need sz b:Nat}{o:Ob}{ny:List SV}{y:SV}(ho:X.objs.get k=some o)(h:appOn k len need sz b o ny X=some (y,X')):
 appOn k len need sz b o ny (X.add m ob)=some (y,X'.add m ob):=by
 unfold appOn at h⊢;generalize(Nat.ble _ _&&(_&&_))=c at h⊢;cases c<;>simp only[cond_true,cond_false,force_eq,Option.some.injEq,Prod.mk.injEq,reduceCtorEq] at h⊢
 obtain⟨rfl,rfl⟩:=h;refine⟨rfl,?_⟩;obtain⟨_,hne⟩:=add_get (ob:=ob) hf ho;have hlt:=hf.lt;unfold XW.add;simp only[XW.mk.injEq,true_and,and_true];rw[← Hp.del_put _ _ hne,Hp.put_comm _ _ _ (by omega)]
theorem appTo_frame(hf:Free X m){e sz b k off len lo n:Nat}{cap:Option Nat}{news:List SV}{y:SV}(h:appTo e sz b k off len cap lo n news X=some (y,X')):appTo e sz b k off len cap lo n news (X.add m ob)=some (y,X'.add m ob):=by
 unfold appTo at h⊢;split at h<;>try(cases h;done)
 rename_i o ho;simp only[(add_get hf ho).1];rw[force_eq] at h⊢;split at h
 ·try simp only[]
  generalize Nat.ble _ _=b1 at h⊢;cases b1<;>simp only[cond_true,cond_false] at h⊢
  ·split at h<;>try(cases h;done)
   exact appNew_frame hf h
  ·exact appIn_frame hf ho h
 ·try simp only[]
  generalize(Nat.beq _ _&&(_&&(_&&(_&&(_&&_)))))=b1 at h⊢;cases b1<;>simp only[cond_true,cond_false,reduceCtorEq] at h⊢
  generalize Nat.ble _ _=b2 at h⊢;cases b2<;>simp only[cond_true,cond_false] at h⊢
  ·exact appOn_frame hf ho h
  ·exact appIn_frame hf ho h
theorem append_frame(hf:Free X m){t:TypeId}{s x y:SV}(h:semAppend P t s x X=some (y,X')):semAppend P t s x (X.add m ob)=some (y,X'.add m ob):=by
 unfold semAppend at h⊢;split at h<;>try(cases h;done)
 rename_i e ht;split at h<;>try(cases h;done)
 rename_i sz z b hs hz hb;split at h<;>try(cases h;done)
 rename_i n ny hel;simp only[elems_frame hf hel];generalize(Nat.ble _ _&&(_&&(_&&_)))=c at h⊢;cases c<;>simp only[cond_true,cond_false,reduceCtorEq] at h⊢
 split at h
 ·rename_i a c
  try simp only[]
  generalize(Nat.beq a 0&&_)=b1 at h⊢;cases b1<;>simp only[cond_true,cond_false,reduceCtorEq] at h⊢
  generalize Nat.beq _ 0=b2 at h⊢;cases b2<;>simp only[cond_true,cond_false] at h⊢
  ·exact appNew_frame hf h
  ·cases h;rfl
 ·try simp only[]
  exact appTo_frame hf h
 ·generalize Nat.beq _ 0=b1 at h⊢;cases b1<;>simp only[cond_true,cond_false,reduceCtorEq] at h⊢
  cases h;rfl
 ·cases h
theorem appendZ_frame(hf:Free X m){t:TypeId}{s x y:SV}(h:semAppendZ P t s x X=some (y,X')):semAppendZ P t s x (X.add m ob)=some (y,X'.add m ob):=by
 unfold semAppendZ at h⊢;split at h<;>try(cases h;done)
 rename_i hu
 try simp only[hu]
 split at h<;>try(cases h;done)
 rename_i h1 h2 h3
 try simp only[h1,h2,h3]
 split at h<;>try(cases h;done)
 rename_i hc
 try simp only[hc]
 generalize(Nat.beq _ _&&(_&&(_&&_)))=c at h⊢;cases c<;>simp only[cond_true,cond_false,reduceCtorEq] at h⊢
 split at h<;>try(cases h;done)
 exact appTo_frame hf h
theorem copy_frame(hf:Free X m){t:TypeId}{s x y:SV}(h:semCopy P t s x X=some (y,X')):semCopy P t s x (X.add m ob)=some (y,X'.add m ob):=by
 unfold semCopy at h⊢;split at h<;>try(cases h;done)
 rename_i e ht;split at h<;>try(cases h;done)
 rename_i sz hs;split at h<;>try(cases h;done)
 rename_i n ny hel;simp only[elems_frame hf hel];generalize(Nat.beq _ _&&_)=c at h⊢;cases c<;>simp only[cond_true,cond_false,reduceCtorEq] at h⊢
 split at h
 ·try simp only[]
  generalize Nat.beq _ _=b1 at h⊢;cases b1<;>simp only[cond_true,cond_false,reduceCtorEq] at h⊢
  cases h;rfl
 ·try simp only[]
  split at h<;>try(cases h;done)
  rename_i o ho;simp only[(add_get hf ho).1];rw[force_eq] at h⊢;generalize(Nat.ble _ _&&_)=b1 at h⊢;cases b1<;>simp only[cond_true,cond_false,Option.some.injEq,Prod.mk.injEq,reduceCtorEq] at h⊢
  obtain⟨rfl,rfl⟩:=h;exact⟨rfl,add_set hf ho⟩
 ·cases h
theorem blt_frame(hf:Free X m){b:Builtin}{ts:Array TypeId}{vals:List SV}{y:SV}(h:bltE P b ts vals X=some (y,X')):bltE P b ts vals (X.add m ob)=some (y,X'.add m ob):=by
 unfold bltE at h⊢;split at h
 ·split at h<;>try(cases h;done)
  rename_i ht;exact withX_frame h
 ·split at h<;>try(cases h;done)
  rename_i ht;exact withX_frame h
 ·exact withX_frame h
 ·exact withX_frame h
 ·split at h<;>try(cases h;done)
  rename_i ht hu;split at h<;>try(cases h;done)
  rename_i hd;generalize noInt _=b1 at h⊢;cases b1<;>simp only[cond_true,cond_false,reduceCtorEq] at h⊢
  ·generalize yesInt _=b2 at h⊢;cases b2<;>simp only[cond_true,cond_false,reduceCtorEq] at h⊢
   exact appendZ_frame hf h
  ·exact append_frame hf h
 ·split at h<;>try(cases h;done)
  rename_i ht;exact copy_frame hf h
 ·cases h
theorem convX_frame(hf:Free X m){s d:TypeId}{x y:SV}(h:convX P s d x X=some (y,X')):convX P s d x (X.add m ob)=some (y,X'.add m ob):=by
 unfold convX at h⊢;split at h
 ·generalize(isU8 P _&&_)=b at h⊢;cases b<;>simp only[cond_true,cond_false,Option.some.injEq,Prod.mk.injEq,reduceCtorEq] at h⊢
  obtain⟨rfl,rfl⟩:=h;rw[add_newLoose hf];exact⟨rfl,rfl⟩
 ·generalize(isU8 P _&&_)=b at h⊢;cases b<;>simp only[cond_true,cond_false,reduceCtorEq] at h⊢
  split at h<;>try(cases h;done)
  rename_i o ho;simp only[(add_get hf ho).1];cases hr:o.ro<;>simp only[hr,cond_true,cond_false,reduceCtorEq] at h⊢
  cases h;rfl
 ·generalize isU8 P _=b at h⊢;cases b<;>simp only[cond_true,cond_false,reduceCtorEq] at h⊢
  cases h;rfl
 ·generalize isU8 P _=b at h⊢;cases b<;>simp only[cond_true,cond_false,reduceCtorEq] at h⊢
  cases h;rfl
 ·generalize isU8 P _=b at h⊢;cases b<;>simp only[cond_true,cond_false,reduceCtorEq] at h⊢
  split at h<;>try(cases h;done)
  rename_i o ho;split at h<;>try(cases h;done)
  rename_i ys hys;split at h<;>try(cases h;done)
  rename_i ns hns;simp only[(add_get hf ho).1,hys,hns];cases h;rfl
 ·cases h
theorem range_frame(hf:Free X m){t:TypeId}{x y:SV}(h:semRange P t x X=some (y,X')):semRange P t x (X.add m ob)=some (y,X'.add m ob):=by
 unfold semRange at h⊢;split at h<;>cases h
 simp only[add_new hf]
theorem next_frame(hf:Free X m){k:Nat}{y:SV}(h:semNext k X=some (y,X')):semNext k (X.add m ob)=some (y,X'.add m ob):=by
 unfold semNext at h⊢;split at h<;>try(cases h;done)
 rename_i o ho;split at h<;>try(cases h;done)
 rename_i s pos hit;simp only[(add_get hf ho).1,hit];generalize Nat.blt _ _=b at h⊢;cases b<;>simp only[cond_true,cond_false,force_eq,Option.some.injEq,Prod.mk.injEq] at h⊢
 ·obtain⟨rfl,rfl⟩:=h;exact⟨rfl,rfl⟩
 ·obtain⟨rfl,rfl⟩:=h;exact⟨rfl,add_set hf ho⟩
def FrameOK(callf:CallF):Prop:=∀f args X y X' m ob,callf f args X=some (y,X')→Free X m→callf f args (X.add m ob)=some (y,X'.add m ob)
theorem newMap_frame(hf:Free X m):newMap (X.add m ob)=((newMap X).1,(newMap X).2.add m ob):=add_new hf _
theorem entriesOf_frame(hf:Free X m){k:Nat}{r:List (SV×SV×Nat)×Nat}(h:entriesOf X k=some r):entriesOf (X.add m ob) k=some r:=by
 unfold entriesOf at h⊢;split at h<;>try(cases h;done)
 rename_i o ho;simp only[(add_get hf ho).1];exact h
theorem lookup_frame(hf:Free X m){t:TypeId}{a k z:SV}{ok:Bool}(h:semLookup P t a k ok X=some z):semLookup P t a k ok (X.add m ob)=some z:=by
 unfold semLookup at h⊢;split at h<;>try(cases h;done)
 rename_i kt e hu;split at h<;>try(cases h;done)
 rename_i es zv hes hz
 have:mapOf a (X.add m ob)=some es:=by
  unfold mapOf at hes⊢;split at hes
  ·exact hes
  ·split at hes<;>try(cases hes;done)
   rename_i es' clock hen;rw[entriesOf_frame hf hen];exact hes
  ·cases hes
 rw[this,hz];exact h
theorem update_frame(hf:Free X m){t:TypeId}{a k v:SV}(h:semUpdate P t a k v X=some X'):semUpdate P t a k v (X.add m ob)=some (X'.add m ob):=by
 unfold semUpdate at h⊢;split at h<;>try(cases h;done)
 rename_i kt e j hu;split at h<;>try(cases h;done)
 rename_i o ho;simp only[(add_get hf ho).1];split at h<;>try(cases h;done)
 rename_i es clock hs;cases hn:keyNow P kt k with
 |false=>simp[hn] at h
 |true=>
 simp only[hn,cond_true] at h⊢;split at h
 ·rename_i i w hfd;cases h;rw[add_set hf ho]
 ·rename_i hfd;rw[force_eq] at h⊢;cases h;rw[add_set hf ho]
 ·cases h
theorem entry_frame(hf:Free X m){t:TypeId}{a k z:SV}(h:semEntry P t a k X=some (z,X')):semEntry P t a k (X.add m ob)=some (z,X'.add m ob):=by
 unfold semEntry at h⊢;split at h<;>try(cases h;done)
 rename_i kt e j hu;split at h<;>try(cases h;done)
 rename_i o zv ho hz;simp only[(add_get hf ho).1,hz];split at h<;>try(cases h;done)
 rename_i es clock hs;cases hn:keyNow P kt k with
 |false=>simp[hn] at h
 |true=>
 simp only[hn,cond_true] at h⊢;split at h
 ·rename_i i w hfd;cases h;rw[add_set hf ho]
 ·rename_i hfd;split at h<;>try(cases h;done)
  rw[force_eq] at h⊢;cases h;rw[add_set hf ho]
 ·cases h
theorem entrySt_frame(hf:Free X m){a b v:SV}(h:semEntrySt a b v X=some X'):semEntrySt a b v (X.add m ob)=some (X'.add m ob):=by
 unfold semEntrySt at h⊢;split at h<;>try(cases h;done)
 rename_i j ik b';split at h<;>try(cases h;done)
 rename_i o ho;simp only[(add_get hf ho).1];split at h<;>try(cases h;done)
 rename_i es clock hs;split at h<;>try(cases h;done)
 rename_i i hfb;cases h;rw[add_set hf ho]
theorem meth_frame(hf:Free X m){x:SV}{name:String}{r:FuncId×SV}(h:methE P x name X=some r):methE P x name (X.add m ob)=some r:=by
 unfold methE at h⊢;split at h<;>try(cases h;done)
 split at h<;>try(cases h;done)
 split at h<;>try(cases h;done)
 rename_i mm hm;cases hp:mm.path.isEmpty with
 |false=>simp[hp] at h
 |true=>
 simp only[hp,cond_true] at h⊢;split at h
 ·exact h
 ·split at h<;>try(cases h;done)
  rename_i hz;rw[load_frame hf hz];exact h
 ·cases h
 ·exact h
 ·cases h
theorem calE_frame(hf:Free X m){c:Call}{vals:List SV}{r:Cal×List SV}(h:calE P c vals X=some r):calE P c vals (X.add m ob)=some r:=by
 unfold calE at h⊢;split at h
 ·exact h
 ·split at h<;>try(cases h;done)
  split at h<;>try(cases h;done)
  rename_i hm;rw[meth_frame hf hm];exact h
 ·cases h
theorem sem_frame(hf:Free X m){op:Op}{vals:List SV}{y:SV}(h:sem P op vals X=some (y,X')):sem P op vals (X.add m ob)=some (y,X'.add m ob):=by
 unfold sem at h;split at h
 case h_3=>
  unfold semPick at h;split at h
  ·rename_i hb;cases h;simp only[sem,semPick,asB_frame (m:=m) (ob:=ob) hb]
  ·rename_i hb;cases h;simp only[sem,semPick,asB_frame (m:=m) (ob:=ob) hb]
  ·cases h
 case h_4=>
  unfold semAlloc at h;split at h<;>cases h
  rename_i z hz;simp only[sem,semAlloc,hz,add_newRow hf]
 case h_5=>
  unfold semBox at h;rename_i x;cases hx:x.flat<;>simp only[hx,cond_false,cond_true] at h<;>cases h
  simp only[sem,semBox,hx,cond_true,add_newRow hf]
 case h_7=>
  unfold semBuildSlice at h;split at h<;>try(cases h;done)
  rename_i e hu;split at h<;>try(cases h;done)
  rename_i s z hs hz;generalize hc:(Nat.ble _ _&&Nat.ble 1 s&&_)=b at h;cases b<;>simp only[cond_true,cond_false] at h
  ·cases h
  ·split at h<;>cases h
   rename_i cs hcs;simp only[sem,semBuildSlice,hu,hs,hz,hc,cond_true,hcs,add_newRow hf]
 case h_8=>
  obtain⟨h',rfl⟩:=withX_some h;simp only[sem,load_frame hf h',withX]
 case h_9=>
  split at h<;>cases h
  rename_i X1 hs;simp only[sem,store_frame hf hs]
 case h_13=>
  split at h
  ·rename_i hc;cases h;simp only[sem,hc]
  ·rename_i hc;simp only[sem,hc];exact convX_frame hf h
 case h_16=>
  unfold semMake at h;split at h<;>try(cases h;done)
  rename_i e hu;split at h<;>try(cases h;done)
  rename_i l c hl hcc;split at h<;>try(cases h;done)
  rename_i s z b hs hz hb;generalize hc:(Nat.ble _ _&&_&&_&&_&&_)=b at h;cases b<;>simp only[cond_true,cond_false] at h<;>cases h
  simp only[sem,semMake,hu,hl,hcc,hs,hz,hb,hc,cond_true,add_newPat hf]
 all_goals first
  |(cases h;rfl)
  |(obtain⟨h',rfl⟩:=withX_some h;simp only[sem,withX,h'];done)
  |(obtain⟨h',rfl⟩:=withX_some h;simp only[sem,lookup_frame hf h',withX];done)
  |(cases h;simp only[sem,newMap_frame hf];done)
  |(split at h<;>cases h;rename_i hu;simp only[sem,update_frame hf hu];done)
  |(simp only[sem,entry_frame hf h];done)
  |(split at h<;>cases h;rename_i hu;simp only[sem,entrySt_frame hf hu];done)
  |(cases h;done)
  |(simp only[sem];exact range_frame hf h)
  |(simp only[sem];exact next_frame hf h)
theorem evOp_frame{callf:CallF}(hfr:FrameOK callf)(hf:Free X m){o:Oper}{F:Tr SV}{y:SV}(h:evOp P callf o F X=some (y,X')):evOp P callf o F (X.add m ob)=some (y,X'.add m ob):=by
 unfold evOp at h⊢;split at h<;>try(cases h;done)
 rename_i vals hl;have hl':looks (X.add m ob).ng F o.op.operands.toList=some vals:=hl;simp only[hl'];split at h
 ·unfold evCall at h⊢;split at h
  ·exact blt_frame hf h
  ·split at h<;>try(cases h;done)
   rename_i hcal;rw[calE_frame hf hcal];unfold callV at h⊢;split at h<;>try(cases h;done)
   rename_i hz;cases h;simp only[hfr _ _ _ _ _ _ _ hz hf]
 ·exact sem_frame hf h
theorem evOpO_frame{callf:CallF}(hfr:FrameOK callf)(hf:Free X m){o:Oper}{F:Tr SV}{y:Out}(h:evOpO P callf o F X=some (y,X')):evOpO P callf o F (X.add m ob)=some (y,X'.add m ob):=by
 have panF:∀{vals:List SV},panE vals X=some (y,X')→panE vals (X.add m ob)=some (y,X'.add m ob):=by
  intro vals h;unfold panE at h⊢;split at h<;>cases h
  rfl
 have retK:∀{r:Option (SV×XW)},retO r=some (y,X')→∃z,y= .ret z∧r=some (z,X'):=by
  intro r hr;unfold retO at hr;split at hr<;>cases hr
  exact⟨_,rfl,rfl⟩
 unfold evOpO at h⊢;split at h<;>try(cases h;done)
 rename_i vals hl;have hl':looks (X.add m ob).ng F o.op.operands.toList=some vals:=hl;simp only[hl'];split at h
 ·split at h
  ·rename_i b _;cases hb:isPanB b with
   |true=>rw[hb] at h;exact panF h
   |false=>
    rw[hb] at h;obtain⟨z,rfl,h3⟩:=retK h;simp only[cond_false,blt_frame hf h3,retO]
  ·split at h<;>try(cases h;done)
   rename_i hcal;rw[calE_frame hf hcal];exact hfr _ _ _ _ _ _ _ h hf
 ·exact panF h
 ·obtain⟨z,rfl,h3⟩:=retK h;simp only[sem_frame hf h3,retO]
theorem want_frame{ops:List Oper}{F:Tr SV}{g:Option (Nat×Bool)}{b:Bool}(h:wantE ops F X g=some (b,X')):wantE ops F (X.add m ob) g=some (b,X'.add m ob):=by
 unfold wantE at h⊢;split at h
 ·cases h;rfl
 ·split at h<;>try(cases h;done)
  split at h<;>try(cases h;done)
  split at h<;>try(cases h;done)
  rename_i y _;unfold asW at h;cases ht:isTup y with
  |true=>
   simp only[ht,cond_true,Option.some.injEq,Prod.mk.injEq] at h;obtain⟨rfl,rfl⟩:=h;simp[*,asW]
  |false=>
   simp only[ht,cond_false] at h;split at h<;>try(cases h;done)
   rename_i hb;cases h;simp[*,asW,asB_frame (m:=m) (ob:=ob) hb]
theorem stepV_frame{callf:CallF}(hfr:FrameOK callf)(hf:Free X m){ops:List Oper}{o:Oper}{F:Tr SV}{y:SV}(h:stepV P callf ops o F X=some (y,X')):stepV P callf ops o F (X.add m ob)=some (y,X'.add m ob):=by
 unfold stepV at h⊢;split at h
 ·rename_i X1 hw;rw[want_frame (m:=m) (ob:=ob) hw];exact evOp_frame hfr (hf.keeps (want_keeps hw)) h
 ·rename_i X1 hw;rw[want_frame (m:=m) (ob:=ob) hw];cases h;rfl
 ·cases h
theorem stepE_frame{callf:CallF}(hfr:FrameOK callf)(hf:Free X m){N:Nat}{ops:List Oper}{o:Oper}{F F':Tr SV}(h:stepE P callf N ops o F X=some (F',X')):stepE P callf N ops o F (X.add m ob)=some (F',X'.add m ob):=by
 obtain⟨y,hy,rfl⟩:=stepE_eq.1 h;exact stepE_eq.2 ⟨y,stepV_frame hfr hf hy,rfl⟩
end
section
variable{P:Program}{m:Nat}{ob:Ob}
theorem stepO_keeps{callf:CallF}(hc:KeepsOK callf){N:Nat}{ops:List Oper}{o:Oper}{F F':Tr SV}{X X':XW}{r:Option Chain}(h:stepO P callf N ops o F X=some (r,F',X')):Keeps X {X' with dfs:=X.dfs}:=by
 have wk:∀{X1:XW} {b:Bool},wantE ops F X o.guard=some (b,X1)→Keeps X X1:=fun h=>want_keeps h
 unfold stepO at h;split at h
 ·rename_i X1 hw;cases hd:isDefer o.op with
  |true=>
   rw[hd] at h;simp only[cond_true] at h;split at h<;>cases h
   have k:=wk hw;exact⟨k.orc,k.ng,k.next,k.ver,k.dead,rfl,k.pc⟩
  |false=>
   rw[hd] at h;simp only[cond_false] at h;split at h
   ·rename_i y X2 ho;cases h;have k:=(wk hw).trans (evOpO_keeps hc ho);exact⟨k.orc,k.ng,k.next,k.ver,k.dead,rfl,k.pc⟩
   ·rename_i ch X2 ho;cases h;have k:=(wk hw).trans (evOpO_keeps hc ho);exact⟨k.orc,k.ng,k.next,k.ver,k.dead,rfl,k.pc⟩
   ·cases h
 ·rename_i X1 hw;cases h;have k:=wk hw;exact⟨k.orc,k.ng,k.next,k.ver,k.dead,rfl,k.pc⟩
 ·cases h
theorem Keeps.noD{X Y Z:XW}(h:Keeps X {Y with dfs:=X.dfs})(h':Keeps Y {Z with dfs:=Y.dfs}):Keeps X {Z with dfs:=X.dfs}:=by
 have a:Keeps {Y with dfs:=X.dfs} {Z with dfs:=X.dfs}:=⟨h'.orc,h'.ng,h'.next,h'.ver,h'.dead,rfl,h'.pc⟩;exact h.trans a
theorem evOps_keeps{callf:CallF}(hc:KeepsOK callf){N:Nat}{ops:List Oper}:∀{l:List Oper} {F F':Tr SV} {X X':XW} {r:Option Chain},evOps P callf N ops l F X=some (r,F',X')→Keeps X {X' with dfs:=X.dfs}
 | [],_,_,_,_,_,h=>by cases h;exact Keeps.refl _
 |o::l,F,F',X,X',r,h=>by
  simp only[evOps] at h;split at h
  ·rename_i F1 X1 hs;exact(stepO_keeps hc hs).noD (evOps_keeps hc h)
  ·exact stepO_keeps hc h
theorem dferE_frame{o:Oper}{F:Tr SV}{X:XW}:dferE o F (X.add m ob)=dferE o F X:=rfl
theorem stepO_frame{callf:CallF}(hfr:FrameOK callf){X X':XW}(hf:Free X m){N:Nat}{ops:List Oper}{o:Oper}{F F':Tr SV}{r:Option Chain}(h:stepO P callf N ops o F X=some (r,F',X')):stepO P callf N ops o F (X.add m ob)=some (r,F',X'.add m ob):=by
 unfold stepO at h⊢;split at h
 ·rename_i X1 hw;rw[want_frame (m:=m) (ob:=ob) hw];simp only[];cases hd:isDefer o.op with
  |true=>
   rw[hd] at h;simp only[cond_true] at h⊢;rw[dferE_frame];split at h<;>cases h
   rfl
  |false=>
   rw[hd] at h;simp only[cond_false] at h⊢;split at h
   ·rename_i y X2 ho;cases h;rw[evOpO_frame hfr (hf.keeps (want_keeps hw)) ho]
   ·rename_i ch X2 ho;cases h;rw[evOpO_frame hfr (hf.keeps (want_keeps hw)) ho]
   ·cases h
 ·rename_i X1 hw;rw[want_frame (m:=m) (ob:=ob) hw];cases h;rfl
 ·cases h
theorem Free.keepsD{X X':XW}(h:Free X m)(k:Keeps X {X' with dfs:=X.dfs}):Free X' m:=⟨k.dead m h.lt h.dead,Nat.lt_of_lt_of_le h.lt k.next⟩
theorem evOps_frame{callf:CallF}(hfr:FrameOK callf)(hc:KeepsOK callf){N:Nat}{ops:List Oper}:∀{l:List Oper} {F F':Tr SV} {X X':XW} {r:Option Chain},Free X m→evOps P callf N ops l F X=some (r,F',X')→evOps P callf N ops l F (X.add m ob)=some (r,F',X'.add m ob)
 | [],_,_,_,_,_,_,h=>by cases h;rfl
 |o::l,F,F',X,X',r,hf,h=>by
  simp only[evOps] at h⊢;split at h
  ·rename_i F1 X1 hs;rw[stepO_frame hfr hf hs];exact evOps_frame hfr hc (hf.keepsD (stepO_keeps hc hs)) h
  ·rename_i hne;rw[stepO_frame hfr hf h];cases r with
   |none=>exact absurd h (hne _ _)
   |some ch=>rfl
theorem addrOf_frame{ops:List Oper}{o:Oper}{F:Tr SV}{X:XW}{r:Tr SV×XW}{callf:CallF}{N:Nat}(h:stepE P callf N ops o F X=some r):addrOf ops o F (X.add m ob)=addrOf ops o F X:=by
 unfold stepE at h;unfold addrOf;cases hw:wantE ops F X o.guard with
 |none=>rw[hw] at h;cases h
 |some q=>
  obtain⟨b,X1⟩:=q;rw[want_frame (m:=m) (ob:=ob) hw];cases b<;>rfl
theorem sameVer_frame{X X':XW}{k:Nat}(hf:Free X m)(h:sameVer X X' k=true):sameVer (X.add m ob) (X'.add m ob) k=true:=by
 unfold sameVer at h⊢;cases hb:Nat.blt k X.next with
 |false=>rw[hb] at h;cases h
 |true=>
  rw[hb] at h;have hb':Nat.blt k (X.add m ob).next=true:=hb
  rw[hb'];simp only[cond_true,verOf] at h⊢;cases h1:X.objs.get k with
  |none=>simp[h1] at h
  |some o=>
   obtain⟨h3,hne⟩:=add_get (ob:=ob) hf h1
   have h4:(X'.add m ob).objs.get k=X'.objs.get k:=by
    show(X'.objs.put m ob).get k=_;rw[Hp.get_put,if_neg hne]
   rw[h3,h4];rw[h1] at h;exact h
theorem chkOK_frame{recs:List (Nat×Option Nat)}{X X':XW}(hf:Free X m):∀{ls:List Nat},chkOK recs X X' ls=true→chkOK recs (X.add m ob) (X'.add m ob) ls=true
 | [],_=>rfl
 |l::ls,h=>by
  simp only[chkOK,Bool.and_eq_true] at h⊢;refine⟨?_,chkOK_frame hf h.2⟩;cases hk:findK recs l with
  |none=>rfl
  |some k=>
   have:=h.1
   rw[hk] at this;exact sameVer_frame hf this
theorem evD_frame{callf:CallF}(hfr:FrameOK callf)(hc:KeepsOK callf){N:Nat}{ops:List Oper}{chk:List (Nat×List Nat)}:∀{ks:List Nat} {recs:List (Nat×Option Nat)} {F F':Tr SV} {X X':XW},Free X m→evD P callf N ops chk ks recs F X=some (F',X')→
 evD P callf N ops chk ks recs F (X.add m ob)=some (F',X'.add m ob)
 | [],_,_,_,_,_,_,h=>by simp only[evD,Option.some.injEq,Prod.mk.injEq] at h⊢;obtain⟨rfl,rfl⟩:=h;exact⟨rfl,rfl⟩
 |k::ks,recs,F,F',X,X',hf,h=>by
  simp only[evD] at h⊢;split at h<;>try(cases h;done)
  rename_i o _;split at h<;>try(cases h;done)
  rename_i F1 X1 hs;rw[stepE_frame hfr hf hs];simp only[];cases hck:chkOK recs X X1 (chkOf chk k) with
  |false=>rw[hck] at h;cases h
  |true=>
   rw[hck] at h;rw[chkOK_frame hf hck,addrOf_frame hs];exact evD_frame hfr hc (hf.keeps (stepE_keeps hc hs)) h
end
end Go.Xe
namespace Go.Xe
section
variable{P:Program}{B:Nat}{w0 w:World}{E:Env}{ds:List Deferred}
theorem new_sem{op:Op}{vals:List SV}{X X':XW}{y:SV}(hn:isNew op=true)(h:sem P op vals X=some (y,X')):
 ∃o,X'=(X.new o).2∧o.ro=false∧∀X1:XW,X1.next=X.next→sem P op vals X1=some (y,(X1.new o).2):=by
 unfold sem at h;split at h
 case h_4=>
  unfold semAlloc newRow XW.new at h;split at h<;>try(cases h;done)
  rename_i z hz;simp only[force_eq] at h;cases h;exact⟨_,rfl,rfl,fun X1 h1=>by simp only[sem,semAlloc,newRow,XW.new,hz,force_eq,h1]⟩
 case h_5=>
  unfold semBox newRow XW.new at h;rename_i x;cases hx:x.flat<;>simp only[hx,cond_false,cond_true,force_eq] at h<;>cases h
  exact⟨_,rfl,rfl,fun X1 h1=>by simp only[sem,semBox,newRow,XW.new,hx,cond_true,force_eq,h1]⟩
 case h_7=>
  unfold semBuildSlice newRow XW.new at h;split at h<;>try(cases h;done)
  rename_i e hu;split at h<;>try(cases h;done)
  rename_i s z hs hz;generalize hc:(Nat.ble _ _&&Nat.ble 1 s&&_)=b at h;cases b<;>simp only[cond_true,cond_false,force_eq] at h
  ·cases h
  ·split at h<;>cases h
   rename_i cs hcs;exact⟨_,rfl,rfl,fun X1 h1=>by simp only[sem,semBuildSlice,newRow,XW.new,hu,hs,hz,hc,cond_true,hcs,force_eq,h1]⟩
 case h_16=>
  unfold semMake newPat XW.new at h;split at h<;>try(cases h;done)
  rename_i e hu;split at h<;>try(cases h;done)
  rename_i l c hl hcc;split at h<;>try(cases h;done)
  rename_i s z b hs hz hb;generalize hc:(Nat.ble _ _&&_&&_&&_&&_)=b at h;cases b<;>simp only[cond_true,cond_false,force_eq] at h<;>cases h
  exact⟨_,rfl,rfl,fun X1 h1=>by simp only[sem,semMake,newPat,XW.new,hu,hl,hcc,hs,hz,hb,hc,cond_true,force_eq,h1]⟩
 all_goals first
  |(simp[isNew] at hn;done)
  |(cases h;done)
theorem newR_new{rs:List Nat}{k:Nat}{o:Op}(h:newR rs k o=true):isNew o=true:=by
 simp only[newR,Bool.and_eq_true] at h;exact h.2
def stepNV(P:Program)(callf:CallF)(ops:List Oper)(rs:List Nat)(base k:Nat)(o:Oper)(F:Tr SV)(X:XW):Option (SV×XW):=
 bif newR rs k o.op then(match o.guard with
  |some _=>none
  |none=>match looks X.ng F o.op.operands.toList with
   |none=>none
   |some vals=>bif lowL base vals then(match sem P o.op vals {X with next:=base+k} with
    |some (y,X')=>some (y,{X' with next:=X.next})
    |none=>none) else none) else stepV P callf ops o F X
theorem stepN_eq{callf:CallF}{rs:List Nat}{N base k:Nat}{ops:List Oper}{o:Oper}{F F':Tr SV}{X X':XW}:
 stepN P callf N ops rs base k o F X=some (F',X')↔∃y,stepNV P callf ops rs base k o F X=some (y,X')∧F'=put N F o.dst y:=by
 unfold stepN stepNV;cases hn:newR rs k o.op with
 |false=>simp only[cond_false];exact stepE_eq
 |true=>
  simp only[cond_true];cases o.guard with
  |some g=>simp
  |none=>
   simp only[];cases looks X.ng F o.op.operands.toList with
   |none=>simp
   |some vals=>
    simp only[];cases lowL base vals with
    |false=>simp
    |true=>
     simp only[cond_true,force_eq];cases hs:sem P o.op vals {X with next:=base+k} with
     |none=>simp
     |some r=>
      obtain⟨y,X1⟩:=r;simp only[Option.some.injEq,Prod.mk.injEq];constructor
      ·rintro ⟨rfl,rfl⟩;exact⟨y,⟨rfl,rfl⟩,rfl⟩
      ·rintro ⟨y',⟨rfl,rfl⟩,rfl⟩;exact⟨rfl,rfl⟩
theorem stepNV_look{callf:CallF}{rs:List Nat}{base k:Nat}{ops:Array Oper}{o:Oper}{F F':Tr SV}{X:XW}(h:∀t∈o.looksAt ops,F.get t=F'.get t):
 stepNV P callf ops.toList rs base k o F X=stepNV P callf ops.toList rs base k o F' X:=by
 obtain⟨hw,hl⟩:=look_same (X:=X) h;unfold stepNV;rw[stepV_look h];simp only[hl]
theorem stepNV_new{callf:CallF}{rs:List Nat}{base k:Nat}{ops:List Oper}{o:Oper}{F:Tr SV}{X X':XW}{y:SV}(hn:newR rs k o.op=true)(h:stepNV P callf ops rs base k o F X=some (y,X')):
 ∃ob,X'={X with objs:=X.objs.put (base+k) ob}∧∀X1:XW,X1.ng=X.ng→stepNV P callf ops rs base k o F X1=some (y,{X1 with objs:=X1.objs.put (base+k) ob}):=by
 unfold stepNV at h⊢;simp only[hn,cond_true] at h⊢;split at h<;>try(cases h;done)
 split at h<;>try(cases h;done)
 rename_i vals hl;cases hlow:lowL base vals with
 |false=>simp[hlow] at h
 |true=>
  simp only[hlow,cond_true] at h;split at h<;>try(cases h;done)
  rename_i y' X2 hs;cases h;obtain⟨ob,rfl,_,hind⟩:=new_sem (newR_new hn) hs;refine⟨ob,rfl,fun X1 hng=>?_⟩
  have:=hind {X1 with next:=base+k} rfl
  simp only[hng] at this;simp only[hng,hl,hlow,cond_true,this];simp only[XW.new]
def StN(P:Program)(callf:CallF)(N:Nat)(ops:Array Oper)(S:Sees)(rs:List Nat)(base i:Nat)(F:Tr SV)(X:XW)(F':Tr SV)(X':XW):Prop:=
 ∃o,ops[i]?=some o∧stepN P callf N ops.toList rs base i o F X=some (F',X')∧(isRead P o.op=true→∀k,addrOf ops.toList o F X=some k→k<base)∧
  (isBar P o.op=true→newR rs i o.op=false→∀k,sameVer (S.pre i) (S.post i) k=true→sameVer X X' k=true)∧(isRead P o.op=true→addrOf ops.toList o F X=S.obj i)
theorem new_cases{op:Op}(h:isNew op=true):isPure P op=false∧isRead P op=false:=by
 cases op<;>first|(simp[isNew] at h;done)|exact⟨rfl,rfl⟩
theorem stepNV_old{callf:CallF}{rs:List Nat}{base k:Nat}{ops:List Oper}{o:Oper}{F:Tr SV}{X:XW}(h:newR rs k o.op=false):stepNV P callf ops rs base k o F X=stepV P callf ops o F X:=by
 unfold stepNV;rw[h];rfl
theorem stepN_orc{callf:CallF}(hc:KeepsOK callf){rs:List Nat}{base k:Nat}{ops:List Oper}{o:Oper}{F:Tr SV}{X X':XW}{y:SV}(h:stepNV P callf ops rs base k o F X=some (y,X')):(X.orc=[]→X'.orc=[])∧X'.ng=X.ng:=by
 cases hn:newR rs k o.op with
 |true=>obtain⟨ob,rfl,_⟩:=stepNV_new hn h;exact⟨fun h=>h,rfl⟩
 |false=>
  rw[stepNV_old hn] at h
  have:=stepV_keeps hc h
  exact⟨this.orc,this.ng⟩
theorem pure_noNew{rs:List Nat}{k:Nat}{op:Op}(hp:isPure P op=true):newR rs k op=false:=by
 cases hn:newR rs k op with
 |false=>rfl
 |true=>have:=(new_cases (P:=P) (newR_new hn)).1;rw[hp] at this;cases this
theorem read_noNew{rs:List Nat}{k:Nat}{op:Op}(hp:isRead P op=true):newR rs k op=false:=by
 cases hn:newR rs k op with
 |false=>rfl
 |true=>have:=(new_cases (P:=P) (newR_new hn)).2;rw[hp] at this;cases this
theorem step_commN{callf:CallF}(hfrm:FrameOK callf)(hc:KeepsOK callf){N:Nat}{ops:Array Oper}{S:Sees}{chk:List (Nat×List Nat)}{rs:List Nat}{base:Nat}{i j:Nat}{oi oj:Oper}{F Fi Fij:Tr SV}{X Xi Xij:XW}(hij:i≠j)(hoi:ops[i]?=some oi)(hoj:ops[j]?=some oj)
 (hap:oi.apart ops oj=true)(hco:compatN P rs chk i j oi.op oj.op=true)
 (hsv:isBar P oj.op=true→hasNat (chkOf chk j) i=true→∀k,S.obj i=some k→sameVer (S.pre j) (S.post j) k=true)(hdead:newR rs j oj.op=true→Free X (base+j))(ho:X.orc=[])(h1:StN P callf N ops S rs base i F X Fi Xi)(h2:StN P callf N ops S rs base j Fi Xi Fij Xij):
 ∃Fj Xj Fji,StN P callf N ops S rs base j F X Fj Xj∧Xj.orc=[]∧StN P callf N ops S rs base i Fj Xj Fji Xij∧Eqv Fij Fji:=by
 obtain⟨oi',hoi',h1,r1,b1,s1⟩:=h1;obtain⟨oj',hoj',h2,r2,b2,s2⟩:=h2;rw[hoi] at hoi';cases hoi';rw[hoj] at hoj';cases hoj';obtain⟨a1,a2,a3⟩:=Oper.apart_spec hap;obtain⟨yi,hyi,rfl⟩:=stepN_eq.1 h1;obtain⟨yj,hyj,rfl⟩:=stepN_eq.1 h2;have lj:∀t∈oj.looksAt ops,F.get t=(put N F oi.dst yi).get t:=fun t ht=>(put_get t fun e=>a1 t e ht).symm
 have li:∀t∈oi.looksAt ops,F.get t=(put N F oj.dst yj).get t:=fun t ht=>(put_get t fun e=>a3 t e ht).symm
 have hj:stepNV P callf ops.toList rs base j oj F Xi=some (yj,Xij):=by rw[← hyj];exact stepNV_look lj
 have hi':∀X1 X2,stepNV P callf ops.toList rs base i oi F X1=some (yi,X2)→stepNV P callf ops.toList rs base i oi (put N F oj.dst yj) X1=some (yi,X2):=fun X1 X2 h=>by
  rw[← h];exact(stepNV_look li).symm
 have rj:∀X1,addrOf ops.toList oj F X1=addrOf ops.toList oj (put N F oi.dst yi) X1:=fun X1=>addrOf_look lj
 have ri:∀X1,addrOf ops.toList oi F X1=addrOf ops.toList oi (put N F oj.dst yj) X1:=fun X1=>addrOf_look li
 have hfr:=put_comm (N:=N) (F:=F) (y:=yi) (z:=yj) a2;obtain⟨ki1,ki2⟩:=stepN_orc hc hyi;obtain⟨kj1,kj2⟩:=stepN_orc hc hj;have oi0:=ki1 ho;have oj0:=kj1 oi0;have hilt:=(Array.getElem?_eq_some_iff.1 hoi).1;have hjlt:=(Array.getElem?_eq_some_iff.1 hoj).1
 have getNe:∀(t:Hp) (m k:Nat) (ob:Ob),m<base+ops.size→k<base→base≤m→(t.put m ob).get k=t.get k:=fun t m k ob hm hk hbm=>by
  rw[Hp.get_put,if_neg (by omega)]
 simp only[compatN,Bool.or_eq_true,Bool.and_eq_true] at hco;rcases hco with(((hp|hp)|hnj)|⟨hri,hrj⟩)|⟨⟨⟨hri,hbj⟩,hnj⟩,hck⟩
 ·have hn:=pure_noNew (rs:=rs) (k:=i) hp;rw[stepNV_old hn] at hyi;obtain⟨rfl,hind⟩:=stepV_pure hp ho hyi;obtain⟨nb,nr⟩:=pure_cases hp
  exact⟨_,Xij,_,⟨oj,hoj,stepN_eq.2 ⟨yj,hj,rfl⟩,fun h=>(by rw[rj];exact r2 h),b2,fun h=>(by rw[rj];exact s2 h)⟩,oj0,
   ⟨oi,hoi,stepN_eq.2 ⟨yi,hi' _ _ (by rw[stepNV_old hn];exact hind Xij kj2),rfl⟩,fun h=>(by rw[nr] at h;cases h),fun h=>(by rw[nb] at h;cases h),fun h=>(by rw[nr] at h;cases h)⟩,hfr⟩
 ·have hn:=pure_noNew (rs:=rs) (k:=j) hp;rw[stepNV_old hn] at hj;obtain⟨rfl,hind⟩:=stepV_pure hp oi0 hj;obtain⟨nb,nr⟩:=pure_cases hp
  exact⟨_,X,_,⟨oj,hoj,stepN_eq.2 ⟨yj,by rw[stepNV_old hn];exact hind X ki2.symm,rfl⟩,fun h=>(by rw[nr] at h;cases h),fun h=>(by rw[nb] at h;cases h),fun h=>(by rw[nr] at h;cases h)⟩,ho,
   ⟨oi,hoi,stepN_eq.2 ⟨yi,hi' _ _ hyi,rfl⟩,fun h=>(by rw[← ri];exact r1 h),b1,fun h=>(by rw[← ri];exact s1 h)⟩,hfr⟩
 ·
  obtain⟨ob,rfl,hindj⟩:=stepNV_new hnj hj;have hnr:=(new_cases (P:=P) (newR_new hnj)).2
  refine⟨_,_,_,⟨oj,hoj,stepN_eq.2 ⟨yj,hindj X ki2.symm,rfl⟩,fun h=>(by rw[hnr] at h;cases h),fun _ h=>(by rw[hnj] at h;cases h),fun h=>(by rw[hnr] at h;cases h)⟩,ho,
   ⟨oi,hoi,stepN_eq.2 ⟨yi,hi' _ _ ?_,rfl⟩,fun h=>(by rw[← ri,addrOf_X (X:=X) (X1:={X with objs:=X.objs.put (base+j) ob}) ho ho rfl];exact r1 h),fun h1 h2 k hk=>sameVer_frame (hdead hnj) (b1 h1 h2 k hk),
     fun h=>(by rw[← ri,addrOf_X (X:=X) (X1:={X with objs:=X.objs.put (base+j) ob}) ho ho rfl];exact s1 h)⟩,hfr⟩
  cases hni:newR rs i oi.op with
  |true=>
   obtain⟨ob2,rfl,hindi⟩:=stepNV_new hni hyi
   have:=hindi {X with objs:=X.objs.put (base+j) ob} rfl
   rw[this];simp only[Option.some.injEq,Prod.mk.injEq,true_and];rw[Hp.put_comm _ _ _ (by omega)]
  |false=>
   rw[stepNV_old hni] at hyi⊢;exact stepV_frame (ob:=ob) hfrm (hdead hnj) hyi
 ·have hnj:=read_noNew (rs:=rs) (k:=j) hrj;have nbj:=read_cases hrj;rw[stepNV_old hnj] at hj;rcases hri with hri|hri
  ·have hn:=read_noNew (rs:=rs) (k:=i) hri;rw[stepNV_old hn] at hyi;obtain⟨rfl,hind⟩:=stepV_read hri ho hyi;obtain⟨rfl,_⟩:=stepV_read hrj ho hj
   exact⟨_,_,_,⟨oj,hoj,stepN_eq.2 ⟨yj,by rw[stepNV_old hnj];exact hj,rfl⟩,fun h=>(by rw[rj];exact r2 h),fun h=>(by rw[nbj] at h;cases h),fun h=>(by rw[rj];exact s2 h)⟩,ho,
    ⟨oi,hoi,stepN_eq.2 ⟨yi,hi' _ _ (by rw[stepNV_old hn];exact hyi),rfl⟩,fun h=>(by rw[← ri];exact r1 h),b1,fun h=>(by rw[← ri];exact s1 h)⟩,hfr⟩
  ·obtain⟨ob,rfl,hindi⟩:=stepNV_new hri hyi;have hnr:=(new_cases (P:=P) (newR_new hri)).2;obtain⟨e,hindj⟩:=stepV_read hrj oi0 hj;subst e
   refine⟨_,X,_,⟨oj,hoj,stepN_eq.2 ⟨yj,?_,rfl⟩,fun h=>(by rw[rj, ← addrOf_X (X:=X) (X1:={X with objs:=X.objs.put (base+i) ob}) ho ho rfl];exact r2 h),fun h=>(by rw[nbj] at h;cases h),fun h=>(by rw[rj, ← addrOf_X (X:=X) (X1:={X with objs:=X.objs.put (base+i) ob}) ho ho rfl];exact s2 h)⟩,ho,
    ⟨oi,hoi,stepN_eq.2 ⟨yi,hi' _ _ hyi,rfl⟩,fun h=>(by rw[hnr] at h;cases h),fun _ h=>(by rw[hri] at h;cases h),fun h=>(by rw[hnr] at h;cases h)⟩,hfr⟩
   rw[stepNV_old hnj];exact hindj X rfl fun k hk=>(getNe _ _ _ _ (by omega) (r2 hrj k (by rw[← rj];exact hk)) (by omega)).symm
 ·have hnj':newR rs j oj.op=false:=by simpa using hnj
  have hni:=read_noNew (rs:=rs) (k:=i) hri;rw[stepNV_old hnj'] at hj;rw[stepNV_old hni] at hyi;obtain⟨e1,hind⟩:=stepV_read hri ho hyi;subst e1;have nb:=read_cases hri;have kj:=stepV_keeps hc hj
  have hre:stepNV P callf ops.toList rs base i oi F Xij=some (yi,Xij):=by
   rw[stepNV_old hni];exact hind Xij kj.ng fun k hk=>sameVer_spec kj (b2 hbj hnj' k (hsv hbj hck k (by rw[← s1 hri];exact hk)))
  exact⟨_,Xij,_,⟨oj,hoj,stepN_eq.2 ⟨yj,by rw[stepNV_old hnj'];exact hj,rfl⟩,fun h=>(by rw[rj];exact r2 h),b2,fun h=>(by rw[rj];exact s2 h)⟩,oj0,
   ⟨oi,hoi,stepN_eq.2 ⟨yi,hi' _ _ hre,rfl⟩,fun h=>(by rw[← ri,addrOf_X ho oj0 kj.ng];exact r1 h),fun h=>(by rw[nb] at h;cases h),fun h=>(by rw[← ri,addrOf_X ho oj0 kj.ng];exact s1 h)⟩,hfr⟩
end
end Go.Xe
namespace Go.Xe
section
variable{P:Program}{B:Nat}{w0 w:World}{E:Env}{ds:List Deferred}
def anyN(P:Program)(callf:CallF)(N:Nat)(ops:Array Oper)(S:Sees)(rs:List Nat)(base:Nat)(G:Tr SV→XW→Prop):Nat→Array Bool→Tr SV→XW→Prop
 |0,listed,F,X=>Region.ready .any ops listed=[]∧G F X
 |n+1,listed,F,X=>(Region.ready .any ops listed=[]→G F X)∧
  ∀i∈Region.ready .any ops listed,∃F' X',StN P callf N ops S rs base i F X F' X'∧anyN P callf N ops S rs base G n (listed.setIfInBounds i true) F' X'
theorem stepN_eqv{callf:CallF}{rs:List Nat}{N base k:Nat}{ops:Array Oper}{o:Oper}{F F' G:Tr SV}{X X':XW}(he:Eqv F F')(h:stepN P callf N ops.toList rs base k o F X=some (G,X')):
 ∃G',stepN P callf N ops.toList rs base k o F' X=some (G',X')∧Eqv G G':=by
 obtain⟨y,hy,rfl⟩:=stepN_eq.1 h;exact⟨_,stepN_eq.2 ⟨y,by rw[← stepNV_look (fun t _=>he t)];exact hy,rfl⟩,put_eqv he _ _⟩
theorem anyN_eqv{callf:CallF}{S:Sees}{rs:List Nat}{N base:Nat}{ops:Array Oper}{G:Tr SV→XW→Prop}(hG:∀F F' X,Eqv F F'→G F X→G F' X):
 ∀(n:Nat) (listed:Array Bool) (F F':Tr SV) (X:XW),Eqv F F'→anyN P callf N ops S rs base G n listed F X→anyN P callf N ops S rs base G n listed F' X
 |0,_,_,_,_,he,h=>⟨h.1,hG _ _ _ he h.2⟩
 |n+1,listed,F,F',X,he,h=>⟨fun hr=>hG _ _ _ he (h.1 hr),fun i hi=>by
   obtain⟨F1,X1,⟨o,ho,h1,hr,hb,hs⟩,h2⟩:=h.2 i hi;obtain⟨G',h3,h4⟩:=stepN_eqv he h1
   exact⟨G',X1,⟨o,ho,h3,fun h=>(by rw[← addrOf_look (fun t _=>he t)];exact hr h),hb,fun h=>(by rw[← addrOf_look (fun t _=>he t)];exact hs h)⟩,anyN_eqv hG n _ _ _ _ h4 h2⟩⟩
theorem stepOKN_spec{rs:List Nat}{chk:List (Nat×List Nat)}{ops:Array Oper}{listed0:Array Bool}{i:Nat}{oi:Oper}{r:List Bool}(hi:ops[i]?=some oi)(h:stepOKN P rs chk ops listed0 i r=true){j:Nat}{oj:Oper}(hj:ops[j]?=some oj)(hne:j≠i):
 (r.getD j false=true∧(listed0.getD j true=true∨(oi.apart ops oj=true∧compatN P rs chk i j oi.op oj.op=true)))∨
 (r.getD j false=false∧listed0.getD j true=false∧∃e∈oj.after,Region.binds .any e=true∧r.getD e.on false=false):=by
 unfold stepOKN at h;simp only[hi,List.all_eq_true,List.mem_range] at h;have hlt:=(Array.getElem?_eq_some_iff.1 hj).1
 have:=h j hlt
 simp only[hj] at this;have hb:(j==i)=false:=by simpa using hne
 simp only[hb,Bool.false_or] at this;cases hr:r.getD j false with
 |true=>
  simp only[hr,cond_true,Bool.or_eq_true,Bool.and_eq_true] at this;exact .inl ⟨rfl,this⟩
 |false=>
  simp only[hr,cond_false,Bool.and_eq_true,Bool.not_eq_true',Array.any_eq_true'] at this;obtain⟨h1,e,he,h2,h3⟩:=this;exact .inr ⟨rfl,h1,e,he,h2,h3⟩
def Kept(ops:Array Oper)(rs:List Nat)(base:Nat)(listed:Array Bool)(X:XW):Prop:=
 ∀j oj,ops[j]?=some oj→listed.getD j true=false→newR rs j oj.op=true→Free X (base+j)
theorem Kept.step{callf:CallF}(hc:KeepsOK callf){S:Sees}{rs:List Nat}{N base:Nat}{ops:Array Oper}{i:Nat}{listed:Array Bool}{F F':Tr SV}{X X':XW}(h:Kept ops rs base listed X)(hs:StN P callf N ops S rs base i F X F' X'):
 Kept ops rs base (listed.setIfInBounds i true) X':=by
 intro j oj hoj hj hn;have hlt:=(Array.getElem?_eq_some_iff.1 hoj).1
 have hj2:listed.getD j true=false∧j≠i:=by
  by_cases e:i=j
  ·subst e
   exfalso
   rcases Nat.lt_or_ge i listed.size with h'|h'
   ·simp[h'] at hj
   ·simp at hj
  ·rw[getD_set_ne true e] at hj;exact⟨hj,fun e'=>e e'.symm⟩
 have hf:=h j oj hoj hj2.1 hn;obtain⟨o,ho,hst,_⟩:=hs;obtain⟨y,hy,_⟩:=stepN_eq.1 hst;cases hni:newR rs i o.op with
 |true=>
  obtain⟨ob,rfl,_⟩:=stepNV_new hni hy;refine⟨?_,hf.lt⟩;show(X.objs.put (base+i) ob).get (base+j)=none;cases hg:(X.objs.put (base+i) ob).get (base+j) with
  |none=>rfl
  |some b=>
   rcases Hp.get_put_some hg with⟨e,_⟩|⟨_,h2⟩
   ·omega
   ·rw[hf.dead] at h2;cases h2
 |false=>
  rw[stepNV_old hni] at hy;exact hf.keeps (stepV_keeps hc hy)
theorem anyN_first{callf:CallF}(hfrm:FrameOK callf)(hc:KeepsOK callf){S:Sees}{chk:List (Nat×List Nat)}{rs:List Nat}{N base:Nat}{ops:Array Oper}{G:Tr SV→XW→Prop}(hG:∀F F' X,Eqv F F'→G F X→G F' X){i:Nat}{oi:Oper}(hi:ops[i]?=some oi)
 {listed0:Array Bool}{r:List Bool}(hok:stepOKN P rs chk ops listed0 i r=true)
 (hsv:∀j oj,ops[j]?=some oj→listed0.getD j true=false→j≠i→isBar P oj.op=true→hasNat (chkOf chk j) i=true→∀k,S.obj i=some k→sameVer (S.pre j) (S.post j) k=true):
 ∀(n:Nat) (listed:Array Bool) (F Fi:Tr SV) (X Xi:XW),Inv ops i listed0 r listed→Kept ops rs base listed X→i∈Region.ready .any ops listed→X.orc=[]→StN P callf N ops S rs base i F X Fi Xi→
  anyN P callf N ops S rs base G n (listed.setIfInBounds i true) Fi Xi→anyN P callf N ops S rs base G (n+1) listed F X:=by
 intro n
 induction n with
 |zero=>
  intro listed F Fi X Xi _ _ hr _ hs H;refine⟨fun h=>(by rw[h] at hr;cases hr),fun j hj=>?_⟩;by_cases hji:j=i
  ·subst hji;exact⟨Fi,Xi,hs,H⟩
  ·have:=ready_mono hj hji
   rw[H.1] at this;cases this
 |succ n ih=>
  intro listed F Fi X Xi inv hkept hr ho hs H;refine⟨fun h=>(by rw[h] at hr;cases hr),fun j hj=>?_⟩;by_cases hji:j=i
  ·subst hji;exact⟨Fi,Xi,hs,H⟩
  ·obtain⟨Fij,Xij,h1,h2⟩:=H.2 j (ready_mono hj hji);obtain⟨hjun,oj,hoj,hall⟩:=mem_ready.1 hj
   have hj0:listed0.getD j true=false:=by
    cases h:listed0.getD j true with
    |false=>rfl
    |true=>have:=inv.more j h;rw[hjun] at this;cases this
   have hcase:=stepOKN_spec hi hok hoj hji
   have hRj:r.getD j false=true∧oi.apart ops oj=true∧compatN P rs chk i j oi.op oj.op=true:=by
    rcases hcase with⟨h3,h4⟩|⟨_,_,e,he,hb,hn⟩
    ·rcases h4 with h4|h4
     ·rw[hj0] at h4;cases h4
     ·exact⟨h3,h4⟩
    ·have:=inv.inR _ (hall e he hb);rw[hn] at this;cases this
   obtain⟨Fj,Xj,Fji,k1,k2,k3,k4⟩:=step_commN hfrm hc (fun e=>hji e.symm) hi hoj hRj.2.1 hRj.2.2 (hsv j oj hoj hj0 hji) (hkept j oj hoj hjun) ho hs h1;refine⟨Fj,Xj,k1,?_⟩;refine ih (listed.setIfInBounds j true) Fj Fji Xj Xij ⟨fun k hk=>?_,fun k hk=>?_⟩ (hkept.step hc k1) (ready_mono hr (Ne.symm hji)) k2 k3 ?_
   ·by_cases e:j=k
    ·subst e;exact hRj.1
    ·rw[getD_set_ne false e] at hk;exact inv.inR k hk
   ·by_cases e:j=k
    ·subst e;have:=inv.more j hk;rw[hjun] at this;cases this
    ·rw[getD_set_ne true e];exact inv.more k hk
   ·rw[Array.setIfInBounds_comm _ _ hji];exact anyN_eqv hG n _ _ _ _ k4 h2
theorem lexN_cov{rs:List Nat}{chk:List (Nat×List Nat)}{ops:Array Oper}:∀(ks:List Nat) (listed:Array Bool),lexOKN P rs chk ops ks listed=true→∀j,listed.getD j true=false→j∈ks
 | [],listed,h,j,hj=>by
   simp only[lexOKN,Array.all_eq_true_iff_forall_mem] at h;rcases Nat.lt_or_ge j listed.size with h'|h'
   ·have:=h listed[j] (Array.getElem_mem h')
    simp only[id] at this;simp[h',this] at hj
   ·simp[Array.getElem?_eq_none h'] at hj
 |k::ks,listed,h,j,hj=>by
  simp only[lexOKN,Bool.and_eq_true] at h;obtain⟨⟨⟨hr,hnr⟩,hst⟩,hl2⟩:=h;by_cases e:j=k
  ·subst e;exact List.mem_cons_self ..
  ·refine List.mem_cons_of_mem _ (lexN_cov ks _ hl2 j ?_);rw[getD_set_ne true (fun e'=>e e'.symm)];exact hj
theorem anyN_sees{callf:CallF}{N:Nat}{ops:Array Oper}{S S':Sees}{rs:List Nat}{base:Nat}{G:Tr SV→XW→Prop}:
 ∀(n:Nat) (listed:Array Bool) (F:Tr SV) (X:XW),(∀i,listed.getD i true=false→S'.pre i=S.pre i∧S'.post i=S.post i∧S'.obj i=S.obj i)→anyN P callf N ops S rs base G n listed F X→anyN P callf N ops S' rs base G n listed F X
 |0,_,_,_,_,h=>h
 |n+1,listed,F,X,hs,h=>⟨h.1,fun i hi=>by
   obtain⟨F1,X1,⟨o,ho,h1,hr,hb,hs'⟩,h2⟩:=h.2 i hi;obtain⟨e1,e2,e3⟩:=hs i (mem_ready.1 hi).1;refine⟨F1,X1,⟨o,ho,h1,hr,fun h=>by rw[e1,e2];exact hb h,fun h=>by rw[e3];exact hs' h⟩,anyN_sees n _ _ _ (fun j hj=>hs j ?_) h2⟩;by_cases e:i=j
   ·subst e;exact(mem_ready.1 hi).1
   ·rw[getD_set_ne true e] at hj;exact hj⟩
theorem lexN_unlisted{rs:List Nat}{chk:List (Nat×List Nat)}{ops:Array Oper}:∀(ks:List Nat) (listed:Array Bool),lexOKN P rs chk ops ks listed=true→(∀j∈ks,listed.getD j true=false)
 | [],listed,h,j,hj=>by cases hj
 |k::ks,listed,h,j,hj=>by
  simp only[lexOKN,Bool.and_eq_true] at h;obtain⟨⟨⟨hr,hnr⟩,hst⟩,hl2⟩:=h;have hr':k∈Region.ready .any ops listed:=by simpa using hr
  have hk:=(mem_ready.1 hr').1;rcases List.mem_cons.1 hj with rfl|hj
  ·exact hk
  ·exact(getD_set_true (lexN_unlisted ks _ hl2 j hj)).1
theorem anyN_lex{callf:CallF}(hfrm:FrameOK callf)(hc:KeepsOK callf){rs:List Nat}{chk:List (Nat×List Nat)}{N base:Nat}{ops:Array Oper}{F':Tr SV}{X':XW}:∀(ks:List Nat) (recs:List (Nat×Option Nat)) (listed:Array Bool) (F:Tr SV) (X:XW),listed.size=ops.size→Kept ops rs base listed X→X.orc=[]→
 lexOKN P rs chk ops ks listed=true→evN P callf N ops.toList rs chk base ks recs F X=some (F',X')→∃S:Sees,anyN P callf N ops S rs base (fun F1 X1=>Eqv F' F1∧X1=X') ks.length listed F X∧
  ∀i,i ∉ ks→∀k,findK recs i=some k→∀j oj,j∈ks→ops[j]?=some oj→isBar P oj.op=true→hasNat (chkOf chk j) i=true→sameVer (S.pre j) (S.post j) k=true
 | [],recs,listed,F,X,_,_,_,hl,h=>by
   simp only[evN,Option.some.injEq,Prod.mk.injEq] at h;obtain⟨rfl,rfl⟩:=h;refine⟨⟨fun _=>X,fun _=>X,fun _=>none⟩,⟨?_,Eqv.refl _,rfl⟩,fun i _ k _ j oj hj=>by cases hj⟩
   have:=lexN_cov [] listed hl
   cases hr:Region.ready .any ops listed with
   |nil=>rfl
   |cons a az=>
    have ha:a∈Region.ready .any ops listed:=by rw[hr];exact List.mem_cons_self ..
    have:=this a (mem_ready.1 ha).1
    cases this
 |k::ks,recs,listed,F,X,hsz,hkept,ho,hl,h=>by
  have hun:=lexN_unlisted (k::ks) listed hl;have hcov:=lexN_cov (k::ks) listed hl;simp only[evN] at h;split at h<;>try(cases h;done)
  rename_i o hok;cases hlr:lowRead P ops.toList base o F X with
  |false=>rw[hlr] at h;cases h
  |true=>
   rw[hlr] at h;simp only[cond_true] at h;split at h<;>try(cases h;done)
   rename_i F1 X1 hs;cases hck:chkOK recs X X1 (chkOf chk k) with
   |false=>rw[hck] at h;cases h
   |true=>
   rw[hck] at h;simp only[cond_true] at h;simp only[lexOKN,Bool.and_eq_true] at hl;obtain⟨⟨⟨hr,hnr⟩,hst⟩,hl2⟩:=hl;have hk:ops[k]?=some o:=by simpa using hok
   have hr':k∈Region.ready .any ops listed:=by simpa using hr
   have ho1:X1.orc=[]:=by
    obtain⟨y,hy,_⟩:=stepN_eq.1 hs;exact(stepN_orc hc hy).1 ho
   have hst1:∀S:Sees,S.pre k=X→S.post k=X1→S.obj k=(bif isRead P o.op then addrOf ops.toList o F X else none)→StN P callf N ops S rs base k F X F1 X1:=fun S e1 e2 e3=>⟨o,hk,hs,fun hrd j hj=>by
    unfold lowRead at hlr;rw[hrd] at hlr;simp only[cond_true,hj] at hlr;rw[Nat.blt_eq] at hlr
    exact hlr,fun _ _ k' hk'=>by rw[e1,e2] at hk';exact hk',fun hrd=>by rw[e3,hrd];rfl⟩
   have hkept1:Kept ops rs base (listed.setIfInBounds k true) X1:=hkept.step hc (hst1 ⟨fun _=>X,fun _=>X1,fun _=>bif isRead P o.op then addrOf ops.toList o F X else none⟩ rfl rfl rfl);obtain⟨S0,hany,hrec⟩:=anyN_lex hfrm hc ks _ _ F1 X1 (by simpa using hsz) hkept1 ho1 hl2 h;have hun2:=lexN_unlisted ks _ hl2;have hkks:k ∉ ks:=fun hmem=>(getD_set_true (hun2 k hmem)).2 rfl
   have hne:∀j,j∈ks→j≠k:=fun j hj e=>hkks (e▸hj)
   let S:Sees:=S0.set k X X1 (bif isRead P o.op then addrOf ops.toList o F X else none)
   have hS:∀j,j≠k→S.pre j=S0.pre j∧S.post j=S0.post j∧S.obj j=S0.obj j:=fun j hj=>⟨if_neg hj,if_neg hj,if_neg hj⟩
   have hSk:S.pre k=X∧S.post k=X1∧S.obj k=(bif isRead P o.op then addrOf ops.toList o F X else none):=⟨if_pos rfl,if_pos rfl,if_pos rfl⟩;refine⟨S,?_,?_⟩
   ·have hany':anyN P callf N ops S rs base (fun F1 X1=>Eqv F' F1∧X1=X') ks.length (listed.setIfInBounds k true) F1 X1:=anyN_sees ks.length _ _ _ (fun j hj=>hS j (getD_set_true hj).2) hany;refine anyN_first hfrm hc (fun F F1 X he hg=>⟨hg.1.trans he,hg.2⟩) hk hst ?_ ks.length listed F F1 X X1 ⟨fun j hj=>?_,fun j hj=>hj⟩ hkept hr' ho (hst1 S hSk.1 hSk.2.1 hSk.2.2) hany'
    ·intro j oj hoj hj0 hjk hb hn k' hk';rw[hSk.2.2] at hk'
     have hjm:j∈ks:=by
      rcases List.mem_cons.1 (hcov j hj0) with e|e
      ·exact absurd e hjk
      ·exact e
     obtain⟨e1,e2,_⟩:=hS j hjk;rw[e1,e2];cases hrd:isRead P o.op with
     |true=>
      rw[hrd] at hk';simp only[cond_true] at hk';refine hrec k hkks k' ?_ j oj hjm hoj hb hn;simp only[hrd,cond_true,findK];rw[hk']
      have:Nat.beq k k=true:=by simp
      rw[this];rfl
     |false=>rw[hrd] at hk';cases hk'
    ·have hun':=(mem_ready.1 hr').1;by_cases hjk:j=k
     ·subst hjk;rcases Nat.lt_or_ge j listed.size with h'|h'
      ·simp[h'] at hun' hj;rw[hun'] at hj;cases hj
      ·simp[Array.getElem?_eq_none h'] at hj
     ·cases hoj:ops[j]? with
      |none=>
       exfalso
       rcases Nat.lt_or_ge j listed.size with h'|h'
       ·rw[hsz] at h';rw[Array.getElem?_eq_none_iff] at hoj;omega
       ·simp[Array.getElem?_eq_none h'] at hj
      |some oj=>
       rcases stepOKN_spec hk hst hoj hjk with⟨h1,_⟩|⟨_,h1,_⟩
       ·exact h1
       ·rcases Nat.lt_or_ge j listed.size with h'|h'
        ·simp[h'] at h1 hj;rw[h1] at hj;cases hj
        ·simp[Array.getElem?_eq_none h'] at hj
   ·intro i hi k' hk' j oj hj hoj hb hn;have hik:i≠k:=fun e=>hi (by rw[e];exact List.mem_cons_self ..)
    rcases List.mem_cons.1 hj with rfl|hj
    ·rw[hSk.1,hSk.2.1];exact chkOK_spec hck i hn k' hk'
    ·obtain⟨e1,e2,_⟩:=hS j (hne j hj);rw[e1,e2];refine hrec i (fun h=>hi (List.mem_cons_of_mem _ h)) k' ?_ j oj hj hoj hb hn;cases isRead P o.op with
     |true=>
      simp only[cond_true,findK]
      have:Nat.beq k i=false:=by
       cases h:Nat.beq k i with
       |false=>rfl
       |true=>exact absurd (Nat.eq_of_beq_eq_true h).symm hik
      rw[this];exact hk'
     |false=>exact hk'
theorem stepN_pc{callf:CallF}(hcall:CallOK P callf){rs:List Nat}{N base k:Nat}{ops:List Oper}{o:Oper}{F F':Tr SV}{X X':XW}(h:stepN P callf N ops rs base k o F X=some (F',X'))(hp:Pc X'):Pc X:=by
 obtain⟨y,hy,rfl⟩:=stepN_eq.1 h;cases hn:newR rs k o.op with
 |true=>obtain⟨ob,rfl,_⟩:=stepNV_new hn hy;exact hp
 |false=>
  rw[stepNV_old hn] at hy;exact step_pc (N:=N) hcall (stepE_eq.2 ⟨y,hy,rfl⟩) hp
theorem anyN_pc{callf:CallF}(hcall:CallOK P callf){S:Sees}{rs:List Nat}{N base:Nat}{ops:Array Oper}{G:Tr SV→XW→Prop}(hG:∀F X,G F X→Pc X):∀(n:Nat) (listed:Array Bool) (F:Tr SV) (X:XW),anyN P callf N ops S rs base G n listed F X→Pc X
 |0,_,_,_,h=>hG _ _ h.2
 |n+1,listed,F,X,h=>by
  cases hr:Region.ready .any ops listed with
  |nil=>exact hG _ _ (h.1 hr)
  |cons i is=>
   obtain⟨F1,X1,⟨o,_,h1,_⟩,h2⟩:=h.2 i (by rw[hr];exact List.mem_cons_self ..);exact stepN_pc hcall h1 (anyN_pc hcall hG n _ _ _ h2)
def Env.cut(E:Env)(b:Nat):Env:={f:=fun k=>if k<b then E k else none,n:=b}
theorem den_low{b:Nat}{y:SV}{v:Value}(hl:lowV b y=true){m:Nat}(hm:b≤m)(h:Den E y v):Den (E.cut m) y v:=by
 cases y with
 |val x=>exact h
 |int k n=>exact h
 |bool b=>exact h
 |str s=>exact h
 |ptr k off=>
  obtain⟨id,c,hk,rfl⟩:=h
  have:k<b:=by simp only[lowV] at hl;rw[Nat.blt_eq] at hl;exact hl
  exact⟨id,c,by show(if k<m then E k else none)=_;rw[if_pos (by omega)];exact hk,rfl⟩
 |sl k off len cap lo=>
  have:k<b:=by simp only[lowV] at hl;rw[Nat.blt_eq] at hl;exact hl
  have hcut:(E.cut m) k=E k:=if_pos (by omega);cases cap with
  |none=>obtain⟨id,c,⟨hk,hc⟩,rfl⟩:=h;exact⟨id,c,⟨by rw[hcut];exact hk,hc⟩,rfl⟩
  |some cap=>obtain⟨id,c,hk,rfl⟩:=h;exact⟨id,c,by rw[hcut];exact hk,rfl⟩
 |fn f a b=>simp[lowV] at hl
 |ifc t x=>simp[lowV] at hl
 |agg cs=>simp[lowV] at hl
 |tup cs=>simp[lowV] at hl
 |yld k=>simp[lowV] at hl
 |mp k=>simp[lowV] at hl
 |se k=>simp[lowV] at hl
theorem denL_low{b m:Nat}(hm:b≤m):∀{ys:List SV} {vs:List Value},lowL b ys=true→DenL E ys vs→DenL (E.cut m) ys vs
 | [],_,_,h=>h
 |y::ys,_,hl,⟨v,vs,hv,h,e⟩=>by
  simp only[lowL,Bool.and_eq_true] at hl;exact⟨v,vs,den_low hl.1 hm hv,denL_low hm hl.2 h,e⟩
theorem newAt_good{o:Oper}{a:Act}{vals:List SV}{X X':XW}{y:SV}{base m:Nat}(hE:Emb P B w0 X E w)(hn:isNew o.op=true)(hv:DenL E vals (o.op.operands.toList.map a.eval))(hlow:lowL base vals=true)
 (hbm:base≤m)(hng:X.ng≤base)(hmn:m<X.next)(hfree:E m=none)(h:sem P o.op vals {X with next:=m}=some (y,X'))(hp:Pc X):
 ∃id c v w',((execOp a.eval o).run P w= .ok (.value v) w'∨((execOp a.eval o).run P w= .ok .skip w'∧v=undef))∧Den (E.put m id c) y v∧Emb P B w0 {X' with next:=X.next} (E.put m id c) w':=by
 obtain⟨ob,hX',hro,hind⟩:=new_sem hn h
 let Xr:XW:={X with objs:={tr:= .nil,base:=fun _=>none},next:=m}
 have hr:sem P o.op vals Xr=some (y,(Xr.new ob).2):=hind Xr rfl
 have hEr:Emb P w.heap.size w Xr (E.cut m) w:=by
  refine⟨rfl,rfl,rfl,Nat.le_refl _,fun _ _=>rfl,fun k o hk=>(by cases hk),fun k k' o o' id c c' hk=>(by cases hk),fun k hk=>if_neg (Nat.not_lt.2 hk),fun g hg=>?_,Nat.le_refl _⟩;obtain⟨c,hc⟩:=hE.glob g hg
  have:g<X.ng:=hg
  exact⟨c,by show(if g<m then E g else none)=_;rw[if_pos (by omega)];exact hc⟩
 obtain⟨E',v,w',hle,hrun,hd,hE'⟩:=sem_sound hEr (denL_low hbm hlow hv) (show Pc (Xr.new ob).2 from hp) hr
 have hget:(Xr.new ob).2.objs.get m=some ob:=by
  show(Hp.put _ m ob).get m=some ob;rw[Hp.get_put,if_pos rfl]
 obtain⟨id,c,hid,hrel,hBid⟩:=hE'.obj m ob hget
 have hsub:Sub E' (E.put m id c):=fun k x hx=>by
  rcases Nat.lt_trichotomy k m with hk|hk|hk
  ·rw[Env.put_ne E id c (by omega), ← show E.cut m k=E k from if_pos hk, ← hle.2.2 k hk];exact hx
  ·subst hk;rw[Env.put_same, ← hid];exact hx
  ·rw[hE'.fresh k hk] at hx;cases hx
 have hsubE:Sub E (E.put m id c):=Env.sub_put hfree
 have hlive:∀k o',X.objs.get k=some o'→∀i c',E k=some (i,c')→i<w.heap.size:=by
  intro k o' hk i c' he;obtain⟨i',c2,he',hrel',_⟩:=hE.obj k o' hk;obtain⟨_,hobj⟩:=hrel'.there;rw[he] at he';cases he';rcases Nat.lt_or_ge i w.heap.size with h1|h1
  ·exact h1
  ·rw[Array.getElem?_eq_none h1] at hobj;cases hobj
 have hidB:=hBid (.inl hro);subst hX'
 refine⟨id,c,v,w',hrun,hd.sub hsub,hE'.os.trans hE.os,hE'.tape.trans hE.tape,hE'.output.trans hE.output,Nat.le_trans hE.base hE'.base,fun k hk=>(hE'.old k (Nat.lt_of_lt_of_le hk hE.base)).trans (hE.old k hk),fun k o' hk=>?_,
  fun k k' o1 o2 i c1 c2 hk hk' he he'=>?_,fun k hk=>?_,fun g hg=>let ⟨c',hc'⟩:=hE.glob g hg;⟨c',hsubE _ _ hc'⟩,hE.nle⟩
 ·rcases Hp.get_put_some hk with⟨e,e2⟩|⟨e,ho⟩
  ·subst e2;rw[e];exact⟨id,c,Env.put_same _ _ _ _,hrel.sub hsub,fun _=>Nat.le_trans hE.base hidB⟩
  ·obtain⟨i,c',he,hr2,hb⟩:=hE.obj k o' ho;exact⟨i,c',hsubE _ _ he,by rw[hE'.old i (hlive k o' ho i c' he)];exact hr2.sub hsubE,hb⟩
 ·rcases Hp.get_put_some hk with⟨e,_⟩|⟨e,ho⟩<;>rcases Hp.get_put_some hk' with⟨e',_⟩|⟨e',ho'⟩
  ·have e1:k=m:=e;have e2:k'=m:=e';rw[e1,e2]
  ·have e1:k=m:=e;rw[e1,Env.put_same] at he;cases he;have e2:k'≠m:=e';rw[Env.put_ne E id c e2] at he'
   have:=hlive k' o2 ho' _ _ he'
   omega
  ·have e1:k'=m:=e';rw[e1,Env.put_same] at he';cases he';have e2:k≠m:=e;rw[Env.put_ne E id c e2] at he
   have:=hlive k o1 ho _ _ he
   omega
  ·have e1:k≠m:=e;have e2:k'≠m:=e';rw[Env.put_ne E id c e1] at he;rw[Env.put_ne E id c e2] at he';exact hE.inj k k' o1 o2 i c1 c2 ho ho' he he'
 ·have hk2:X.next≤k:=hk
  rw[Env.put_ne E id c (by omega)];exact hE.fresh k hk2
theorem stepNV_next{callf:CallF}(hc:KeepsOK callf){rs:List Nat}{base k:Nat}{ops:List Oper}{o:Oper}{F:Tr SV}{X X':XW}{y:SV}(h:stepNV P callf ops rs base k o F X=some (y,X')):X.next≤X'.next:=by
 cases hn:newR rs k o.op with
 |true=>obtain⟨ob,rfl,_⟩:=stepNV_new hn h;exact Nat.le_refl _
 |false=>
  rw[stepNV_old hn] at h;exact(stepV_keeps hc h).next
theorem wpAny_of_anyN{callf:CallF}(hc:KeepsOK callf)(hcall:CallOK P callf){S:Sees}{rs:List Nat}{N base:Nat}{ops:Array Oper}(hsel:∀o∈ops,noSel o.op=true){G:Tr SV→XW→Prop}(hG:∀F X,G F X→Pc X)(ro:Option Nat)
 {Q:Exit→Act→World→Prop}:∀(n:Nat) (listed:Array Bool) (F:Tr SV) (X:XW) (E:Env) (a:Act) (w:World),anyN P callf N ops S rs base G n listed F X→Emb P B w0 X E w→FrRel ds N E F a→X.orc=[]→
   (∀i o,listed.getD i true=false→ops[i]?=some o→newR rs i o.op=true→E (base+i)=none)→E.n=base+ops.size→base+ops.size≤X.next→X.ng≤base→
   (∀F1 X1 E' a' w',G F1 X1→Sub E E'→(∀k,k<base→E' k=E k)→E'.n=E.n→FrRel ds N E' F1 a'→Emb P B w0 X1 E' w'→Q .normal a' w')→wpAnyIn (wideR ro) 0 P .any ops Q n listed a w
 |0,_,F,X,E,a,w,h,hE,hF,_,_,_,_,_,hQ=>⟨h.1,hQ F X E a w h.2 (Sub.refl _) (fun _ _=>rfl) rfl hF hE⟩
 |n+1,listed,F,X,E,a,w,h,hE,hF,horc,hres,hEn,hXn,hng,hQ=>by
  refine⟨fun hr=>hQ F X E a w (h.1 hr) (Sub.refl _) (fun _ _=>rfl) rfl hF hE,fun i hi=>?_⟩;obtain⟨F1,X1,⟨o,ho,h1,_⟩,h2⟩:=h.2 i hi;have hmem:=Array.mem_of_getElem? ho;have hilt:=(Array.getElem?_eq_some_iff.1 ho).1;have hun:=(mem_ready.1 hi).1;obtain⟨y,hy,rfl⟩:=stepN_eq.1 h1;have hpc:=anyN_pc hcall hG n _ _ _ h2;have hnext:=stepNV_next hc hy;obtain⟨ko,kn⟩:=stepN_orc hc hy;unfold wpOpIn;simp only[ho];cases hn:newR rs i o.op with
  |false=>
   rw[stepNV_old hn] at hy;refine step_sound (N:=N) hcall hE hF (hsel o hmem) (stepE_eq.2 ⟨y,hy,rfl⟩) hpc ro (fun E' a' w' a1 a2 a3=>?_);refine wpAny_of_anyN hc hcall hsel hG ro n _ _ X1 E' a' w' h2 a3 a2 (ko horc) (fun j oj hj hoj hnj=>?_) (a1.1.trans hEn) (Nat.le_trans hXn hnext) (by rw[kn];exact hng) (fun F2 X2 E'' a'' w'' b1 b2 b3 b4=>hQ F2 X2 E'' a'' w'' b1 (a1.sub.trans b2) (fun k hk=>(b3 k hk).trans (a1.2.2 k (by omega))) (b4.trans a1.1));have hjlt:=(Array.getElem?_eq_some_iff.1 hoj).1;rw[a1.2.2 (base+j) (by omega)];exact hres j oj (getD_set_true hj).1 hoj hnj
  |true=>
   have hy':=hy;unfold stepNV at hy';simp only[hn,cond_true] at hy';split at hy'<;>try(cases hy';done)
   rename_i hgd;split at hy'<;>try(cases hy';done)
   rename_i vals hl;cases hlow:lowL base vals with
   |false=>simp[hlow] at hy'
   |true=>
   simp only[hlow,cond_true] at hy';split at hy'<;>try(cases hy';done)
   rename_i y2 X2 hs;cases hy';have hpcX:Pc X:=stepN_pc hcall h1 hpc;obtain⟨id,c,v,w',hrun,hd,hE2⟩:=newAt_good (a:=a) hE (newR_new hn) (looks_sound hE hF hl) hlow (by omega) hng (by omega) (hres i o hun ho hn) hs hpcX;have hfree:=hres i o hun ho hn;have hsub:Sub E (E.put (base+i) id c):=Env.sub_put hfree;have hF2:FrRel ds N (E.put (base+i) id c) F a:=⟨hF.1,hF.2.1,fun j z hj=>let ⟨l,u,g1,g2⟩:=hF.2.2 j z hj;⟨l,u,g1,g2.sub hsub⟩⟩
   have hK:wpAnyIn (wideR ro) 0 P .any ops Q n (listed.setIfInBounds i true) (a.put o.dst v) w':=by
    refine wpAny_of_anyN hc hcall hsel hG ro n _ _ _ _ _ w' h2 hE2 (hF2.put hd) (ko horc) (fun j oj hj hoj hnj=>?_) hEn (Nat.le_trans hXn hnext) (by rw[kn];exact hng) (fun F2 X2 E'' a'' w'' b1 b2 b3 b4=>hQ F2 X2 E'' a'' w'' b1 (hsub.trans b2) (fun k hk=>(b3 k hk).trans (Env.put_ne E id c (by omega))) b4);obtain⟨g1,g2⟩:=getD_set_true hj;rw[Env.put_ne E id c (by omega)];exact hres j oj g1 hoj hnj
   have hw:Region.wanted o (yielded ops a.tmps)=true:=by simp[Region.wanted,hgd]
   rw[if_pos hw];refine⟨fun _ _=>trivial,?_⟩
   have hsem:o.semAt (wideR ro).round a.eval=execOp a.eval o:=by
    cases ro with
    |none=>rfl
    |some l=>exact Oper.semAt_some l _ o (fun c hc=>by have hn2:=newR_new hn;rw[hc] at hn2;cases hn2)
   rw[hsem];rcases hrun with h|⟨h,e⟩
   ·rw[h];exact hK
   ·rw[h];subst e;exact hK
structure KeepsTo (b:Nat) (X X':XW):Prop where
 orc:X.orc=[]→X'.orc=[]
 ng:X'.ng=X.ng
 ver:∀k o o',k<b→X.objs.get k=some o→X'.objs.get k=some o'→o.ver≤o'.ver∧(o'.ver=o.ver→o'=o)
 dead:∀k,k<b→X.objs.get k=none→X'.objs.get k=none
 pc:Pc X'→Pc X
theorem KeepsTo.trans{b:Nat}{X Y Z:XW}(h:KeepsTo b X Y)(h':KeepsTo b Y Z):KeepsTo b X Z:=by
 refine⟨fun ho=>h'.orc (h.orc ho),h'.ng.trans h.ng,fun k o o' hk ho ho'=>?_,fun k hk hd=>h'.dead k hk (h.dead k hk hd),fun p=>h.pc (h'.pc p)⟩;cases hy:Y.objs.get k with
 |none=>have:=h'.dead k hk hy;rw[ho'] at this;cases this
 |some oy=>
  obtain⟨a1,a2⟩:=h.ver k o oy hk ho hy;obtain⟨b1,b2⟩:=h'.ver k oy o' hk hy ho';exact⟨Nat.le_trans a1 b1,fun e=>by rw[b2 (by omega),a2 (by omega)]⟩
theorem stepNV_keeps{callf:CallF}(hc:KeepsOK callf){rs:List Nat}{base k:Nat}{ops:List Oper}{o:Oper}{F:Tr SV}{X X':XW}{y:SV}(hb:base≤X.next)(h:stepNV P callf ops rs base k o F X=some (y,X')):KeepsTo base X X'∧base≤X'.next:=by
 cases hn:newR rs k o.op with
 |true=>
  obtain⟨ob,rfl,_⟩:=stepNV_new hn h;refine⟨⟨fun h=>h,rfl,fun j a b hj h h'=>?_,fun j hj h=>?_,fun h=>h⟩,hb⟩
  ·rcases Hp.get_put_some h' with⟨e,_⟩|⟨_,h2⟩
   ·omega
   ·rw[h] at h2;cases h2;exact⟨Nat.le_refl _,fun _=>rfl⟩
  ·show(X.objs.put (base+k) ob).get j=none;cases h':(X.objs.put (base+k) ob).get j with
   |none=>rfl
   |some b=>
    rcases Hp.get_put_some h' with⟨e,_⟩|⟨_,h2⟩
    ·omega
    ·rw[h] at h2;cases h2
 |false=>
  rw[stepNV_old hn] at h;have k:=stepV_keeps hc h;exact⟨⟨k.orc,k.ng,fun j a b hj=>k.ver j a b (by omega),fun j hj=>k.dead j (by omega),k.pc⟩,Nat.le_trans hb k.next⟩
theorem evN_keeps{callf:CallF}(hc:KeepsOK callf){rs:List Nat}{chk:List (Nat×List Nat)}{N base:Nat}{ops:List Oper}:∀{ks:List Nat} {recs:List (Nat×Option Nat)} {F F':Tr SV} {X X':XW},base≤X.next→evN P callf N ops rs chk base ks recs F X=some (F',X')→KeepsTo base X X'∧base≤X'.next
 | [],_,_,_,_,_,hb,h=>by
   simp only[evN,Option.some.injEq,Prod.mk.injEq] at h;obtain⟨rfl,rfl⟩:=h;exact⟨⟨fun h=>h,rfl,fun k o o' _ h h'=>(by rw[h] at h';cases h';exact⟨Nat.le_refl _,fun _=>rfl⟩),fun _ _ h=>h,fun h=>h⟩,hb⟩
 |k::ks,recs,F,F',X,X',hb,h=>by
  simp only[evN] at h;split at h<;>try(cases h;done)
  rename_i o _;generalize lowRead P ops base o F X=b at h;cases b with
  |false=>cases h
  |true=>
   simp only[cond_true] at h;split at h<;>try(cases h;done)
   rename_i F1 X1 hs;generalize chkOK recs X X1 (chkOf chk k)=b at h;cases b with
   |false=>cases h
   |true=>
   simp only[cond_true] at h;obtain⟨y,hy,_⟩:=stepN_eq.1 hs;obtain⟨k1,k2⟩:=stepNV_keeps hc hb hy;obtain⟨k3,k4⟩:=evN_keeps hc k2 h;exact⟨k1.trans k3,k4⟩
theorem evN_pc{callf:CallF}(hcall:CallOK P callf){rs:List Nat}{chk:List (Nat×List Nat)}{N base:Nat}{ops:List Oper}:∀{ks:List Nat} {recs:List (Nat×Option Nat)} {F F':Tr SV} {X X':XW},evN P callf N ops rs chk base ks recs F X=some (F',X')→Pc X'→Pc X
 | [],_,_,_,_,_,h,hp=>by simp only[evN,Option.some.injEq,Prod.mk.injEq] at h;obtain⟨rfl,rfl⟩:=h;exact hp
 |k::ks,recs,F,F',X,X',h,hp=>by
  simp only[evN] at h;split at h<;>try(cases h;done)
  rename_i o _;generalize lowRead P ops base o F X=b at h;cases b with
  |false=>cases h
  |true=>
   simp only[cond_true] at h;split at h<;>try(cases h;done)
   rename_i F1 X1 hs;generalize chkOK recs X X1 (chkOf chk k)=b at h;cases b with
   |false=>cases h
   |true=>
   simp only[cond_true] at h;exact stepN_pc hcall hs (evN_pc hcall h hp)
end
end Go.Xe
namespace Go.Xe
section
variable{P:Program}{B:Nat}{w0 w:World}{E:Env}{ds:List Deferred}{X:XW}
theorem Emb.reD(h:Emb P B w0 X E w)(l:List SD):Emb P B w0 {X with dfs:=l} E w:=h.same rfl rfl rfl
theorem stepO_sound{callf:CallF}(hcall:CallOK P callf)(hc:KeepsOK callf){N:Nat}{F F':Tr SV}{a:Act}{ops:Array Oper}{o:Oper}{X':XW}{r:Option Chain}(hE:Emb P B w0 X E w)(hF:FrRel ds N E F a)(hD:DenDs E X.dfs ds)
 (hsel:noSel2 o.op=true)(ro:Option Nat)(hdf:isDefer o.op=true→ro=none)(h:stepO P callf N ops.toList o F X=some (r,F',X'))(hp:Pc X'){K:Act→World→Prop}{Q:Exit→Act→World→Prop}
 (hK:r=none→∀E' ds' a' w',Le E E'→FrRel ds' N E' F' a'→DenDs E' X'.dfs ds'→Emb P B w0 X' E' w'→K a' w')
 (hQ:∀ch,r=some ch→∀E' ds' a' w' l,Le E E'→FrRel ds' N E' F' a'→DenDs E' X'.dfs ds'→Emb P B w0 X' E' w'→DenCh E' ch l→Q (.panic l) a' w'):
 if Region.wanted o (yielded ops a.tmps) then o.wpIn (wideR ro) 0 P a w K Q
 else(∀f,o.about P w a.eval=some f→(wideR ro).fn f)∧K (a.put o.dst undef) w:=by
 unfold stepO at h;split at h
 ·rename_i X1 hw;obtain⟨h1,h2,h3,h4⟩:=want_sound hF hw;have hd1:X1.dfs=X.dfs:=(want_keeps hw).dfs;cases hd:isDefer o.op with
  |true=>
   rw[hd] at h;simp only[cond_true] at h;split at h<;>try(cases h;done)
   rename_i d hdd;cases h;rw[(h1 hp).2,if_pos rfl];refine⟨fun _ _=>trivial,?_⟩;have hro:=hdf hd;subst hro;unfold dferE at hdd;split at hdd<;>try(cases hdd;done)
   rename_i c hop;split at hdd<;>try(cases hdd;done)
   rename_i fv f fa fb args hcal hl;cases hdd;have hops:o.op.operands.toList=fv::c.args.toList:=by rw[hop];simp[Op.operands,Call.operands,hcal]
   rw[hops] at hl;obtain⟨u,us,⟨xa,xb,hxa,hxb,hu⟩,hus,e⟩:=looks_sound (hE.same h2 h3 h4) hF hl;simp only[List.map_cons,List.cons.injEq] at e;obtain⟨e1,e2⟩:=e;have hmap:Array.map a.eval c.args=us.toArray:=by rw[← e2, ← Array.toList_inj];simp
   have hrun:(o.semAt (wideR none).round a.eval).run P w= .ok (.defer {target:= .fn (.func f) xb.toArray,args:=(xa++us).toArray}) w:=by
    have:o.semAt (wideR none).round a.eval=execOp a.eval o:=rfl
    rw[this];simp[execOp,hop,resolve,hcal,e1,hu,Deferred.ofValue,hmap]
   rw[hrun,Oper.uponIn_defer];refine hK rfl E ({target:= .fn (.func f) xb.toArray,args:=(xa++us).toArray}::ds) _ w (Le.refl _) ?_ ?_ ((hE.same h2 h3 h4).reD _)
   ·have hF2:FrRel ({target:= .fn (.func f) xb.toArray,args:=(xa++us).toArray}::ds) N E F {a with defers:={target:= .fn (.func f) xb.toArray,args:=(xa++us).toArray}::a.defers}:=⟨by simp[hF.1],hF.2⟩;exact hF2.put rfl
   ·refine⟨_,ds,⟨xa++us,xb,hxa.append hus,hxb,rfl⟩,?_,rfl⟩;show DenDs E X1.dfs ds;rw[hd1];exact hD
  |false=>
   rw[hd] at h;simp only[cond_false] at h
   have hns:noSel o.op=true:=by
    cases ho:o.op<;>first|rfl|(rw[ho] at hsel;simp[noSel2] at hsel;done)|(rw[ho] at hd;simp[isDefer] at hd)
   split at h
   ·rename_i y X2 ho;cases h;have hp1:=evOpO_pc hcall ho hp;rw[(h1 hp1).2,if_pos rfl];have hd2:X'.dfs=X.dfs:=((evOpO_keeps hc ho).dfs).trans hd1
    exact opO_sound hcall (hE.same h2 h3 h4) hF hns ho hp ro (fun z hz E' v w' a1 a2 a3=>by
     cases hz
     exact hK rfl E' ds _ w' a1 ((hF.mono a1).put a2) (by rw[hd2];exact hD.sub a1.sub) a3) (fun ch hz=>by cases hz)
   ·rename_i ch X2 ho;cases h;have hp1:=evOpO_pc hcall ho hp;rw[(h1 hp1).2,if_pos rfl];have hd2:X'.dfs=X.dfs:=((evOpO_keeps hc ho).dfs).trans hd1
    exact opO_sound hcall (hE.same h2 h3 h4) hF hns ho hp ro (fun z hz=>by cases hz) (fun ch' hz E' l w' a1 a2 a3=>by
     cases hz
     exact hQ _ rfl E' ds a w' l a1 (hF.mono a1) (by rw[hd2];exact hD.sub a1.sub) a3 a2)
   ·cases h
 ·rename_i X1 hw;cases h;obtain⟨h1,h2,h3,h4⟩:=want_sound hF hw;rw[(h1 hp).2,if_neg (by simp)];have hd1:X'.dfs=X.dfs:=(want_keeps hw).dfs;exact⟨fun _ _=>trivial,hK rfl E ds _ w (Le.refl _) (hF.put rfl) (by rw[hd1];exact hD) (hE.same h2 h3 h4)⟩
 ·cases h
theorem stepO_pc{callf:CallF}(hcall:CallOK P callf){N:Nat}{ops:List Oper}{o:Oper}{F F':Tr SV}{X':XW}{r:Option Chain}(h:stepO P callf N ops o F X=some (r,F',X'))(hp:Pc X'):Pc X:=by
 unfold stepO at h;split at h
 ·rename_i X1 hw;cases hd:isDefer o.op with
  |true=>
   rw[hd] at h;simp only[cond_true] at h;split at h<;>cases h
   exact want_pc hw hp
  |false=>
   rw[hd] at h;simp only[cond_false] at h;split at h
   ·rename_i ho;cases h;exact want_pc hw (evOpO_pc hcall ho hp)
   ·rename_i ho;cases h;exact want_pc hw (evOpO_pc hcall ho hp)
   ·cases h
 ·rename_i hw;cases h;exact want_pc hw hp
 ·cases h
theorem evOps_pc{callf:CallF}(hcall:CallOK P callf){N:Nat}{ops:List Oper}:∀{l:List Oper} {F F':Tr SV} {X X':XW} {r:Option Chain},evOps P callf N ops l F X=some (r,F',X')→Pc X'→Pc X
 | [],_,_,_,_,_,h,hp=>by cases h;exact hp
 |o::l,F,F',X,X',r,h,hp=>by
  simp only[evOps] at h;split at h
  ·rename_i F1 X1 hs;exact stepO_pc hcall hs (evOps_pc hcall h hp)
  ·exact stepO_pc hcall h hp
theorem evOps_sound{callf:CallF}(hcall:CallOK P callf)(hc:KeepsOK callf){N:Nat}{ops:Array Oper}(ro:Option Nat){Q:Exit→Act→World→Prop}{F':Tr SV}{X':XW}{r:Option Chain}(hp:Pc X'):
 ∀(l:List Oper) (F:Tr SV) (X:XW) (E:Env) (ds:List Deferred) (a:Act) (w:World),(∀o∈l,noSel2 o.op=true∧(isDefer o.op=true→ro=none))→Emb P B w0 X E w→FrRel ds N E F a→DenDs E X.dfs ds→evOps P callf N ops.toList l F X=some (r,F',X')→
  (r=none→∀E' ds' a' w',Le E E'→FrRel ds' N E' F' a'→DenDs E' X'.dfs ds'→Emb P B w0 X' E' w'→Q .normal a' w')→
  (∀ch,r=some ch→∀E' ds' a' w' p,Le E E'→FrRel ds' N E' F' a'→DenDs E' X'.dfs ds'→Emb P B w0 X' E' w'→DenCh E' ch p→Q (.panic p) a' w')→wpListIn (wideR ro) 0 P ops Q l a w
 | [],F,X,E,ds,a,w,_,hE,hF,hD,h,hQ,_=>by cases h;exact hQ rfl E ds a w (Le.refl _) hF hD hE
 |o::l,F,X,E,ds,a,w,hs,hE,hF,hD,h,hQ,hR=>by
  simp only[evOps] at h;obtain⟨s1,s2⟩:=hs o (List.mem_cons_self ..);unfold wpListIn;split at h
  ·rename_i F1 X1 hst
   exact stepO_sound hcall hc hE hF hD s1 ro s2 hst (evOps_pc hcall h hp)
    (fun _ E' ds' a' w' h1 h2 h3 h4=>evOps_sound hcall hc ro hp l F1 X1 E' ds' a' w' (fun o' ho'=>hs o' (List.mem_cons_of_mem _ ho')) h4 h2 h3 h
      (fun hr E'' ds'' a'' w'' k1=>hQ hr E'' ds'' a'' w'' (h1.trans k1)) (fun ch hr E'' ds'' a'' w'' p k1=>hR ch hr E'' ds'' a'' w'' p (h1.trans k1)))
    (fun ch hr=>by cases hr)
  ·rename_i hne;refine stepO_sound hcall hc hE hF hD s1 ro s2 h hp (fun hr=>?_) hR;subst hr;exact absurd h (hne F' X')
def scPost(F:Fence)(m:Nat)(P:Program)(c:Code)(Q:Exit→Act→World→Prop):Nat→Exit→Act→World→Prop
 |n,.goto l,a,w=>match findLabel c l with
  |none=>Q (.goto l) a w
  |some rest=>match n with
   |0=>False
   |n+1=>rest.wpIn F m P (scPost F m P c Q n) a w
 |_,e,a,w=>Q e a w
theorem stepR_scope{b:Frame}{a:Act}{c:Code}{k:List Item}{cs:List Frame}:step P (lone (b.atR a (.code (.scope c)::k)) cs w)= .next (lone (b.atR a (.code c:: .inScope c::k)) cs w):=
 step_lone_go (by simp[stepG,stepG.exec,Frame.atR])
theorem stepR_inScope{b:Frame}{a:Act}{c:Code}{k:List Item}{cs:List Frame}:step P (lone (b.atR a (.inScope c::k)) cs w)= .next (lone (b.atR a k) cs w):=
 step_lone_go (by simp[stepG,stepG.exec,Frame.atR])
theorem scope_run{F:Fence}{m:Nat}{c:Code}{Q:Exit→Act→World→Prop}:∀(n:Nat) (x:Code) (a:Act) (w:World),x.wpIn F m P (scPost F m P c Q n) a w→∀(b:Frame) (k:List Item) (cs:List Frame),b.roundOf=F.round→F.fn b.fn→F.room (cs.length+1+m)→
 ∃e a' w',Q e a' w'∧ArrivesIn (Machine.fenced P F) P (lone (b.atR a (.code x:: .inScope c::k)) cs w) b k cs e a' w':=by
 intro n
 induction n with
 |zero=>
  intro x a w h b k cs hro hb hr;obtain⟨e,a₁,w₁,hq,harr⟩:=h b (.inScope c::k) cs hro hb hr;cases e with
  |normal=>exact⟨.normal,a₁,w₁,hq,StepsIn.trans harr (.one (fenced_calm hb hr rfl) stepR_inScope)⟩
  |exit id=>exact⟨.exit id,a₁,w₁,hq,fun k' hk=>harr.1 k' (by simp[exitTo,hk]),fun hr' hk=>harr.2 hr' (by simp[exitTo,hk])⟩
  |goto l=>
   simp only[scPost] at hq;split at hq
   ·rename_i hf;have hx:gotoIn l (.inScope c::k)=gotoIn l k:=by simp[gotoIn,hf]
    exact⟨.goto l,a₁,w₁,hq,fun k' hk=>harr.1 k' (by rw[hx];exact hk),fun hr' hk=>harr.2 hr' (by rw[hx];exact hk)⟩
   ·exact hq.elim
  |ret=>exact⟨_,a₁,w₁,hq,harr⟩
  |panic ch=>exact⟨_,a₁,w₁,hq,harr⟩
  |outgrown=>exact⟨_,a₁,w₁,hq,harr⟩
 |succ n ih=>
  intro x a w h b k cs hro hb hr;obtain⟨e,a₁,w₁,hq,harr⟩:=h b (.inScope c::k) cs hro hb hr;cases e with
  |normal=>exact⟨.normal,a₁,w₁,hq,StepsIn.trans harr (.one (fenced_calm hb hr rfl) stepR_inScope)⟩
  |exit id=>exact⟨.exit id,a₁,w₁,hq,fun k' hk=>harr.1 k' (by simp[exitTo,hk]),fun hr' hk=>harr.2 hr' (by simp[exitTo,hk])⟩
  |goto l=>
   simp only[scPost] at hq;split at hq
   ·rename_i hf;have hx:gotoIn l (.inScope c::k)=gotoIn l k:=by simp[gotoIn,hf]
    exact⟨.goto l,a₁,w₁,hq,fun k' hk=>harr.1 k' (by rw[hx];exact hk),fun hr' hk=>harr.2 hr' (by rw[hx];exact hk)⟩
   ·rename_i rest hf;have hx:gotoIn l (.inScope c::k)=some (.code rest:: .inScope c::k):=by simp[gotoIn,hf]
    obtain⟨e₂,a₂,w₂,hq₂,harr₂⟩:=ih rest a₁ w₁ hq b k cs hro hb hr;exact⟨e₂,a₂,w₂,hq₂,.of_steps (harr.1 _ hx) harr₂⟩
  |ret=>exact⟨_,a₁,w₁,hq,harr⟩
  |panic ch=>exact⟨_,a₁,w₁,hq,harr⟩
  |outgrown=>exact⟨_,a₁,w₁,hq,harr⟩
theorem wpIn_scope{F:Fence}{m n:Nat}{c:Code}{Q:Exit→Act→World→Prop}{a:Act}(h:c.wpIn F m P (scPost F m P c Q n) a w):(Code.scope c).wpIn F m P Q a w:=fun b k cs hro hb hr=>by
 obtain⟨e,a',w',hq,harr⟩:=scope_run n c a w h b k cs hro hb hr;exact⟨e,a',w',hq,.of_steps (.one (fenced_calm hb hr rfl) stepR_scope) harr⟩
theorem codeOK_label{ord:Nat→Hint}{rd:Bool}:∀(c:Code) (l:Nat) (rest:Code),codeOK P ord rd c=true→findLabel c l=some rest→codeOK P ord rd rest=true
 | .seq a b,l,rest,h,hf=>by
   simp only[codeOK,Bool.and_eq_true] at h;simp only[findLabel] at hf;split at hf
   ·rename_i r hr;cases hf;simp only[codeOK,Bool.and_eq_true];exact⟨codeOK_label a l r h.1 hr,h.2⟩
   ·exact codeOK_label b l rest h.2 hf
 | .label l',l,rest,_,hf=>by
   simp only[findLabel] at hf;split at hf<;>cases hf
   rfl
 | .skip,_,_,_,hf=>by simp[findLabel] at hf
 | .region _ _ _,_,_,_,hf=>by simp[findLabel] at hf
 | .cond _ _ _,_,_,_,hf=>by simp[findLabel] at hf
 | .block _ _,_,_,_,hf=>by simp[findLabel] at hf
 | .loop _,_,_,_,hf=>by simp[findLabel] at hf
 | .rangeFunc _ _ _ _,_,_,_,hf=>by simp[findLabel] at hf
 | .exit _,_,_,_,hf=>by simp[findLabel] at hf
 | .scope _,_,_,_,hf=>by simp[findLabel] at hf
 | .goto _,_,_,_,hf=>by simp[findLabel] at hf
 | .ret,_,_,_,hf=>by simp[findLabel] at hf
 | .refuse _,_,_,_,hf=>by simp[findLabel] at hf
end
end Go.Xe
namespace Go.Xe
section
variable{P:Program}{B:Nat}{w0 w:World}{E:Env}{ds:List Deferred}
def ExRel(E:Env):Ex→Exit→Prop
 | .nm,e=>e= .normal
 | .ex id,e=>e= .exit id
 | .ret,e=>e= .ret
 | .gt l,e=>e= .goto l
 | .pan ch,e=>∃p,DenCh E ch p∧e= .panic p
def RoRel(E:Env):Option Nat→Option Nat→Prop
 |none,ro=>ro=none
 |some k,ro=>∃l c,E k=some (l,c)∧ro=some l
theorem RoRel.sub{E E':Env}(hE:Sub E E'){rd ro:Option Nat}(h:RoRel E rd ro):RoRel E' rd ro:=by
 cases rd with
 |none=>exact h
 |some k=>obtain⟨l,c,h1,h2⟩:=h;exact⟨l,c,hE _ _ h1,h2⟩
def Post(P:Program)(B:Nat)(w0:World)(N:Nat)(E:Env)(ex:Ex)(F':Tr SV)(X':XW)(Q:Exit→Act→World→Prop):Prop:=
 ∀E' ds' a' w' e,Le E E'→FrRel ds' N E' F' a'→DenDs E' X'.dfs ds'→Emb P B w0 X' E' w'→ExRel E' ex e→Q e a' w'
theorem Post.le{N:Nat}{E E1:Env}{ex:Ex}{F':Tr SV}{X':XW}{Q:Exit→Act→World→Prop}(h:Post P B w0 N E ex F' X' Q)(hle:Le E E1):Post P B w0 N E1 ex F' X' Q:=
 fun E' ds' a' w' e h1=>h E' ds' a' w' e (hle.trans h1)
theorem Post.mono{N:Nat}{E:Env}{ex:Ex}{F':Tr SV}{X':XW}{Q Q':Exit→Act→World→Prop}(h:Post P B w0 N E ex F' X' Q)(hq:∀E' e a w,ExRel E' ex e→Q e a w→Q' e a w):Post P B w0 N E ex F' X' Q':=
 fun E' ds' a' w' e h1 h2 h3 h4 h5=>hq E' e a' w' h5 (h E' ds' a' w' e h1 h2 h3 h4 h5)
def CodeGood(P:Program)(rd:Option Nat)(N:Nat)(c:Code)(F:Tr SV)(X:XW)(ex:Ex)(F':Tr SV)(X':XW):Prop:=
 Pc X∧∀(ro:Option Nat) B w0 E ds a w (Q:Exit→Act→World→Prop),Emb P B w0 X E w→FrRel ds N E F a→DenDs E X.dfs ds→RoRel E rd ro→Post P B w0 N E ex F' X' Q→c.wpIn (wideR ro) 0 P Q a w
theorem Emb.noOrc{X:XW}(h:Emb P B w0 X E w)(l:List Bool):Emb P B w0 {X with orc:=l} E w:=h.same rfl rfl rfl
theorem loop_good{rd:Option Nat}{N:Nat}{c:Code}{body:Tr SV→XW→R}(hbody:∀F X ex F' X',body F X=some (ex,F',X')→Pc X'→CodeGood P rd N c F X ex F' X'):∀(fuel:Nat) (F:Tr SV) (X:XW) (ex:Ex) (F':Tr SV) (X':XW),
 loopE body fuel F X=some (ex,F',X')→Pc X'→Pc X∧∀(ro:Option Nat) B w0 E ds a w (Q:Exit→Act→World→Prop),Emb P B w0 X E w→FrRel ds N E F a→DenDs E X.dfs ds→RoRel E rd ro→
  Post P B w0 N E ex F' X' Q→Code.roundsIn (wideR ro) 0 P c Q fuel a w
 |0,F,X,ex,F',X',h,_=>by simp[loopE] at h
 |fuel+1,F,X,ex,F',X',h,hp=>by
  have h':(match body F X with|some (.nm,F,X)=>loopE body fuel F X|r=>r)=some (ex,F',X'):=h;split at h'
  ·rename_i F1 X1 hb;obtain⟨p1,k1⟩:=loop_good hbody fuel F1 X1 ex F' X' h' hp;obtain⟨p2,k2⟩:=hbody F X .nm F1 X1 hb p1;refine⟨p2,fun ro B w0 E ds a w Q hE hF hD hR hQ=>?_⟩;rw[roundsIn_succ];refine k2 ro B w0 E ds a w _ hE hF hD hR (fun E' ds' a' w' e a1 a2 a3 a4 a5=>?_);cases a5;exact k1 ro B w0 E' ds' a' w' Q a4 a2 a3 (hR.sub a1.sub) (hQ.le a1)
  ·rename_i r hne;obtain⟨p2,k2⟩:=hbody F X ex F' X' h' hp;refine⟨p2,fun ro B w0 E ds a w Q hE hF hD hR hQ=>?_⟩;rw[roundsIn_succ];refine k2 ro B w0 E ds a w _ hE hF hD hR (hQ.mono fun E' e a w he hq=>?_);cases ex with
   |nm=>exact absurd h' (hne F' X')
   |ex id=>cases he;exact hq
   |ret=>cases he;exact hq
   |gt l=>cases he;exact hq
   |pan ch=>obtain⟨p,_,rfl⟩:=he;exact hq
theorem region_good(callf:CallF)(hcall:CallOK P callf)(hc:KeepsOK callf)(hm:P.follows .mixedOrders=true){rd:Option Nat}{N:Nat}{id:Nat}{ops:Array Oper}{F F':Tr SV}{X X':XW}{is:List Nat}{chk:List (Nat×List Nat)}(hok:drawOK P chk ops is=true)
 (h:evD P callf N ops.toList chk is [] F {X with orc:=[]}=some (F',X'))(hpc:Pc X'):CodeGood P rd N (.region id ops true) F X .nm F' {X' with orc:=X.orc}:=by
 simp only[drawOK,Bool.and_eq_true,Array.all_eq_true_iff_forall_mem] at hok;obtain⟨⟨hsel,hlen⟩,hlex⟩:=hok;have hlen':=Nat.eq_of_beq_eq_true hlen;have hdfs:X'.dfs=X.dfs:=(d_keeps hc h).dfs;refine⟨fun p hp'=>d_pc hcall h hpc p hp',fun ro B w0 E ds a w Q hE hF hD hR hQ=>?_⟩;refine wpIn_region_any hm ?_;obtain⟨S,hany,_⟩:=anyE_lex hc is [] (Array.replicate ops.size false) F {X with orc:=[]} (by simp) rfl hlex h;rw[hlen'] at hany;refine wpAny_of_anyE hcall hsel (fun F1 X1 hg=>by rw[hg.2];exact hpc) ro ops.size _ F _ E a _ hany (hE.noOrc []).drew hF ?_
 rintro F1 X1 E' a' w' ⟨he,rfl⟩ hle hF' hE'
 exact hQ E' ds a' w' .normal hle (hF'.eqv he.symm) (by show DenDs E' X1.dfs ds;rw[hdfs];exact hD.sub hle.sub) (hE'.noOrc _) rfl
theorem allDead_spec{X:XW}{base:Nat}:∀{rs:List Nat},allDead X base rs=true→∀{j:Nat},hasNat rs j=true→X.objs.get (base+j)=none
 | [],_,j,hj=>by simp[hasNat] at hj
 |k::ks,h,j,hj=>by
  simp only[allDead,Bool.and_eq_true] at h;simp only[hasNat,Bool.or_eq_true] at hj;rcases hj with hj|hj
  ·have e:=Nat.eq_of_beq_eq_true hj;subst e
   have:=h.1
   cases hg:X.objs.get (base+k) with
   |none=>rfl
   |some o=>rw[hg] at this;cases this
  ·exact allDead_spec h.2 hj
theorem evN_dfs{callf:CallF}(hc:KeepsOK callf){rs:List Nat}{chk:List (Nat×List Nat)}{N base:Nat}{ops:List Oper}:∀{ks:List Nat} {recs:List (Nat×Option Nat)} {F F':Tr SV} {X X':XW},evN P callf N ops rs chk base ks recs F X=some (F',X')→X'.dfs=X.dfs
 | [],_,_,_,_,_,h=>by simp only[evN,Option.some.injEq,Prod.mk.injEq] at h;obtain⟨rfl,rfl⟩:=h;rfl
 |k::ks,recs,F,F',X,X',h=>by
  simp only[evN] at h;split at h<;>try(cases h;done)
  rename_i o _;generalize lowRead P ops base o F X=b at h;cases b with
  |false=>cases h
  |true=>
   simp only[cond_true] at h;split at h<;>try(cases h;done)
   rename_i F1 X1 hs;generalize chkOK recs X X1 (chkOf chk k)=b at h;cases b with
   |false=>cases h
   |true=>
   simp only[cond_true] at h;refine(evN_dfs hc h).trans ?_;obtain⟨y,hy,_⟩:=stepN_eq.1 hs;cases hn:newR rs k o.op with
   |true=>obtain⟨ob,rfl,_⟩:=stepNV_new hn hy;rfl
   |false=>rw[stepNV_old hn] at hy;exact(stepV_keeps hc hy).dfs
theorem news_good(callf:CallF)(hcall:CallOK P callf)(hc:KeepsOK callf)(hfrm:FrameOK callf)(hm:P.follows .mixedOrders=true){rd:Option Nat}{N:Nat}{id:Nat}{ops:Array Oper}{F F':Tr SV}{X X':XW}{is rs:List Nat}{chk:List (Nat×List Nat)}(hok:newsOK P rs chk ops is=true)(hdead:allDead X X.next rs=true)
 (h:evN P callf N ops.toList rs chk X.next is [] F {X with orc:=[],next:=X.next+ops.size}=some (F',X'))(hpc:Pc X'):CodeGood P rd N (.region id ops true) F X .nm F' {X' with orc:=X.orc}:=by
 simp only[newsOK,Bool.and_eq_true,Array.all_eq_true_iff_forall_mem] at hok;obtain⟨⟨hsel,hlen⟩,hlex⟩:=hok
 have hkept:Kept ops rs X.next (Array.replicate ops.size false) {X with orc:=[],next:=X.next+ops.size}:=by
  intro j oj hoj _ hn;have hlt:=(Array.getElem?_eq_some_iff.1 hoj).1;refine⟨?_,by show X.next+j<X.next+ops.size;omega⟩;have hmem:hasNat rs j=true:=by simp only[newR,Bool.and_eq_true] at hn;exact hn.1
  exact allDead_spec hdead hmem
 have hlen':=Nat.eq_of_beq_eq_true hlen;have hdfs:X'.dfs=X.dfs:=evN_dfs (X:={X with orc:=[],next:=X.next+ops.size}) hc h;refine⟨fun p hp'=>evN_pc hcall h hpc p hp',fun ro B w0 E ds a w Q hE hF hD hR hQ=>?_⟩;refine wpIn_region_any hm ?_;obtain⟨S,hany,_⟩:=anyN_lex hfrm hc is [] (Array.replicate ops.size false) F {X with orc:=[],next:=X.next+ops.size} (by simp) hkept rfl hlex h;rw[hlen'] at hany
 let E1:Env:={f:=E.f,n:=X.next+ops.size}
 have hE1:Emb P B w0 {X with orc:=[],next:=X.next+ops.size} E1 {w with drawn:=w.drawn+1}:=by
  have:=(hE.noOrc []).drew
  exact⟨this.os,this.tape,this.output,this.base,this.old,fun k o hk=>let ⟨i,c,a1,a2,a3⟩:=this.obj k o hk;⟨i,c,a1,a2.sub (show Sub E E1 from fun _ _ h=>h),a3⟩,this.inj,fun k hk=>hE.fresh k (Nat.le_trans (Nat.le_add_right _ _) hk),this.glob,Nat.le_refl _⟩
 have hng:X.ng≤X.next:=by
  rcases Nat.lt_or_ge X.next X.ng with h'|h'
  ·obtain⟨c,hc'⟩:=hE.glob X.next h'
   rw[hE.fresh X.next (Nat.le_refl _)] at hc';cases hc'
  ·exact h'
 have hF1:FrRel ds N E1 F a:=⟨hF.1,hF.2.1,fun j z hj=>let ⟨l,u,g1,g2⟩:=hF.2.2 j z hj;⟨l,u,g1,g2.sub (show Sub E E1 from fun _ _ h=>h)⟩⟩;refine wpAny_of_anyN hc hcall hsel (fun F1 X1 hg=>by rw[hg.2];exact hpc) ro ops.size _ F _ E1 a _ hany hE1 hF1 rfl (fun i o _ _ _=>hE.fresh _ (Nat.le_add_right _ _)) rfl (Nat.le_refl _) hng ?_
 rintro F1 X1 E' a' w' ⟨he,rfl⟩ hsub hlow hn hF' hE'
 have hEn:E.n≤X.next:=hE.nle
 have hle:Le E {f:=E'.f,n:=E.n}:=⟨rfl,fun k x hk=>hsub k x hk,fun k hk=>hlow k (Nat.lt_of_lt_of_le hk hEn)⟩;refine hQ {f:=E'.f,n:=E.n} ds a' w' .normal hle ⟨hF'.1,hF'.2.1,fun j z hj=>?_⟩ (by show DenDs _ X1.dfs ds;rw[hdfs];exact hD.sub hle.sub) ?_ rfl
 ·obtain⟨l,u,g1,g2⟩:=hF'.2.2 j z (by rw[← he j];exact hj);exact⟨l,u,g1,g2.sub (show Sub E' {f:=E'.f,n:=E.n} from fun _ _ h=>h)⟩
 ·have hnl:=hE'.nle;rw[hn] at hnl;have hnl2:X.next+ops.size≤X1.next:=hnl
  exact⟨hE'.os,hE'.tape,hE'.output,hE'.base,hE'.old,fun k o hk=>let ⟨i,c,a1,a2,a3⟩:=hE'.obj k o hk;⟨i,c,a1,a2.sub (show Sub E' {f:=E'.f,n:=E.n} from fun _ _ h=>h),a3⟩,hE'.inj,hE'.fresh,hE'.glob,by show E.n≤X1.next;omega⟩
theorem getLoop_run{id:Nat}{r:Loop}(h:w.heap[id]?=some (.loop r)):(Instr.getLoop id).run P w= .ok r w:=by
 simp[Instr.getLoop,getObj,Sem.run,h,bind,Sem.bind]
theorem range_good2(callf:CallF)(hcall:CallOK P callf)(hc:KeepsOK callf){ord:Nat→Hint}{me:FuncId}{rd:Option Nat}{N:Nat}{g:Operand}{ps:Array Tmp}{az body:Code}{F F':Tr SV}{X X':XW}{y:SV}{ex:Ex}(hok1:codeOK P ord true az=true)(hok2:codeOK P ord true body=true)
 (hl:look X.ng F g=some y)(h:rangeE callf ord me rd N ps az body y F X=some (ex,F',X'))(hp:Pc X'):CodeGood P rd N (.rangeFunc g ps az body) F X ex F' X':=by
 unfold rangeE at h;split at h<;>try(cases h;done)
 rename_i f fa fb b X1 hb
 have hpcs:Pc X1→Pc X:=by
  intro hp1;unfold blkOf at hb;split at hb
  ·cases hb;exact hp1
  ·split at hb<;>try(cases hb;done)
   split at hb<;>cases hb
   exact hp1
 have key:∃out X2,callf (.ent f) (fa++[.yld (X1.new (mkLoop ord me N (normT (keepOf ord N body) F.get) ps az body b)).1]++fb) {(X1.new (mkLoop ord me N (normT (keepOf ord N body) F.get) ps az body b)).2 with dfs:=[]}=some (out,X2)∧Pc X2∧
  ((∃ch,out= .pan ch∧ex= .pan ch∧F'=F∧X'={X2 with dfs:=X1.dfs})∨∃z,out= .ret z∧endE F (X1.new (mkLoop ord me N (normT (keepOf ord N body) F.get) ps az body b)).1 {X2 with dfs:=X1.dfs}=some (ex,F',X')):=by
  split at h
  ·rename_i z X2 hcl;refine⟨_,X2,hcl,?_,.inr ⟨z,rfl,h⟩⟩;unfold endE at h;split at h<;>try(cases h;done)
   split at h<;>try(cases h;done)
   split at h<;>cases h
   all_goals exact hp
  ·rename_i ch X2 hcl;cases h;exact⟨_,X2,hcl,hp,.inl ⟨ch,rfl,rfl,rfl,rfl⟩⟩
  ·cases h
 obtain⟨out,X2,hcl,hp2,hout⟩:=key;obtain⟨p1,k1⟩:=hcall _ _ _ _ _ hcl hp2;refine⟨hpcs p1,fun ro B w0 E ds a w Q hE hF hD hR hQ=>?_⟩;refine wpIn_rangeFunc fun fn _=>?_
 have hblk:∃E1 w1 mark r cc,Le E E1∧Emb P B w0 X1 E1 w1∧E1 b=some (r,cc)∧DenDs E1 X1.dfs (mark++ds)∧
  (Instr.enterLoop fn a.tmps ps az body ro).run P w= .ok (w1.heap.size,mark) (w1.alloc (.loop {state:= .ready,pending:=none,fn:=fn,tmps:=a.tmps,params:=ps,assign:=az,body:=body,defers:=r})):=by
  unfold blkOf at hb;cases rd with
  |none=>
   have hro:ro=none:=hR;subst hro;simp only[Option.some.injEq,Prod.mk.injEq] at hb;obtain⟨rfl,rfl⟩:=hb;have hle:Le E (E.put X.next w.heap.size 0):=Env.le_put (hE.fresh _ (Nat.le_refl _)) hE.nle;refine⟨E.put X.next w.heap.size 0,w.alloc (.deferred (some [])),[{target:= .collected w.heap.size,args:= #[]}],w.heap.size,0,hle,(hE.newOb mkBlk (.deferred (some [])) 0 fun E' _=> .inr ⟨rfl,rfl,rfl⟩).reD _,Env.put_same _ _ _ _,⟨_,ds,⟨_,_,Env.put_same _ _ _ _,rfl⟩,hD.sub hle.sub,rfl⟩,by simp[Instr.enterLoop]⟩
  |some k=>
   obtain⟨l,c,hk,hro⟩:=hR;subst hro;simp only at hb;split at hb<;>try(cases hb;done)
   rename_i o ho;split at hb<;>try(cases hb;done)
   rename_i st pend od mm NN FF pps aa cc2 bb hs;cases hb;obtain⟨id',c',hk',hrel,_⟩:=hE.spAt ho (by rw[hs];simp);rw[hk] at hk';cases hk';rw[hs] at hrel;obtain⟨_,r,h1,_,_,_,_,_,⟨cc,h7⟩,_⟩:=hrel;exact⟨E,w,[],r.defers,cc,Le.refl _,hE,h7,hD,by simp[Instr.enterLoop,getLoop_run h1]⟩
 obtain⟨E1,w1,mark,r,cc,hle1,hE1,hb1,hD1,hblkrun⟩:=hblk;have hle2:Le E1 (E1.put X1.next w1.heap.size 0):=Env.le_put (hE1.fresh _ (Nat.le_refl _)) hE1.nle;have hle:=hle1.trans hle2
 let rec0:Loop:={state:= .ready,pending:=none,fn:=fn,tmps:=a.tmps,params:=ps,assign:=az,body:=body,defers:=r}
 have hE2:Emb P B w0 (X1.new (mkLoop ord me N (normT (keepOf ord N body) F.get) ps az body b)).2 (E1.put X1.next w1.heap.size 0) (w1.alloc (.loop rec0)):=
  hE1.newOb (mkLoop ord me N (normT (keepOf ord N body) F.get) ps az body b) (.loop rec0) 0 fun E' hle'=> .inr ⟨⟨⟨hok1,hok2⟩,rec0,rfl,rfl,rfl,rfl,rfl,rfl,⟨cc,hle'.sub _ _ hb1⟩,((show TmpsRel N E F a.tmps from hF.2).sub (hle1.trans hle').sub).norm⟩,rfl,rfl⟩
 have hkl:(E1.put X1.next w1.heap.size 0) (X1.new (mkLoop ord me N (normT (keepOf ord N body) F.get) ps az body b)).1=some (w1.heap.size,0):=Env.put_same _ _ _ _;have hg:=look_sound hE hF hl;obtain⟨xa,xb,hxa,hxb,hgv⟩:=hg;have hyl:DenL (E1.put X1.next w1.heap.size 0) [.yld (X1.new (mkLoop ord me N (normT (keepOf ord N body) F.get) ps az body b)).1] [Value.func (.yield w1.heap.size) #[] #[]]:=⟨_,_,⟨_,_,hkl,rfl⟩,rfl,rfl⟩;have hce:a.eval (.const (.func (.yield w1.heap.size) #[] #[]))= .func (.yield w1.heap.size) #[] #[]:=rfl
 obtain⟨fnf,hfn,hbody,hname,hci⟩:=k1 B w0 (E1.put X1.next w1.heap.size 0) (w1.alloc (.loop rec0)) (xa++[Value.func (.yield w1.heap.size) #[] #[]]++xb) (hE2.reD _)
  (((hxa.sub hle.sub).append hyl).append (hxb.sub hle.sub))
 have hbn:fnf.body≠none:=fun e=>by rw[e] at hbody;cases hbody
 refine⟨w1.heap.size,mark,w1.alloc (.loop rec0),{target:= .fn (.func f) xb.toArray,args:=xa.toArray++ #[.func (.yield w1.heap.size) #[] #[]]},w1.alloc (.loop rec0),f,(xa++[Value.func (.yield w1.heap.size) #[] #[]]++xb).toArray,w1.alloc (.loop rec0),?_,?_,fun _ _=>trivial,?_,(fun h=>by cases h),?_⟩
 ·exact hblkrun
 ·simp[resolve,hgv,Deferred.ofValue,hce]
 ·simp[invoke,callFunc,hfn,hname,hbn]
 ·refine CallsIn.mono (CallsIn.anyRound ro hci) ?_
  rintro e w3 ⟨E3,hle3,hE3,hpost⟩
  have hleA:=hle.trans hle3;have hkeep:=hc _ _ _ _ _ hcl;have hFA:FrRel (mark++ds) N E3 F {a with defers:=mark++a.defers}:=⟨by show mark++a.defers=_;rw[hF.1],(show TmpsRel N E F a.tmps from hF.2).sub hleA.sub⟩;have hDA:DenDs E3 X1.dfs (mark++ds):=hD1.sub (hle2.trans hle3).sub;rcases hout with⟨ch,rfl,rfl,rfl,rfl⟩|⟨z,rfl,hend⟩
  ·obtain⟨p,rfl,hch⟩:=hpost;exact hQ E3 (mark++ds) {a with defers:=mark++a.defers} w3 (.panic p) hleA hFA hDA (hE3.reD _) ⟨p,hch,rfl⟩
  ·obtain⟨v,rfl,_⟩:=hpost;unfold endE at hend;split at hend<;>try(cases hend;done)
   rename_i o ho;split at hend<;>try(cases hend;done)
   rename_i st pend od mm NN FF pps aa cc2 bb hs;have hne:o.sp≠ .cells:=by rw[hs];simp
   have ho':X2.objs.get (X1.new (mkLoop ord me N (normT (keepOf ord N body) F.get) ps az body b)).1=some o:=ho;have hk3:E3 (X1.new (mkLoop ord me N (normT (keepOf ord N body) F.get) ps az body b)).1=some (w1.heap.size,0):=hle3.sub _ _ hkl;obtain⟨id',c',hk',hrel,_⟩:=hE3.spAt ho' hne;rw[hk3] at hk';cases hk';rw[hs] at hrel;obtain⟨g0,r3,g1,g2,g3,g4,g5,g6,g7,g8⟩:=hrel
   have fin:st≠ .busy→some (jumpEx pend,F,{({X2 with dfs:=X1.dfs}:XW) with objs:=X2.objs.put (X1.new (mkLoop ord me N (normT (keepOf ord N body) F.get) ps az body b)).1 {o with ver:=o.ver+1,sp:= .loop .exhausted pend od mm NN FF pps aa cc2 bb}})=some (ex,F',X')→
    rangePost (wideR ro) 0 P w1.heap.size Q {a with defers:=mark++a.defers} (.returned v) w3:=by
    intro hst hX;simp only[Option.some.injEq,Prod.mk.injEq] at hX;obtain⟨rfl,rfl,rfl⟩:=hX;obtain⟨w4,hset,hE4⟩:=hE3.setSp (s:= .loop .exhausted pend od mm NN FF pps aa cc2 bb) (obj':= .loop {r3 with state:= .exhausted}) ho' hne hk3 ⟨g0,_,rfl,rfl,g3,g4,g5,g6,g7,g8⟩ P;refine⟨jumpCode pend,w4,?_,?_⟩
    ·have hb3:¬r3.state=LoopState.busy:=by rw[g2];exact hst
     rw[← g3];simp[Instr.endLoop,getLoop_run g1,hb3,hset]
    ·have hEf:Emb P B w0 {({X2 with dfs:=X1.dfs}:XW) with objs:=X2.objs.put (X1.new (mkLoop ord me N (normT (keepOf ord N body) F.get) ps az body b)).1 {o with ver:=o.ver+1,sp:= .loop .exhausted pend od mm NN FF pps aa cc2 bb}} E3 w4:=hE4.reD _;cases pend with
     |none=>exact hQ E3 (mark++ds) _ w4 .normal hleA hFA hDA hEf rfl
     |ret=>exact wpIn_ret (hQ E3 (mark++ds) _ w4 .ret hleA hFA hDA hEf rfl)
     |ex id=>exact wpIn_exit (hQ E3 (mark++ds) _ w4 (.exit id) hleA hFA hDA hEf rfl)
   split at hend
   ·cases hend
   ·rename_i hnb;exact fin hnb hend
end
end Go.Xe
