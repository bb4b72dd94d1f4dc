/-
  Own work, of several texts. maps.DeleteFunc with the disk's closure, as the kit's shelf has it, in this library's form.
-/
import Derived.Test.YtfadfecpoimkiaaGreatDoorLib2
import Derived.Shelf.SlMaps.DeleteFunc
import Derived.Shelf.SortG.Plain
import Derived.Shelf.SortG.SortNone
import Derived.Lib.SlKeysI
import Derived.Shelf.SlIterI.Nil
import Derived.Maps.Ext
import Derived.OrdersHeld
import Derived.Shelf.SlMaps.Clone
import Derived.Lib.UnsafeStr
import Derived.Test.YtfadfecpoimkiaaGreatDoorLib1
import Derived.Laws.RangeString
import Derived.Recover
import Derived.LoopN
import Derived.RangeFuncNested
import Derived.RangeFuncCalls
import Derived.RangeFuncLeaves
import Derived.TacticsInMore
import Derived.KernelRfl
import Derived.Deep.CondSized
import Derived.Deep.DeepHandedRow
import Derived.Stop.LaidErr
import Derived.JoinedOf
import Derived.JoinedCond
namespace Sx
open Go Go.Maps
theorem FG{P:Program}{k:FuncId}{fn:Func}{body:Code}{L:List Res}{res:Value→TV}{L':Value→List Res}(hf:P.funcs[k]? =some fn)(hb:fn.body=some body)(n:Nat)(hn:fn.ntmps=n)(E:Env){F:Fr}{vs:List Value}(ha:vs.length≤n)
  (he:∀i t,E.get i=some t→∃v,vs[i]? =some v∧t.holds F.base v) (g:Go (Fr.nd F) n E L (body.wp P (bodyPost P fn (mg F res L')))) {w:World} (hst:St F F.base w L):Calls P k vs.toArray w (mg F res L'):=by
 refine calls_of_wp hf hb ?_
 refine g F.base _ _ ⟨hst.nd,rfl,?_,?_⟩
 ·simp[hn];omega
 ·intro i t h
  obtain⟨v,hv,ht⟩:=he i t h
  refine⟨v,?_,ht⟩
  have hj:i<vs.length:=by
   rcases Nat.lt_or_ge i vs.length with h|h
   ·exact h
   ·simp[List.getElem?_eq_none h]at hv
  have hv':vs[i]=v:=by simpa [hj]using hv
  simp[Array.getElem?_append,hj,hv']
theorem xf{F:Fr}{M:Mem}{w w':World}(ho:F.os=w.os)(ht:F.tape=w.tape)(hu:F.output=w.output)(hs:F.size=w.heap.size)(hm:F.mem=dt w)(h:St F M w' []):w.grownBy w' none:=
 {os:=h.os.trans ho,tape:=h.tape.trans ht,output:=h.output.trans hu,size:=by rw[←hs];exact h.size
  block:=λk hk _=>by
   have:=h.frame k w.heap[k] (by rw[hm];simp[dt,hk])
   rw[this];simp[hk]}
def Be(P:Program)(I:DI)(g:FuncId):Prop:=∀(bs:Nat) (s size:Int) (val:Value) (w:World),rng .i64 s→rng .i64 size→w.heap[bs]? =some (.cells #[.int .i64 size] I.int (0,0))→
 Calls P g #[.int .i64 s,val,.pointer (some ⟨bs,0,none⟩)] w λe w'=>e= .returned (.bool (decide (size≤IntKind.wrap .i64 (s*64))))∧w.grownBy w' none
theorem FH{P:Program}{I:DI}{g:FuncId}{fn:Func}{body:Code}(hf:P.funcs[g]? =some fn)(hb:fn.body=some body)(n:Nat)(hn:fn.ntmps=n)(h3:3≤n)
  (hg:∀F s size,Go (Fr.nd F) n [(0,.one (.int .i64) s),(2,.ref (.int .i64) size)] [] (body.wp P (bodyPost P fn (mg F (λ_=> .one .bool (decide (size≤IntKind.wrap .i64 (s*64)))) (λ_=>[]))))):Be P I g:=λbs s size val w hs hz hbs=>by
 have hst:St ⟨w.os,w.tape,w.output,dt w,dt w,w.heap.size,[]⟩ (dt w) w []:=
  {os:=rfl,tape:=rfl,output:=rfl,size:=Nat.le_refl _,elder:=Mem.le.refl _,fresh:=λk o e=> .inl e,frame:=λk o e=>e,mem:=λk o e=>e,sep:=⟨λ_=>False,λ_ h=>h,λ_ h=>h.elim⟩}
 have:=FG (vs:=[.int .i64 s,val,.pointer (some ⟨bs,0,none⟩)]) (F:=⟨w.os,w.tape,w.output,dt w,dt w,w.heap.size,[]⟩) hf hb n hn [(0,.one (.int .i64) s),(2,.ref (.int .i64) size)] (by simpa using h3) (λi t h=>by
  match i,h with
  |0,h=>cases h;exact⟨_,rfl,holds_int.2 ⟨rfl,hs⟩⟩
  |2,h=>cases h;exact⟨_,rfl,⟨bs,0,none⟩,rfl,rfl,_,_,_,hbs,by simp[T.size],by simpa [T.size]using ⟨rfl,hz⟩⟩) (hg _ s size) hst
 refine this.mono ?_
 rintro e w' ⟨v,M',rfl,st,hv⟩
 exact⟨by rw[holds_bool.1 hv],xf rfl rfl rfl rfl rfl st⟩
def xy(P:Program)(I:DI)(k g:FuncId):Prop:=∀(b bs n:Nat) (size:Int) (lv:List (Int×Value)) (w:World),rng .i64 size→w.heap[bs]? =some (.cells #[.int .i64 size] I.int (0,0))→bs≠b→koks (.int .i64) lv→w.ownsMap P I.int gS b n (dat (.int .i64) lv)→
 Calls P k #[.map (some b),.func (.func g) #[] #[.pointer (some ⟨bs,0,none⟩)]] w λe w'=>e= .returned (.tuple #[])∧w'.ownsMap P I.int gS b n (dat (.int .i64) (lv.filter λp=>decide (IntKind.wrap .i64 (p.1*64)<size)))∧w.grownBy w' (some b)
theorem FI{P:Program}{ρ:Go.Shelf.Ren}{I:DI}{g:FuncId}(L:Go.Proofs.SlLaysDf.n5 P ρ)(ht:ρ.t 26=I.int)(hu:P.underlying I.int=some (.int .i64))(eg:∀args w,(callFunc g args).run P w= .ok (.enter g args) w)(hc:Be P I g):xy P I (ρ.f 5) g:=
 λb bs n size lv w hz hbs hne hok hown=>by
 have K:Keyed P (ρ.t 26):=by rw[ht];exact int_keyed hu
 have:=Go.Proofs.AnyDf.maps_DeleteFunc (P:=P) (ρ:=ρ) L K gS (λkl _=>match kl with| .int _ s=>decide (size≤IntKind.wrap .i64 (s*64))|_=>false) g #[.pointer (some ⟨bs,0,none⟩)] b n (dat (.int .i64) lv) w eg (by rw[ht];exact hown)
  (λW key val kl yd yp hg hk hR=>by
    rw[ht]at hk
    obtain⟨x,rfl,rfl,hw⟩:=Maps.keyOf_int_inv hu hk
    have hr:rng .i64 x:=by simpa [Lit.wf,rng,lo,Sx.hi,IntKind.min,IntKind.max,IntKind.signed,IntKind.bits]using hw
    have hW:W.heap[bs]? =some (.cells #[.int .i64 size] I.int (0,0)):=by
     rw[hg.block bs (cH hbs) (by simpa using hne)];exact hbs
    exact hc bs x size val W hr hz hW)
 refine this.mono ?_
 rintro e w' ⟨rfl,h2,h3⟩
 refine⟨rfl,?_,h3⟩
 rw[ht]at h2
 have e1:Lib.deleteFuncD (λkl (_:DataW Value)=>match kl with| .int _ s=>decide (size≤IntKind.wrap .i64 (s*64))|_=>false) (dat (.int .i64) lv)=dat (.int .i64) (lv.filter λp=>decide (IntKind.wrap .i64 (p.1*64)<size)):=by
  simp only[Lib.deleteFuncD,List.filter_map]
  congr 2
  apply List.filter_congr
  intro p _
  show(!decide (size≤IntKind.wrap .i64 (p.1*64)))=_
  rw[←decide_not]
  exact decide_eq_decide.2 Int.not_le
 rw[e1]at h2
 exact h2
theorem RelKV.filt{kt vt:T}{M:Mem}(f:kt.D→Bool):∀{a:List (kt.D×Value)} {b:List (kt.D×vt.D)},RelKV M a b→RelKV M (a.filter λp=>f p.1) (b.filter λp=>f p.1)
 |[],[],_=>trivial
 |p::r,q::s,⟨h1,h2,h3⟩=>by
  have ih:=RelKV.filt f h3
  simp only[List.filter_cons,h1]at ih⊢
  split
  ·exact⟨h1,h2,ih⟩
  ·exact ih
 |[],_::_,h=>h.elim
 |_::_,[],h=>h.elim
section
variable {P:Program}{I:DI}{F:Fr}{n:Nat}{E E':Env}{L:List Res}{ops:Array Oper}{Q:Exit→Act→World→Prop}{rest:List Oper}
theorem yw{a:Act}{w:World}{g:FuncId}{x:Operand}{d:Nat}{ty:TypeId}{pos:String}{after:Array Edge}:(execOp a.eval ⟨some d,.makeFunc (.func g) #[] #[x],ty,pos,after,none⟩).run P w= .ok (.value (.func (.func g) #[] #[a.eval x])) w:=by
 simp[execOp,Instr.makeFunc,ao,aG]
theorem sy:∀{E:Env} {d i:Nat} {t:TV},i≠d→E.get i=some t→(E.del d).get i=some t
 |[],_,_,_,_,h=>by simp[Env.get]at h
 |(j,u)::r,d,i,t,hn,h=>by
  simp only[Env.get]at h
  simp only[Env.del]
  split at h
  ·rename_i hb
   have hj:=Nat.eq_of_beq_eq_true hb
   have hd:Nat.beq j d=false:=by
    cases hjd:Nat.beq j d with
    |false=>rfl
    |true=>exact absurd (hj.symm.trans (Nat.eq_of_beq_eq_true hjd)) hn
   rw[hd];simp only[Env.get,hb];exact h
  ·rename_i hb
   split
   ·exact sy hn h
   ·simp only[Env.get,hb];exact sy hn h
theorem Sep.pick{M:Mem}{w:World}{R:Res}:∀{L:List Res} {i:Nat} {V:Nat→Prop},Sep M w L V→L[i]? =some R→∃S,R.sat M S w∧∀k,S k→V k
 |[],_,_,_,h=>by simp at h
 |R0::L,0,V,⟨S,V',r,s,d,e⟩,hi=>by
  simp only[List.getElem?_cons_zero,Option.some.injEq]at hi;subst hi
  exact⟨S,r,λk h=>(e k).2 (.inl h)⟩
 |R0::L,i+1,V,⟨S,V',r,s,d,e⟩,hi=>by
  obtain⟨S2,h2,h3⟩:=Sep.pick s (by simpa using hi)
  exact⟨S2,h2,λk h=>(e k).2 (.inr (h3 k h))⟩
theorem Sep.two{M:Mem}{w:World}{R1 R2:Res}:∀{L:List Res} {i j:Nat} {V:Nat→Prop},Sep M w L V→L[i]? =some R1→L[j]? =some R2→i≠j→∃S1 S2,R1.sat M S1 w∧R2.sat M S2 w∧∀k,S1 k→¬S2 k
 |[],_,_,_,_,h,_,_=>by simp at h
 |R::L,0,0,_,_,_,_,h=>absurd rfl h
 |R::L,0,j+1,V,⟨S,V',r,s,d,e⟩,hi,hj,_=>by
  simp only[List.getElem?_cons_zero,Option.some.injEq]at hi;subst hi
  obtain⟨S2,h2,h3⟩:=Sep.pick s (by simpa using hj)
  exact⟨S,S2,r,h2,λk h h'=>d k h (h3 k h')⟩
 |R::L,i+1,0,V,⟨S,V',r,s,d,e⟩,hi,hj,_=>by
  simp only[List.getElem?_cons_zero,Option.some.injEq]at hj;subst hj
  obtain⟨S2,h2,h3⟩:=Sep.pick s (by simpa using hi)
  exact⟨S2,S,h2,r,λk h h'=>d k h' (h3 k h)⟩
 |R::L,i+1,j+1,V,⟨S,V',r,s,d,e⟩,hi,hj,h=>Sep.two s (by simpa using hi) (by simpa using hj) (by omega)
theorem St.turnG{M:Mem}{w w':World}(h:St F M w L){R R':Res}{i:Nat}(hi:L[i]? =some R){b:Nat}(hg:w.grownBy w' (some b))(hR:∀S,R.sat M S w→R'.sat M S w')(hB:∀S,R.sat M S w→S b):St F M w' (L.set i R'):=by
 obtain⟨V,s,d⟩:=h.sep
 have hV:V b:=by
  obtain⟨S,hS,h3⟩:=Sep.pick s hi
  exact h3 b (hB S hS)
 have hw:∀k,k<w.heap.size→k≠b→w'.heap[k]? =w.heap[k]? :=λk hk hne=>hg.block k hk (λe=>hne (by cases e;rfl))
 exact{
  os:=hg.os.trans h.os,tape:=hg.tape.trans h.tape,output:=hg.output.trans h.output,size:=Nat.le_trans h.size hg.size,elder:=h.elder,fresh:=h.fresh
  frame:=λk o e=>by
   rw[hw k (h.flt e) (λhb=>by have:=(d b hV).2;rw[←hb]at this;rw[this]at e;cases e)];exact h.frame k o e
  mem:=λk o e=>by
   rw[hw k (h.lt e) (λhb=>by have:=(d b hV).1;rw[←hb]at this;rw[this]at e;cases e)];exact h.mem k o e
  sep:=⟨V,Sep.turn (B:=λk=>k=b) (Mem.le.refl _) hR (λS hS k hk=>by subst hk;exact hB S hS) (λk hk hv=>hw k hv hk) s hi,d⟩}
theorem Dq{k g:FuncId}(hd:xy P I k g)(hk:dQ P k=true){m x:Operand}{z z' v:Value}{bs:Nat}{l:List (Int×Int)}{size:Int}{dc d:Nat}{ty ty':TypeId}{tys:Array TypeId}{pos pos':String}{after after':Array Edge}(i j:Nat)
  (hm:ev E m=some (.one (.raw z) v)) (hx:ev E x=some (.one (.raw z') (.pointer (some ⟨bs,0,none⟩)))) (hi:L[i]? =some (Res.map P I.int (.int .i64) (.int .i64) v l)) (hj:L[j]? =some (Res.var bs I.int (.int .i64) size)) (hij:i≠j) (hne:m≠.tmp dc) (hdc:Nat.ble (dc+1) n=true) (hdd:Nat.ble (d+1) n=true) (hE:E.get dc=none)
  (hg:Go F n ((d,.tup [])::E) (L.set i (Res.map P I.int (.int .i64) (.int .i64) v (l.filter λp=>decide (IntKind.wrap .i64 (p.1*64)<size)))) (wpList P ops Q rest)):
  Go F n E L (wpList P ops Q (⟨some dc,.makeFunc (.func g) #[] #[x],ty,pos,after,none⟩::⟨some d,.call ⟨.value (.func k),#[m,.tmp dc],tys⟩,ty',pos',after',none⟩::rest)):=λM a w c=>by
 have hmf:(execOp a.eval ⟨some dc,.makeFunc (.func g) #[] #[x],ty,pos,after,none⟩).run P w= .ok (.value (.func (.func g) #[] #[.pointer (some ⟨bs,0,none⟩)])) w:=by
  rw[yw,(holds_raw.1 (aJ c hx)).1]
 refine dG (d:=dc) rfl (by simp[Region.wanted]) hmf ?_
 have hmv:(a.put (some dc) (.func (.func g) #[] #[.pointer (some ⟨bs,0,none⟩)])).eval m=v:=by
  rw[←(holds_raw.1 (aJ c hm)).1]
  cases m with
  |tmp q=>
   have:dc≠q:=λe=>hne (by rw[e])
   simp[Act.put,Act.eval,this]
  |_=>rfl
 have hcv:(a.put (some dc) (.func (.func g) #[] #[.pointer (some ⟨bs,0,none⟩)])).eval (.tmp dc)= .func (.func g) #[] #[.pointer (some ⟨bs,0,none⟩)]:=by
  have:dc<a.tmps.size:=by rw[c.size];exact Nat.le_of_ble_eq_true hdc
  simp[Act.put,Act.eval,this]
 have c1:=c.void (some dc) (.func (.func g) #[] #[.pointer (some ⟨bs,0,none⟩)])
 have c2:Cfg F M n E L (a.put (some dc) (.func (.func g) #[] #[.pointer (some ⟨bs,0,none⟩)])) w:=c1.less (λq t h=>by
  have hq:q≠dc:=λe=>by rw[e,hE]at h;cases h
  exact sy hq h)
 generalize a.put (some dc) (.func (.func g) #[] #[.pointer (some ⟨bs,0,none⟩)])=a2 at hmv hcv c2⊢
 unfold wpList
 rw[if_pos (by simp[Region.wanted])]
 left
 unfold Oper.wp
 have hrun:(execOp a2.eval ⟨some d,.call ⟨.value (.func k),#[m,.tmp dc],tys⟩,ty',pos',after',none⟩).run P w= .ok (.enter k #[v,.func (.func g) #[] #[.pointer (some ⟨bs,0,none⟩)]]) w:=by
  have:(Act.eval a2 (.tmp dc))= .func (.func g) #[] #[.pointer (some ⟨bs,0,none⟩)]:=hcv
  simp only[execOp,resolve,ao,aG,Deferred.ofValue,invoke]
  have e1:a2.eval (Operand.func k)= .func (.func k) #[] #[]:=rfl
  rw[e1]
  simp only[ao,aG]
  simp[hmv,hcv,gn hk]
 rw[hrun,Oper.upon_enter]
 obtain⟨b,lv,rfl,hown,hrel,hok⟩:=lT c2.st hi
 obtain⟨V,s,_⟩:=c2.st.sep
 obtain⟨S1,S2,⟨b',_,e1,hS1,_⟩,⟨hS2,cs,hcs,hrep⟩,hdis⟩:=Sep.two s hi hj hij
 cases e1
 have hbb:bs≠b:=λe=>hdis b ((hS1 b).2 rfl) ((hS2 b).2 e.symm)
 obtain⟨rfl,hrg⟩:cs=[.int .i64 size]∧rng .i64 size:=hrep
 have:=hd b bs l.length size lv w hrg (by simpa using hcs) hbb (hrel.koks hok) hown
 refine this.mono ?_
 rintro e w' ⟨rfl,hown',hgr⟩
 refine hg M _ _ (c2.put (Mem.le.refl _) (c2.st.turnG hi hgr ?_ ?_) (Nat.le_of_ble_eq_true hdd) ⟨[],rfl,.nil⟩)
 ·rintro S ⟨b',lv',e1,hS,hown0,hrel0,hok0⟩
  cases e1
  have hrel2:=hrel.filt (λs=>decide (IntKind.wrap .i64 (s*64)<size))
  refine⟨b,_,rfl,hS,?_,hrel2,λp hp=>hok p (List.mem_filter.1 hp).1⟩
  have:=pl hown'
  rw[←hrel2.len];exact this
 ·rintro S ⟨b',_,e1,hS,_⟩
  cases e1;exact(hS _).2 rfl
theorem uI{k g:FuncId}(hd:xy P I k g)(hk:dQ P k=true){m x:Operand}{z z' v:Value}{bs:Nat}{keys:List Int}{size:Int}{dc d:Nat}{ty ty':TypeId}{tys:Array TypeId}{pos pos':String}{after after':Array Edge}(i j:Nat)
  (hm:ev E m=some (.one (.raw z) v)) (hx:ev E x=some (.one (.raw z') (.pointer (some ⟨bs,0,none⟩)))) (hi:L[i]? =some (Res.dirty P I v keys)) (hj:L[j]? =some (Res.var bs I.int (.int .i64) size)) (hij:i≠j) (hne:m≠.tmp dc) (hdc:Nat.ble (dc+1) n=true) (hdd:Nat.ble (d+1) n=true) (hE:E.get dc=none)
  (hg:Go F n ((d,.tup [])::E) (L.set i (Res.dirty P I v (kc keys size))) (wpList P ops Q rest)):
  Go F n E L (wpList P ops Q (⟨some dc,.makeFunc (.func g) #[] #[x],ty,pos,after,none⟩::⟨some d,.call ⟨.value (.func k),#[m,.tmp dc],tys⟩,ty',pos',after',none⟩::rest)):=by
 have hlt:i<L.length:=by
  rcases Nat.lt_or_ge i L.length with h|h
  ·exact h
  ·simp[List.getElem?_eq_none h]at hi
 refine nj (P:=P) (I:=I) i hi λl hl=>?_
 refine Dq (l:=l) hd hk i j hm hx (by simp[hlt]) (by rw[List.getElem?_set_ne hij];exact hj) hij hne hdc hdd hE ?_
 refine jg (P:=P) (I:=I) (v:=v) (l:=l.filter λp=>decide (IntKind.wrap .i64 (p.1*64)<size)) (keys:=kc keys size) i (by simp[hlt]) ?_ ?_
 ·rw[←hl,kc,List.filter_map];rfl
 ·rw[List.set_set,List.set_set];exact hg
end
end Sx
namespace Sx
open Go Go.Maps Go.Sort Go.RowKit
abbrev byt(x:List Int):List UInt8:=x.map λc=>UInt8.ofNat c.toNat
theorem wY:∀{a b:List UInt8},bytesBefore a b=true→a<b
 |[],[],h=>by simp[bytesBefore]at h
 |[],_::_,_=>List.Lex.nil
 |_::_,[],h=>by simp[bytesBefore]at h
 |x::a,y::b,h=>by
  simp only[bytesBefore,Bool.or_eq_true,Bool.and_eq_true,decide_eq_true_eq,beq_iff_eq]at h
  rcases h with h|⟨rfl,h⟩
  ·exact List.Lex.rel h
  ·exact List.Lex.cons (wY h)
theorem Dr{xs ys:List (List Int)}(hb:∀x∈xs,aQ x)(hp:xs.Perm ys)(hs:ys.Pairwise (λa b=>sLt a b=true)):(xs.map byt).mergeSort (λx y=>decide (x≤y))=ys.map byt:=by
 have h1:=mergeSort_of_perm (hp.map byt)
 have hby:∀y∈ys,aQ y:=λy hy=>hb y (hp.mem_iff.2 hy)
 have h2:(ys.map byt).Pairwise (λa b=>leB a b=true):=by
  rw[List.pairwise_map]
  refine hs.imp_of_mem fun{a b} ha hb' h=>?_
  rw[←sf (hby a ha) (hby b hb')]at h
  simp only[leB,decide_eq_true_eq]
  exact List.le_of_lt (wY h)
 have h3:=List.mergeSort_of_pairwise h2
 exact h1.trans h3
theorem yx{M:Mem}:∀{cs:List Value} {xs:List (List Int)},RepL (Rep .str M) cs xs→cs=xs.map (λx=>Go.Proofs.encStr (byt x))∧∀x∈xs,aQ x∧x.length≤most
 |_,[],h=>⟨h,λ_ h=>by cases h⟩
 |_,x::xs,⟨c1,c2,e,⟨h1,h2⟩,h3⟩=>by
  obtain⟨e2,h4⟩:=yx h3
  refine⟨by rw[e,h1,e2];rfl,λy hy=>?_⟩
  rcases List.mem_cons.1 hy with rfl|hy
  ·exact h2
  ·exact h4 y hy
theorem uJ{M:Mem}:∀{xs:List (List Int)},(∀x∈xs,aQ x∧x.length≤most)→RepL (Rep .str M) (xs.map (λx=>Go.Proofs.encStr (byt x))) xs
 |[],_=>rfl
 |x::xs,h=>⟨[Go.Proofs.encStr (byt x)],_,rfl,⟨rfl,h x (by simp)⟩,uJ λy hy=>h y (by simp[hy])⟩
theorem yy{M:Mem}{k:IntKind}:∀{cs:List Value} {xs:List Int},RepL (Rep (.int k) M) cs xs→cs=xs.map (Value.int k)∧∀x∈xs,rng k x
 |_,[],h=>⟨h,λ_ h=>by cases h⟩
 |_,x::xs,⟨c1,c2,e,⟨h1,h2⟩,h3⟩=>by
  obtain⟨e2,h4⟩:=yy h3
  refine⟨by rw[e,h1,e2];rfl,λy hy=>?_⟩
  rcases List.mem_cons.1 hy with rfl|hy
  ·exact h2
  ·exact h4 y hy
theorem uK{M:Mem}{k:IntKind}:∀{xs:List Int},(∀x∈xs,rng k x)→RepL (Rep (.int k) M) (xs.map (Value.int k)) xs
 |[],_=>rfl
 |x::xs,h=>⟨[Value.int k x],_,rfl,⟨rfl,h x (by simp)⟩,uK λy hy=>h y (by simp[hy])⟩
theorem zO{α:Type}[Inhabited α]{enc:α→Value}{w:World}{g o:Nat}{cur:Array Value}{e:TypeId}{fr:Nat×Nat}{ss:List α}(hb:w.heap[g]? =some (.cells cur e fr))(hf:pT fr cur.size)(ht:(cur.toList.drop o).take ss.length=ss.map enc):Go.Sort.Holds enc w g o ss.toArray:=by
 intro j hj
 have hj':j<ss.length:=by simpa using hj
 have h1:((cur.toList.drop o).take ss.length)[j]? =(ss.map enc)[j]? :=by rw[ht]
 rw[List.getElem?_take_of_lt hj',List.getElem?_drop]at h1
 have hlt:o+j<cur.size:=by
  rcases Nat.lt_or_ge (o+j) cur.size with h|h
  ·exact h
  ·rw[List.getElem?_eq_none (by simpa using h)]at h1
   simp[hj']at h1
 refine⟨?_,?_⟩
 ·simp only[World.cell?,hb]
  simp only[Option.isSome_none,Bool.false_eq_true,if_false]
  rw[←Array.getElem?_toList,h1]
  simp[hj']
 ·simp only[World.frozen?,hb]
  have:=hf (o+j) hlt
  simpa using this
def pZ(P:Program)(k:FuncId){α:Type}[Inhabited α](enc:α→Value)(le:α→α→Bool):Prop:=
 (∀(blk off cap:Nat) (ss:List α) (w:World),Go.Sort.Holds enc w blk off ss.toArray→blk<w.heap.size→ss.length<4611686018427387904→
   Calls P k #[.slice (some ⟨blk,off,none⟩) ss.length cap] w λe w'=>e= .returned (.tuple #[])∧∃n os,w'=grow (putRow enc (Sort.ahead w n) blk off (ss.mergeSort le).toArray) os)∧
 ∀(p:Option Addr) (cap:Nat) (w:World),Calls P k #[.slice p 0 cap] w λe w'=>e= .returned (.tuple #[])∧w'=w
theorem Cn{α:Type}[Inhabited α]{enc:α→Value}{w:World}{g o n:Nat}{os:Array Obj}(d:Array α):w.grownBy (grow (putRow enc (Sort.ahead w n) g o d) os) (some g):=by
 refine⟨rfl,rfl,rfl,by simp,λk hk hne=>?_⟩
 rw[heap_grow_old _ _ (by simpa using hk)]
 have:g≠k:=λe=>hne (by rw[e])
 simp[putRow,mapBlock,Sort.ahead,Array.getElem?_modify,this]
theorem Ds{α:Type}[Inhabited α]{enc:α→Value}{w:World}{g o n:Nat}{os:Array Obj}{cur:Array Value}{e:TypeId}{fr:Nat×Nat}(d:Array α)(hb:w.heap[g]? =some (.cells cur e fr)):
  (grow (putRow enc (Sort.ahead w n) g o d) os).heap[g]? =some (.cells (putCells enc o d cur) e fr):=by
 have hg:g<w.heap.size:=(Array.getElem?_eq_some_iff.1 hb).1
 rw[heap_grow_old _ _ (by simpa using hg)]
 simp[putRow,mapBlock,Sort.ahead,Array.getElem?_modify,hb,onCells]
theorem Dt{α:Type}[Inhabited α]{enc:α→Value}(cur:Array Value)(o:Nat)(ts:List α)(h:o+ts.length≤cur.size):((putCells enc o ts.toArray cur).toList.drop o).take ts.length=ts.map enc:=by
 apply List.ext_getElem?
 intro j
 by_cases hj:j<ts.length
 ·rw[List.getElem?_take_of_lt hj,List.getElem?_drop,Array.getElem?_toList]
  simp[putCells,hj,show o+j<cur.size by omega]
 ·rw[List.getElem?_take_eq_none (by omega),List.getElem?_eq_none (by simp;omega)]
theorem AD{P:Program}{k:FuncId}{e:TypeId}{t:T}(ht:t.size=1){α:Type}[Inhabited α]{enc:α→Value}{le:α→α→Bool}(hk:pZ P k enc le)(f:t.D→α){xs ys:List t.D}(hsort:(xs.map f).mergeSort le=ys.map f)(bU:ys.length=xs.length)(hl:xs.length<4611686018427387904)
  (hx:∀M cs,RepL (Rep t M) cs xs→cs=(xs.map f).map enc∧RepL (Rep t M) ((ys.map f).map enc) ys) (v:Value):
  Fn P k [.one (.raw (.slice none 0 0)) v] [Res.own v e t xs] (λ_=> .tup []) (λ_=>[Res.own v e t ys]):=λF w vs hst hsz hargs=>by
 cases hargs with
 |cons hv hr=>
  cases hr
  obtain⟨hvv,_⟩:=holds_raw.1 hv
  rw[hvv]
  clear hv hvv
  obtain⟨S,hS⟩:=hst.res (i:=0) rfl
  by_cases hne:xs=[]
  ·subst hne
   obtain rfl:ys=[]:=List.eq_nil_of_length_eq_zero bU
   obtain⟨a,cap,rfl⟩:∃a cap,v= .slice a 0 cap:=by
    rcases hS with⟨⟨a,rfl⟩,_⟩|⟨b,o,cap,rfl,_⟩
    ·exact⟨_,_,rfl⟩
    ·exact⟨_,_,rfl⟩
   refine(hk.2 a cap w).mono ?_
   rintro e' w' ⟨rfl,rfl⟩
   exact⟨_,F.base,rfl,hst,[],rfl,.nil⟩
  ·rcases hS with⟨_,h,_⟩|⟨b,o,cap,rfl,hS,c,fr,hb,hrep,hcs,hle,hmost,hfr⟩
   ·exact absurd h hne
   rw[ht,Nat.mul_one]at hrep hcs
   obtain⟨hc,hy⟩:=hx _ _ hrep
   have hc':(c.toList.drop o).take (xs.map f).length=(xs.map f).map enc:=by rw[List.length_map];exact hc
   have hH:=zO (enc:=enc) hb hfr hc'
   have hlt:b<w.heap.size:=cH hb
   have:=hk.1 b o cap (xs.map f) w hH hlt (by rw[List.length_map];exact hl)
   rw[List.length_map]at this
   refine this.mono ?_
   rintro e' w' ⟨rfl,n,os,rfl⟩
   rw[hsort]
   refine⟨_,F.base,rfl,hst.turnG (i:=0) (R':=Res.own (.slice (some ⟨b,o,none⟩) xs.length cap) e t ys) rfl (Cn _) ?_ ?_,[],rfl,.nil⟩
   ·rintro S' h'
    right
    have hSS:∀k,S' k↔k=b:=by
     rcases h' with⟨_,h,_⟩|⟨b',o',cap',h,h2,_⟩
     ·exact absurd h hne
     ·cases h;exact h2
    refine⟨b,o,cap,by rw[bU],hSS,_,fr,Ds _ hb,?_,?_,by rw[bU];exact hle,by rw[bU];exact hmost,?_⟩
    ·rw[ht,Nat.mul_one]
     have:=Dt (enc:=enc) c o (ys.map f) (by rw[List.length_map,bU,hcs];exact Nat.add_le_add_left hle _)
     rw[List.length_map]at this
     rw[this]
     exact hy
    ·simp[putCells,hcs,ht]
    ·have:(putCells enc o (ys.map f).toArray c).size=c.size:=by simp[putCells]
     rw[this];exact hfr
   ·rintro S' h'
    rcases h' with⟨_,h,_⟩|⟨b',o',cap',h,h2,_⟩
    ·exact absurd h hne
    ·cases h;exact(h2 _).2 rfl
theorem Du{P:Program}{ρ:Go.Shelf.Ren}(L:Go.Proofs.SlLaysN.n54 P ρ):pZ P (ρ.f 54) Go.Proofs.encStr (λx y=>decide (x≤y)):=
 ⟨λblk off cap ss w h1 h2 h3=>Go.Proofs.AnyG.slices_Sort_string L blk off cap ss w h1 h2 h3,λp cap w=>Go.Proofs.AnyG.slices_Sort_string_none L p cap w⟩
theorem Dv{P:Program}{ρ:Go.Shelf.Ren}(L:Go.Proofs.SlLaysN.n53 P ρ):pZ P (ρ.f 53) (Value.int .i64) (λx y=>decide (x≤y)):=
 ⟨λblk off cap ss w h1 h2 h3=>Go.Proofs.AnyG.slices_Sort_int L blk off cap ss w h1 h2 h3,λp cap w=>Go.Proofs.AnyG.slices_Sort_int_none L p cap w⟩
theorem Dw{P:Program}{k:FuncId}{e:TypeId}(hk:pZ P k Go.Proofs.encStr (λx y=>decide (x≤y))){xs ys:List (List Int)}(hp:xs.Perm ys)(hs:ys.Pairwise (λa b=>sLt a b=true))(hb:∀x∈xs,aQ x)(hl:xs.length<4611686018427387904)(v:Value):
  Fn P k [.one (.raw (.slice none 0 0)) v] [Res.own v e .str xs] (λ_=> .tup []) (λ_=>[Res.own v e .str ys]):=
 AD (t:= .str) rfl hk byt (Dr hb hp hs) hp.length_eq.symm hl (λM cs h=>by
  obtain⟨h1,h2⟩:=yx h
  refine⟨by rw[h1,List.map_map];rfl,?_⟩
  rw[List.map_map]
  exact uJ λy hy=>h2 y (hp.mem_iff.2 hy)) v
end Sx
namespace Sx
open Go Go.Maps Go.Sort Go.RowKit Go.Proofs
theorem Bf{P:Program}{w:World}{kid:TypeId}{b n':Nat}{kt vt:T}{M:Mem}{lv:List (kt.D×Value)}{l:List (kt.D×vt.D)}(hk:dU P kt kid=true)(h:w.ownsMap P kid gS b n' (dat kt lv))(hr:RelKV M lv l)(ho:koks kt l):(l.map (·.1)).Pairwise (λa b=>klt kt a b=true):=by
 obtain⟨es,he,hp,_⟩:=h.canon (gR hk)
 simp only[DataW.map.injEq]at he
 subst he
 rw[List.pairwise_map]at hp
 have hkeys:lv.map (·.1)=l.map (·.1):=by
  have:∀{lv:List (kt.D×Value)} {l:List (kt.D×vt.D)},RelKV M lv l→lv.map (·.1)=l.map (·.1):=by
   intro lv
   induction lv with
   |nil=>intro l hr;cases l with
    |nil=>rfl
    |cons _ _=>exact hr.elim
   |cons p r ih=>
    intro l hr
    cases l with
    |nil=>exact hr.elim
    |cons q s=>rw[List.map_cons,List.map_cons,hr.1,ih hr.2.2]
  exact this hr
 have hlo:=hr.koks ho
 rw[←hkeys,List.pairwise_map]
 refine hp.imp_of_mem fun{p q} hp' hq' h=>?_
 rw[uG (hlo p hp') (hlo q hq')]at h
 exact h
section
variable {P:Program}{F:Fr}{M:Mem}{n:Nat}{E:Env}{L:List Res}{X:Act→World→Prop}
theorem St.junk{w w':World}(h:St F M w L)(hg:w.grownBy w' none):St F M w' L:=by
 obtain⟨V,s,d⟩:=h.sep
 have hw:∀k,k<w.heap.size→w'.heap[k]? =w.heap[k]? :=λk hk=>hg.block k hk (by simp)
 exact{
  os:=hg.os.trans h.os,tape:=hg.tape.trans h.tape,output:=hg.output.trans h.output,size:=Nat.le_trans h.size hg.size,elder:=h.elder,fresh:=h.fresh
  frame:=λk o e=>by rw[hw k (h.flt e)];exact h.frame k o e
  mem:=λk o e=>by rw[hw k (h.lt e)];exact h.mem k o e
  sep:=⟨V,Sep.loc (λk hk=>hw k (s.has k hk)) s,d⟩}
end
section
variable {P:Program}{I:DI}{F:Fr}{n:Nat}{E:Env}{L:List Res}{ops:Array Oper}{Q:Exit→Act→World→Prop}{rest:List Oper}
theorem Co{X:Act→World→Prop}{mv:Value}{fs:List (List Int×aF)}(hk:dU P .str I.str=true)(g:koks .str fs→(fs.map (·.1)).Pairwise (λa b=>sLt a b=true)→Go F n E (Res.dfiles P I mv fs::L) X):Go F n E (Res.dfiles P I mv fs::L) X:=λM a w c=>by
 obtain⟨S,es,hs⟩:=c.st.res (i:=0) rfl
 obtain⟨A,B,⟨h1,_⟩,hs2,_,_⟩:=hs
 obtain⟨A2,B2,⟨b,lv,rfl,hA,hown,hrel,hok⟩,_⟩:=hs2
 have h2:=Bf hk hown hrel hok
 rw[jf]at h2
 refine g ?_ ?_ M a w c
 ·rw[h1];exact pmap_koks.2 (pmap_koks.1 hok)
 ·rw[h1,jf]
  exact h2
end
end Sx
namespace Sx
open Go Go.Maps Go.RowKit
def aV(b:Nat)(e:TypeId)(t:T)(x:t.D)(w:World):Prop:=∃(cs:List Value) (M:Mem),w.heap[b]? =some (.cells cs.toArray e (0,0))∧Rep t M cs x
section
variable {P:Program}{Tb:Tab}{F:Fr}{n:Nat}{E E':Env}{L:List Res}{ops:Array Oper}{Q:Exit→Act→World→Prop}{S:World→Prop}
theorem gE{id:Nat}{l:List Oper}(S:World→Prop)(hm:P.follows .mixedOrders=true)(g:Go F n E L (wpAnyH P .any l.toArray Q S l.toArray.size (Array.replicate l.toArray.size false))):Go F n E L ((Code.region id l.toArray true).wp P Q):=
 λM a _ c=>wp_region_held (S:=S) hm (g M a _ {c with st:=c.st.drew})
theorem Cp{fuel i:Nat}{op:Op}{d:Nat}{ty:TypeId}{pos:String}{after:Array Edge}{listed:Array Bool}{t:TV}(hQ:iR Q)(hi:ops[i]? =some ⟨some d,op,ty,pos,after,none⟩)(hs:Region.noSelect ops=true)
  (hr:(Region.ready .any ops listed).contains i=true) (hf:Region.free .any ops listed i=true) (hS:∀M w,St F M w L→S w) (h:Yields (λ_ w'=>S w') P F n E L op t) (hd:Nat.ble (d+1) n=true)
  (g:Go F n ((d,t)::E) L (wpAnyH P .any ops Q S fuel (listed.setIfInBounds i true))):Go F n E L (wpAnyH P .any ops Q S (fuel+1) listed):=λM a w c=>by
 obtain⟨v,hv,hrun⟩:=h ⟨some d,op,ty,pos,after,none⟩ rfl M a w c
 refine wpAnyH_take (oi:=⟨some d,op,ty,pos,after,none⟩) (v:=v) hi hs hf hr (λch a w h=>hQ ch a _ _ w h) (.inl ⟨by simp[Region.wanted],λw' hw'=>hrun w' hw'⟩) (hS _ _ c.st) ?_
 exact g M _ w (c.put (Mem.le.refl _) c.st (Nat.le_of_ble_eq_true hd) hv)
theorem cq{x:Operand}{z:Value}{b off:Nat}{e:TypeId}{t u:T}{xv:t.D}{tid:TypeId}(hV:∀w,S w→aV b e t xv w)(i:Nat)(p:Pth t u)(hfl:u.flat=true)(hx:ev E x=some (.one (.raw z) (.pointer (some ⟨b,off,none⟩))))(hi:L[i]? =some (Res.var b e t xv))
  (hp:p.off=off) (hok:p.ok) (ht:aW P u tid=true):Yields (λ_ w'=>S w') P F n E L (.load tid x) (.one u (p.get xv)):=λo ho M a w c=>by
 obtain⟨cs,hb,hr⟩:=c.st.var hi
 have hf:=p.fits hok
 have hrep:=Rep.get p hok hr
 rw[hp]at hrep hf
 refine⟨mk u ((cs.drop off).take u.size),⟨_,rfl,hrep⟩,λw' hs=>?_⟩
 obtain⟨cs',M',hb',hr'⟩:=hV w' hs
 have hl:=hr'.size
 have hrep':=Rep.get p hok hr'
 rw[hp]at hrep'
 have hq:(cs'.drop off).take u.size=(cs.drop off).take u.size:=Rep.unique hfl hrep' hrep
 have key:=jn (P:=P) (w:=w') ht hb' (by simp[hl];exact hf) (M:=M') (x:=p.get xv) (by simpa using hrep')
 obtain⟨dst,op,ty,pos,after,guard⟩:=o
 simp only at ho;subst ho
 have h1:=(holds_raw.1 (aJ c hx)).1
 exact bz (by rw[h1,←hq];simp only[Instr.loadAt,Instr.sureAddr,ao,aG];simpa using key)
theorem Gz{fuel i:Nat}{o:Oper}{listed:Array Bool}(hr:Region.ready .any ops listed=[i])(hi:ops[i]? =some o)(g:Go F n E L (wpList P ops (Exit.then (λa w=>S w∧wpAnyH P .any ops Q S fuel (listed.setIfInBounds i true) a w) Q) [o])):
  Go F n E L (wpAnyH P .any ops Q S (fuel+1) listed):=λM a w c=>by
 refine wpAnyH_all hr (by simp) λj hj=>?_
 obtain rfl:=List.mem_singleton.1 hj
 exact gr hi (g M a w c)
theorem aR{fuel:Nat}{listed:Array Bool}(hS:∀M w,St F M w L→S w)(g:Go F n E L (wpAnyH P .any ops Q S fuel listed)):Go F n E L (λa w=>S w∧wpAnyH P .any ops Q S fuel listed a w):=λM a w c=>⟨hS _ _ c.st,g M a w c⟩
theorem dF{listed:Array Bool}(hr:Region.ready .any ops listed=[])(g:Go F n E L (Q .normal)):Go F n E L (wpAnyH P .any ops Q S 0 listed):=λM a w c=>⟨hr,g M a w c⟩
end
section
variable {P:Program}{F:Fr}{n:Nat}{E:Env}{L:List Res}{ops:Array Oper}{Q:Exit→Act→World→Prop}{S:World→Prop}
theorem om{X:Act→World→Prop}{d:Nat}{b:Bool}(hE:E.get d=some (.one .bool b))(g1:b=true→Go F n ((d,.one .bool true)::E) L X)(g2:b=false→Go F n ((d,.one .bool false)::E) L X):Go F n E L X:=λM a w c=>by
 have more:∀v:Bool,b=v→Cfg F M n ((d,.one .bool v)::E) L a w:=λv hv=>by
  have env:∀i t,Env.get ((d,TV.one T.bool v)::E) i=some t→∃u,a.tmps[i]? =some u∧t.holds M u:=λi t h=>by
   simp only[Env.get]at h
   split at h
   ·rename_i hb
    obtain rfl:=Nat.eq_of_beq_eq_true hb
    cases h
    rw[←hv];exact c.env _ _ hE
   ·exact c.env i t h
  exact⟨c.st,c.defers,c.size,env⟩
 cases b with
 |true=>exact g1 rfl M a w (more true rfl)
 |false=>exact g2 rfl M a w (more false rfl)
theorem AE{fuel i j dj d:Nat}{want:Bool}{op:Op}{ty:TypeId}{pos:String}{after:Array Edge}{listed:Array Bool}(hQ:iR Q)(hi:ops[i]? =some ⟨some d,op,ty,pos,after,some (j,want)⟩)(hs:Region.noSelect ops=true)
  (hr:(Region.ready .any ops listed).contains i=true) (hf:Region.free .any ops listed i=true) (hS:∀M w,St F M w L→S w) (hd:(ops[j]?).bind (·.dst)=some dj) (hE:E.get dj=some (.one .bool (!want))∨E.get dj=some (.tup [])) (hn:Nat.ble (d+1) n=true)
  (g:Go F n ((d,.tup [])::E) L (wpAnyH P .any ops Q S fuel (listed.setIfInBounds i true))):Go F n E L (wpAnyH P .any ops Q S (fuel+1) listed):=λM a w c=>by
 have hw:Region.wanted (⟨some d,op,ty,pos,after,some (j,want)⟩:Oper) (yielded ops a.tmps)=false:=by
  rcases hE with hE|hE
  ·rw[ky (o:=⟨some d,op,ty,pos,after,some (j,want)⟩) (ops:=ops) c rfl hd hE];cases want<;>rfl
  ·exact nu (o:=⟨some d,op,ty,pos,after,some (j,want)⟩) (ops:=ops) c rfl hd hE
 refine wpAnyH_take (oi:=⟨some d,op,ty,pos,after,some (j,want)⟩) (v:=undef) hi hs hf hr (λch a w h=>hQ ch a _ _ w h) (.inr ⟨hw,rfl⟩) (hS _ _ c.st) ?_
 exact g M _ w (c.put (Mem.le.refl _) c.st (Nat.le_of_ble_eq_true hn) ⟨[],rfl,.nil⟩)
theorem wu{fuel i j dj d:Nat}{want:Bool}{op:Op}{ty:TypeId}{pos:String}{after:Array Edge}{listed:Array Bool}{t:TV}(hQ:iR Q)(hi:ops[i]? =some ⟨some d,op,ty,pos,after,some (j,want)⟩)(hs:Region.noSelect ops=true)
  (hr:(Region.ready .any ops listed).contains i=true) (hf:Region.free .any ops listed i=true) (hS:∀M w,St F M w L→S w) (hdj:(ops[j]?).bind (·.dst)=some dj) (hE:E.get dj=some (.one .bool want)) (h:Yields (λ_ w'=>S w') P F n E L op t) (hd:Nat.ble (d+1) n=true)
  (g:Go F n ((d,t)::E) L (wpAnyH P .any ops Q S fuel (listed.setIfInBounds i true))):Go F n E L (wpAnyH P .any ops Q S (fuel+1) listed):=λM a w c=>by
 obtain⟨v,hv,hrun⟩:=h ⟨some d,op,ty,pos,after,some (j,want)⟩ rfl M a w c
 have hw:Region.wanted (⟨some d,op,ty,pos,after,some (j,want)⟩:Oper) (yielded ops a.tmps)=true:=by
  rw[ky (o:=⟨some d,op,ty,pos,after,some (j,want)⟩) (ops:=ops) c rfl hdj hE];cases want<;>rfl
 refine wpAnyH_take (oi:=⟨some d,op,ty,pos,after,some (j,want)⟩) (v:=v) hi hs hf hr (λch a w h=>hQ ch a _ _ w h) (.inl ⟨hw,λw' hw'=>hrun w' hw'⟩) (hS _ _ c.st) ?_
 exact g M _ w (c.put (Mem.le.refl _) c.st (Nat.le_of_ble_eq_true hd) hv)
end
def jP(b o:Nat)(e:TypeId)(t:T)(xs:List t.D)(w:World):Prop:=∃(cc:Array Value) (fr:Nat×Nat) (M:Mem),w.heap[b]? =some (.cells cc e fr)∧RepL (Rep t M) ((cc.toList.drop o).take (xs.length*t.size)) xs∧o+xs.length*t.size≤cc.size
def bC(l:List (World→Prop))(w:World):Prop:=∀p∈l,p w
theorem bn{l:List (World→Prop)}{p:World→Prop}(i:Nat)(h:l[i]? =some p):∀w,bC l w→p w:=λ_ hw=>hw p (List.mem_of_getElem? h)
section
variable {P:Program}{F:Fr}{n:Nat}{E:Env}{L:List Res}{S:World→Prop}
theorem aj:∀M w,St F M w L→bC [] w:=λ_ _ _ p hp=>by cases hp
theorem ae{q:World→Prop}{l:List (World→Prop)}(h:∀M w,St F M w L→q w)(r:∀M w,St F M w L→bC l w):∀M w,St F M w L→bC (q::l) w:=λM w st p hp=>by
 rcases List.mem_cons.1 hp with rfl|hp
 ·exact h M w st
 ·exact r M w st p hp
theorem ak{b:Nat}{e:TypeId}{t:T}{x:t.D}(i:Nat)(hi:L[i]? =some (Res.var b e t x)):∀M w,St F M w L→aV b e t x w:=λM w st=>by
 obtain⟨cs,hb,hr⟩:=st.var hi
 exact⟨cs,M,hb,hr⟩
theorem lG{b o len cap:Nat}{e:TypeId}{t:T}{xs:List t.D}(i:Nat)(hi:L[i]? =some (Res.own (.slice (some ⟨b,o,none⟩) len cap) e t xs))(h0:0<xs.length):∀M w,St F M w L→jP b o e t xs w:=λM w st=>by
 obtain⟨S,hs⟩:=st.res hi
 rcases hs with⟨_,h,_⟩|⟨b',o',cap',h,h2,cc,fr,h3,h4,h5,h6,h7,h8⟩
 ·rw[h]at h0;simp at h0
 ·cases h
  exact⟨cc,fr,M,h3,h4,by rw[h5];exact Nat.add_le_add_left (Nat.mul_le_mul_right _ h6) _⟩
theorem tG{x:Operand}{z:Value}{b o0 off len cap:Nat}{e:TypeId}{t u:T}{xs:List t.D}{tid:TypeId}(hV:∀w,S w→jP b o0 e t xs w)(i j:Nat)(p:Pth t u)(hfl:u.flat=true)(hx:ev E x=some (.one (.raw z) (.pointer (some ⟨b,off,none⟩))))(hi:L[i]? =some (Res.own (.slice (some ⟨b,o0,none⟩) len cap) e t xs))
  (hj:j<xs.length) (hp:o0+j*t.size+p.off=off) (hok:p.ok) (ht:aW P u tid=true):Yields (λ_ w'=>S w') P F n E L (.load tid x) (.one u (p.get (xs.getD j t.zero))):=λo ho M a w c=>by
 have one:∀w',jP b o0 e t xs w'→∃v,(∃M',Holds u M' v (p.get (xs.getD j t.zero)))∧(loadVar tid ⟨b,off,none⟩).run P w'= .ok v w':=by
  rintro w' ⟨cc,fr,M',h3,h4,h5⟩
  have hget:xs[j]? =some (xs.getD j t.zero):=by simp[List.getD,hj]
  have hrep:=RepL.get (s:=t.size) (λc x h=>Rep.size h) h4 hget
  have hm:j*t.size+t.size≤xs.length*t.size:=by rw[←Nat.succ_mul];exact Nat.mul_le_mul_right _ hj
  have hf:=p.fits hok
  have e1:(((cc.toList.drop o0).take (xs.length*t.size)).drop (j*t.size)).take t.size=(cc.toList.drop (o0+j*t.size)).take t.size:=by
   rw[List.drop_take,List.take_take,Nat.min_eq_left (by omega),List.drop_drop]
  rw[e1]at hrep
  have hr2:=Rep.get p hok hrep
  rw[gQ _ _ _ _ _ hf,hp]at hr2
  exact⟨_,⟨M',_,rfl,hr2⟩,jn (P:=P) (w:=w') ht h3 (by omega) hr2⟩
 have hw:jP b o0 e t xs w:=by
  obtain⟨S',hs⟩:=c.st.res hi
  exact lG i hi (by omega) M w c.st
 obtain⟨v,⟨M',hv⟩,_⟩:=one w hw
 refine⟨v,hv.any hfl,λw' hs=>?_⟩
 obtain⟨v',⟨M2,hv2⟩,hrun⟩:=one w' (hV w' hs)
 obtain rfl:v'=v:=Holds.unique hfl hv2 hv
 obtain⟨dst,op,ty,pos,after,guard⟩:=o
 simp only at ho;subst ho
 have h1:=(holds_raw.1 (aJ c hx)).1
 exact bz (by rw[h1];simp only[Instr.loadAt,Instr.sureAddr,ao,aG];exact hrun)
end
structure Kind where
 D:Type
 γ:Type
 R:Nat→γ→D→List Res
def Res.cls(K:Kind)(p:Value)(x:K.D):Res:=Res.ex λ(g:Nat×K.γ)=>Res.all (Res.fact (p= .pointer (some ⟨g.1,0,none⟩))::K.R g.1 g.2 x)
def Res.clsif(K:Kind)(p:Value)(x:K.D)(e:Int):Res:=if e=0 then Res.cls K p x else Res.fact (p=NV)
section
variable {K:Kind}{P:Program}{F:Fr}{n:Nat}{E:Env}{L:List Res}{X:Act→World→Prop}
theorem kd{p:Value}{x:K.D}(g:∀b s,p= .pointer (some ⟨b,0,none⟩)→Go F n E (K.R b s x++L) X):Go F n E (Res.cls K p x::L) X:=
 fK λ⟨b,s⟩=>ez (da λh=>g b s h)
theorem m5{b0:Nat}{x:K.D}(g:∀s,Go F n E (K.R b0 s x++L) X):Go F n E (Res.cls K (.pointer (some ⟨b0,0,none⟩)) x::L) X:=
 kd λb s h=>by
  have:b0=b:=by simpa using h
  subst this;exact g s
theorem nF{b:Nat}{s:K.γ}{x:K.D}(g:Go F n E (Res.cls K (.pointer (some ⟨b,0,none⟩)) x::L) X):Go F n E (K.R b s x++L) X:=λM a w c=>by
 refine g M a w {c with st:=c.st.sep_to λV hs=>?_}
 obtain⟨A,B,sa,sb,d,e⟩:=Sep.split hs
 exact⟨A,B,⟨(b,s),iA rfl sa⟩,sb,d,e⟩
theorem dM{p:Value}{x:K.D}{e:Int}(h:e=0):∀M S w,(Res.clsif K p x e).sat M S w→(Res.cls K p x).sat M S w:=λM S w g=>by
 unfold Res.clsif at g
 rwa [if_pos h]at g
theorem cT{p:Value}{x:K.D}{e:Int}(h:e=0):∀M S w,(Res.cls K p x).sat M S w→(Res.clsif K p x e).sat M S w:=λM S w g=>by
 unfold Res.clsif
 rw[if_pos h];exact g
theorem eN{x:K.D}{e:Int}(he:e≠0)(g:Go F n E (Res.clsif K NV x e::L) X):Go F n E L X:=by
 have:Res.clsif K NV x e=Res.fact (NV=NV):=by unfold Res.clsif;rw[if_neg he]
 rw[this]at g
 exact oZ rfl g
theorem yz{x:Operand}{z p:Value}{tid w0 e:TypeId}{D:K.D}{f:Int}(i:Nat)(hx:ev E x=some (.one (.raw z) p))(hi:L[i]? =some (Res.clsif K p D f))(hu:P.underlying tid=some (.pointer e)):Yields Same P F n E L (.binOp .eql tid x (.const (.pointer none)) w0) (.one .bool (f !=0)):=λo ho M a' w c=>by
 obtain⟨S,hs⟩:=c.st.res hi
 have:∃a,p= .pointer a∧a.isNone=(f !=0):=by
  by_cases hf:f=0
  ·unfold Res.clsif at hs
   rw[if_pos hf]at hs
   obtain⟨g,A,B,⟨h1,_⟩,_⟩:=hs
   exact⟨_,h1,by simp[hf]⟩
  ·unfold Res.clsif at hs
   rw[if_neg hf]at hs
   exact⟨none,hs.1,by simp[hf]⟩
 obtain⟨a,h1,h2⟩:=this
 have:=Ci (R:=Same) (P:=P) (F:=F) (n:=n) (E:=E) (L:=L) (w0:=w0) hx h1 hu o ho M a' w c
 rwa [h2]at this
end
section
variable {P:Program}{Tb:Tab}{F:Fr}{n:Nat}{E:Env}{L:List Res}{ops:Array Oper}{Q:Exit→Act→World→Prop}{S:World→Prop}
theorem qw{fuel i j:Nat}{o o2:Oper}{listed:Array Bool}(hr:Region.ready .any ops listed=[i,j])(hi:ops[i]? =some o)(hj:ops[j]? =some o2)(g:Go F n E L (wpList P ops (Exit.then (λa w=>S w∧wpAnyH P .any ops Q S fuel (listed.setIfInBounds i true) a w) Q) [o]))
  (g2:Go F n E L (wpList P ops (Exit.then (λa w=>S w∧wpAnyH P .any ops Q S fuel (listed.setIfInBounds j true) a w) Q) [o2])):Go F n E L (wpAnyH P .any ops Q S (fuel+1) listed):=λM a w c=>by
 refine wpAnyH_all hr (by simp) λk hk=>?_
 rcases List.mem_cons.1 hk with rfl|hk
 ·exact gr hi (g M a w c)
 ·obtain rfl:=List.mem_singleton.1 hk
  exact gr hj (g2 M a w c)
theorem EV{fuel i j l:Nat}{o o2 o3:Oper}{listed:Array Bool}(hr:Region.ready .any ops listed=[i,j,l])(hi:ops[i]? =some o)(hj:ops[j]? =some o2)(hl:ops[l]? =some o3)(g:Go F n E L (wpList P ops (Exit.then (λa w=>S w∧wpAnyH P .any ops Q S fuel (listed.setIfInBounds i true) a w) Q) [o]))
  (g2:Go F n E L (wpList P ops (Exit.then (λa w=>S w∧wpAnyH P .any ops Q S fuel (listed.setIfInBounds j true) a w) Q) [o2]))
  (g3:Go F n E L (wpList P ops (Exit.then (λa w=>S w∧wpAnyH P .any ops Q S fuel (listed.setIfInBounds l true) a w) Q) [o3])):Go F n E L (wpAnyH P .any ops Q S (fuel+1) listed):=λM a w c=>by
 refine wpAnyH_all hr (by simp) λk hk=>?_
 rcases List.mem_cons.1 hk with rfl|hk
 ·exact gr hi (g M a w c)
 ·rcases List.mem_cons.1 hk with rfl|hk
  ·exact gr hj (g2 M a w c)
  ·obtain rfl:=List.mem_singleton.1 hk
   exact gr hl (g3 M a w c)
theorem Cq{γ:Type}{fuel:Nat}{listed:Array Bool}(E':γ→Env)(L':γ→List Res)(g1:∀x,Go F n (E' x) (L' x) (Q .normal))(g2:(∀x,Go F n (E' x) (L' x) (Q .normal))→Go F n E L (wpAnyH P .any ops Q S fuel listed)):Go F n E L (wpAnyH P .any ops Q S fuel listed):=g2 g1
end
end Sx
namespace Sx
open Go Go.RowKit
def eu(x s:List Int):Option (Int×Value×List Int):=if s≠[]∧x.length+s.length≤140737488355328 then some ((s.length:Int),.nilIface,x++s)else none
abbrev BT:T:= .pair (.raw (.pointer none)) (.pair (.raw (.slice none 0 0)) .unit)
def lH(T e:Nat):Kind:=⟨List Int,Value×Value,λb g x=>[Res.fact (((g.1= .pointer none∨g.1= .pointer (some ⟨b,0,none⟩))∧pj g.2)∧(x=[]→g.2= .slice none 0 0)),Res.var b T BT (g.1,g.2,()),Res.own g.2 e (.int .u8) x]⟩
def Res.ownR(v:Value)(e:Nat)(x:List Int):Res where
 sat _ S w:=(v= .slice none 0 0∧x=[]∧∀k,S k→k<w.heap.size)∨∃g cap,x≠[]∧v= .slice (some ⟨g,0,none⟩) x.length cap∧(∀k,S k↔k=g)∧∃(c:Array Value) (fr:Nat×Nat),w.heap[g]? =some (.cells c e fr)∧c.toList.take x.length=x.map (λy=>Value.int .u8 y)∧aQ x∧c.size=cap∧x.length≤cap∧x.length≤most
 mono _:=id
 loc h:=λg=>g.elim (λ⟨h1,h2,h3⟩=> .inl ⟨h1,h2,λk hk=>Ad (h k hk) (h3 k hk)⟩) λ⟨g,cap,h0,h1,h2,c,fr,h3,h4⟩=> .inr ⟨g,cap,h0,h1,h2,c,fr,by rw[h g ((h2 g).2 rfl)];exact h3,h4⟩
 has:=λg k hk=>by
  rcases g with⟨_,_,h⟩|⟨b,cap,_,_,h2,c,fr,h3,_⟩
  ·exact h k hk
  ·obtain rfl:=(h2 k).1 hk;exact cH h3
def oM(T e:Nat):Kind:=⟨List Int,Value×Value,λb g x=>[Res.var b T BT (g.1,g.2,()),Res.ownR g.2 e x]⟩
section
variable {P:Program}{T e:Nat}{F:Fr}{n:Nat}{E:Env}{L:List Res}{X:Act→World→Prop}
theorem Dx{b:Nat}(g:Go F n E (Res.cls (lH T e) (.pointer (some ⟨b,0,none⟩)) []::L) X):Go F n E (Res.var b T BT (.pointer none,.slice none 0 0,())::L) X:=by
 refine bT (.slice none 0 0) rfl e (.int .u8) ?_
 refine oZ (p:=(((Value.pointer none= .pointer none∨Value.pointer none= .pointer (some ⟨b,0,none⟩))∧pj (.slice none 0 0))∧(([]:List Int)=[]→Value.slice none 0 0= .slice none 0 0))) ⟨⟨.inl rfl,Db _ _⟩,λ_=>rfl⟩ ?_
 refine ny (L':=[Res.fact _,Res.var b T BT (.pointer none,.slice none 0 0,()),Res.own (.slice none 0 0) e (.int .u8) ([]:List Int)]++L) (.cons _ (List.Perm.swap _ _ _)) ?_
 exact nF (K:=lH T e) (s:=(.pointer none,.slice none 0 0)) (x:=([]:List Int)) g
theorem EW{p:Value}{x:List Int}(g:∀b p0 sv,p= .pointer (some ⟨b,0,none⟩)→(p0= .pointer none∨p0= .pointer (some ⟨b,0,none⟩))→pj sv→Go F n E (Res.var b T BT (p0,sv,())::Res.own sv e (.int .u8) x::L) X):Go F n E (Res.cls (lH T e) p x::L) X:=
 kd (K:=lH T e) λb s h=>da λhf=>g b s.1 s.2 h hf.1.1 hf.1.2
theorem GA{b:Nat}{p0 sv:Value}{x:List Int}(h0:p0= .pointer none∨p0= .pointer (some ⟨b,0,none⟩))(ho:pj sv)(hx:x≠[])(g:Go F n E (Res.cls (lH T e) (.pointer (some ⟨b,0,none⟩)) x::L) X):Go F n E (Res.var b T BT (p0,sv,())::Res.own sv e (.int .u8) x::L) X:=
 oZ (p:=(((p0= .pointer none∨p0= .pointer (some ⟨b,0,none⟩))∧pj sv)∧(x=[]→sv= .slice none 0 0))) ⟨⟨h0,ho⟩,λh=>absurd h hx⟩ (nF (K:=lH T e) (s:=(p0,sv)) (x:=x) g)
theorem wZ{M:Mem}{cs:List Value}{p0 sv:Value}(h:Rep BT M cs (p0,sv,())):cs=[p0,sv]∧one sv=true:=by
 obtain⟨c1,c2,e1,h1,c3,c4,e2,h2,h3⟩:=h
 have h3':c4=[]:=h3
 exact⟨by rw[e1,h1.1,e2,h2.1,h3'];rfl,h2.2⟩
theorem GB{kcc:FuncId}(hu:∀(b:Nat) (w:World),w.cell? ⟨b,0,none⟩=some (.pointer (some ⟨b,0,none⟩))→Calls P kcc #[.pointer (some ⟨b,0,none⟩)] w λe w'=>e= .returned (.tuple #[])∧w'=w)
  (hf:∀(b:Nat) (w:World),w.cell? ⟨b,0,none⟩=some (.pointer none)→w.shape? b=some (T,2)→w.frozen? ⟨b,0,none⟩=false→Calls P kcc #[.pointer (some ⟨b,0,none⟩)] w λe w'=>e= .returned (.tuple #[])∧w'=w.setCell ⟨b,0,none⟩ (.pointer (some ⟨b,0,none⟩)))
  {b:Nat} {p0 sv:Value} (h0:p0= .pointer none∨p0= .pointer (some ⟨b,0,none⟩)):Fn P kcc [ptr b 0] [Res.var b T BT (p0,sv,())] (λ_=> .tup []) (λ_=>[Res.var b T BT (.pointer (some ⟨b,0,none⟩),sv,())]):=by
 intro F w vs hst hsz hargs
 cases hargs with
 |cons a r=>
  cases r
  obtain⟨rfl,_⟩:=holds_raw.1 a
  obtain⟨cs,hb,hr⟩:=hst.var (i:=0) rfl
  obtain⟨hc,hone⟩:=wZ hr
  subst hc
  rcases h0 with rfl|rfl
  ·refine(hf b w (by simp[World.cell?,hb]) (by simp[World.shape?,hb]) (by simp[World.frozen?,hb])).mono ?_
   rintro e w' ⟨rfl,rfl⟩
   have hset:(w.setCell ⟨b,0,none⟩ (.pointer (some ⟨b,0,none⟩))).heap[b]? =some (.cells #[.pointer (some ⟨b,0,none⟩),sv] T (0,0)):=by
    unfold World.setCell
    simp[Array.getElem?_modify,hb]
   refine⟨_,F.base,rfl,?_,⟨[],rfl,.nil⟩⟩
   refine hst.turn (i:=0) rfl (R':=Res.var b T BT (.pointer (some ⟨b,0,none⟩),sv,())) (B:=λk=>k=b) ?_ ?_ ?_ rfl rfl rfl (by simp[World.setCell])
   ·rintro S ⟨hS,_⟩
    exact⟨hS,[.pointer (some ⟨b,0,none⟩),sv],by simpa using hset,[.pointer (some ⟨b,0,none⟩)],[sv],rfl,⟨rfl,rfl⟩,[sv],[],rfl,⟨rfl,hone⟩,rfl⟩
   ·rintro S ⟨hS,_⟩ k rfl;exact(hS _).2 rfl
   ·intro k hk
    unfold World.setCell
    simp only[Array.getElem?_modify]
    rw[if_neg (λh=>hk h.symm)]
  ·refine(hu b w (by simp[World.cell?,hb])).mono ?_
   rintro e w' ⟨rfl,rfl⟩
   exact⟨_,F.base,rfl,hst,⟨[],rfl,.nil⟩⟩
theorem u1{p:Value}{x:List Int}:∀M S w,(Res.cls (lH T e) p x).sat M S w→(Res.cls (oM T e) p x).sat M S w:=by
 rintro M S w ⟨g,S1,V1,hp,s1,d1,e1⟩
 refine⟨g,S1,V1,hp,?_,d1,e1⟩
 obtain⟨S2,V2,⟨⟨⟨hf1,hf0⟩,hf2⟩,hS2⟩,⟨S3,V3,hv,⟨S4,V4,ho,s4,d4,e4⟩,d3,e3⟩,d2,e2⟩:=s1
 refine⟨S3,V3,hv,⟨S4,V4,?_,s4,d4,e4⟩,d3,λk=>by rw[e2 k,e3 k];exact⟨λh=>h.elim (λh=>absurd h (hS2 k)) id,.inr⟩⟩
 rcases ho with⟨⟨a,h1⟩,h2,h3⟩|⟨b,o,cap,h1,h2,c,fr,h3,h4,h5,h6,h7,h8⟩
 ·exact .inl ⟨hf2 h2,h2,h3⟩
 ·by_cases hx:x=[]
  ·have:=hf2 hx
   rw[this]at h1
   cases h1
  ·obtain rfl:o=0:=hf0 _ _ _ _ h1
   obtain⟨q1,q2⟩:=lS h4
   simp only[Sx.T.size,Nat.mul_one,List.drop_zero,Nat.zero_add]at q1 h5
   exact .inr ⟨b,cap,hx,h1,h2,c,fr,h3,q1,q2,h5,h6,h7⟩
theorem FJ{ks:FuncId}(h1:∀(b g cap:Nat) (p:Value) (cur:Array Value) (fz:Nat×Nat) (l:List UInt8) (w:World),l≠[]→w.heap[b]? =some (.cells #[p,.slice (some ⟨g,0,none⟩) l.length cap] T (0,0))→w.heap[g]? =some (.cells cur e fz)→l.length≤cap→l.length≤4611686018427387904→cur.size=cap*1→cur.toList.take l.length=Lib.byteCells l→
   Calls P ks #[.pointer (some ⟨b,0,none⟩)] w λen w'=>en= .returned (.string ⟨l.toArray⟩)∧w'=w.drew.freeze ⟨g,0,none⟩ l.length)
  (h0:∀(b:Nat) (p:Value) (w:World),w.heap[b]? =some (.cells #[p,.slice none 0 0] T (0,0))→Calls P ks #[.pointer (some ⟨b,0,none⟩)] w λen w'=>en= .returned (.string ⟨#[]⟩)∧w'=w.drew)
  {p:Value} {x:List Int}:Fn P ks [.one (.raw (.pointer none)) p] [Res.cls (oM T e) p x] (λ_=> .one .str x) (λ_=>[Res.cls (oM T e) p x]):=by
 intro F w vs hst hsz hargs
 cases hargs with
 |cons a r=>
  cases r
  rw[(holds_raw.1 a).1]
  obtain⟨b,p0,sv,rfl,hst2⟩:∃b p0 sv,p= .pointer (some ⟨b,0,none⟩)∧St F F.base w [Res.var b T BT (p0,sv,()),Res.ownR sv e x]:=by
   obtain⟨V,⟨S,V',⟨g,S1,V1,⟨hp,hS1⟩,s1,d1,e1⟩,s,d,en⟩,dd⟩:=hst.sep
   refine⟨g.1,g.2.1,g.2.2,hp,{hst with sep:=⟨V,?_,dd⟩}⟩
   refine Sep.eqv (λk=>?_) s1
   rw[en k,e1 k]
   exact⟨λh=> .inl (.inr h),λh=>h.elim (λh=>h.elim (λh=>absurd h (hS1 k)) id) (λh=>absurd h (s k))⟩
  have back:∀{w':World},St F F.base w' [Res.var b T BT (p0,sv,()),Res.ownR sv e x]→St F F.base w' [Res.cls (oM T e) (.pointer (some ⟨b,0,none⟩)) x]:=λh=>h.sep_to λV hs=>by
   refine⟨V,λ_=>False,⟨(b,p0,sv),λ_=>False,V,⟨rfl,λ_ h=>h⟩,hs,λ_ h=>h.elim,λk=>⟨.inr,λh=>h.elim False.elim id⟩⟩,λ_ h=>h,λ_ _ h=>h,λk=>⟨.inl,λh=>h.elim id False.elim⟩⟩
  obtain⟨cs,hb,hr⟩:=hst2.var (i:=0) rfl
  obtain⟨hc,hone⟩:=wZ hr
  subst hc
  obtain⟨S,hS⟩:=hst2.res (i:=1) rfl
  have hdr:St F F.base w.drew [Res.var b T BT (p0,sv,()),Res.ownR sv e x]:=hst2.drew
  rcases hS with⟨rfl,rfl,_⟩|⟨g,cap,hne,rfl,hSg,c,fr,g1,g2,g3,g4,g5,g6⟩
  ·refine(h0 b p0 w hb).mono ?_
   rintro en w' ⟨rfl,rfl⟩
   exact⟨_,F.base,rfl,back hdr,oL (l:=[]) (by simp)⟩
  ·have bU:(toB x).length=x.length:=Bd x
   have hbc:x.map (λy=>Value.int .u8 y)=Lib.byteCells (toB x):=by
    unfold Lib.byteCells toB
    rw[List.map_map]
    refine List.map_congr_left λy hy=>?_
    have:=g3 y hy
    simp only[Function.comp,UInt8.toNat_ofNat']
    congr 1;omega
   refine(h1 b g cap p0 c fr (toB x) w (λh=>hne (by have:=bU;rw[h]at this;exact List.length_eq_zero_iff.1 this.symm)) (by rw[bU];exact hb) g1 (by omega) (by simp only[most]at g6;omega) (by omega) (by rw[bU,g2,hbc])).mono ?_
   rintro en w' ⟨rfl,rfl⟩
   have hval:Holds .str F.base (.string ⟨(toB x).toArray⟩) x:=by
    have:=oL (M:=F.base) (l:=toB x) (by rw[bU];exact g6)
    rwa [AB g3]at this
   refine⟨_,F.base,rfl,back ?_,hval⟩
   have hfz:∀k,k≠g→(w.drew.freeze ⟨g,0,none⟩ (toB x).length).heap[k]? =w.heap[k]? :=λk hk=>by
    unfold World.freeze
    split
    ·rfl
    ·simp only[Array.getElem?_modify]
     rw[if_neg (λh=>hk h.symm)];rfl
   have hfg:∃fr',(w.drew.freeze ⟨g,0,none⟩ (toB x).length).heap[g]? =some (.cells c e fr'):=by
    unfold World.freeze
    split
    ·exact⟨fr,g1⟩
    ·obtain⟨lo,hi⟩:=fr
     simp only[Array.getElem?_modify]
     rw[if_pos trivial,show w.drew.heap[g]? =some (.cells c e (lo,hi))from g1]
     exact⟨_,rfl⟩
   obtain⟨fr',hfg⟩:=hfg
   have:=hdr.turn (i:=1) rfl (R':=Res.ownR (.slice (some ⟨g,0,none⟩) x.length cap) e x) (w':=w.drew.freeze ⟨g,0,none⟩ (toB x).length) (B:=λk=>k=g) (λS hS=>?_) (λS hS k hk=>?_) (λk hk=>hfz k hk) (by unfold World.freeze;split<;>rfl) (by unfold World.freeze;split<;>rfl) (by unfold World.freeze;split<;>rfl) (by unfold World.freeze;split<;>simp)
   ·exact this
   ·rcases hS with⟨h,_⟩|⟨g',cap',q0,q1,q2,q3⟩
    ·cases h
    ·simp only[Value.slice.injEq,Option.some.injEq,Addr.mk.injEq,and_true,true_and]at q1
     obtain⟨rfl,rfl⟩:=q1
     exact .inr ⟨g,cap,hne,rfl,q2,c,fr',hfg,g2,g3,g4,g5,g6⟩
   ·subst hk
    rcases hS with⟨h,_⟩|⟨g',cap',q0,q1,q2,q3⟩
    ·cases h
    ·simp only[Value.slice.injEq,Option.some.injEq,Addr.mk.injEq,and_true,true_and]at q1
     obtain⟨rfl,rfl⟩:=q1
     exact(q2 k).2 rfl
end
section
variable {P:Program}{F:Fr}{n:Nat}{E:Env}{L:List Res}{ops:Array Oper}{Q:Exit→Act→World→Prop}{rest:List Oper}
theorem mz{o:Operand}{k:FuncId}{z:Value}(ho:ev E o=some (.one (.raw z) (fnv k))){xs:Array Operand}{tys:Array TypeId}{d:Option Nat}{ty:TypeId}{pos:String}{after:Array Edge}
  (g:Go F n E L (wpList P ops Q (⟨d,.call ⟨.value (.func k),xs,tys⟩,ty,pos,after,none⟩::rest))):Go F n E L (wpList P ops Q (⟨d,.call ⟨.value o,xs,tys⟩,ty,pos,after,none⟩::rest)):=λM a w c=>by
 have hv:=(holds_raw.1 (aJ c ho)).1
 have hg:=g M a w c
 have he:execOp a.eval ⟨d,.call ⟨.value o,xs,tys⟩,ty,pos,after,none⟩=execOp a.eval ⟨d,.call ⟨.value (.func k),xs,tys⟩,ty,pos,after,none⟩:=by
  simp only[execOp,resolve]
  rw[hv]
  rfl
 unfold wpList at hg⊢
 rw[if_pos (by simp[Region.wanted])]at hg⊢
 rcases hg with h|h
 ·left
  unfold Oper.wp at h⊢
  rw[he];exact h
 ·right
  refine⟨?_,h.2⟩
  obtain⟨h1,h2⟩:=h
  unfold Oper.asks at h1⊢
  rw[he];exact h1
end
end Sx
namespace Sx
open Go Go.RowKit
def u2(x:Int):List Int→List Int
 |[]=>[x]
 |y::r=>if x≤y then x::y::r else y::u2 x r
def eI:List Int→List Int
 |[]=>[]
 |x::r=>u2 x (eI r)
theorem tH(x:Int):∀l:List Int,(u2 x l).Perm (x::l)
 |[]=>List.Perm.refl _
 |y::r=>by
  unfold u2
  split
  ·exact List.Perm.refl _
  ·exact((tH x r).cons y).trans (List.Perm.swap x y r)
theorem qK:∀l:List Int,(eI l).Perm l
 |[]=>List.Perm.refl _
 |x::r=>(tH x _).trans ((qK r).cons x)
theorem uL(x:Int):∀{l:List Int},l.Pairwise (λa b=>a≤b)→(u2 x l).Pairwise (λa b=>a≤b)
 |[],_=>by simp[u2]
 |y::r,h=>by
  unfold u2
  have hc:=List.pairwise_cons.1 h
  split
  ·rename_i hx
   refine List.pairwise_cons.2 ⟨λz hz=>?_,h⟩
   rcases List.mem_cons.1 hz with rfl|hz
   ·exact hx
   ·have:=hc.1 z hz;omega
  ·rename_i hx
   refine List.pairwise_cons.2 ⟨λz hz=>?_,uL x hc.2⟩
   rcases List.mem_cons.1 ((tH x r).mem_iff.1 hz)with rfl|hz
   ·omega
   ·exact hc.1 z hz
theorem s6:∀l:List Int,(eI l).Pairwise (λa b=>a≤b)
 |[]=>List.Pairwise.nil
 |x::r=>uL x (s6 r)
theorem Dy{P:Program}{k:FuncId}{e:TypeId}(hk:pZ P k (Value.int .i64) (λx y=>decide (x≤y))){xs:List Int}(hl:xs.length<4611686018427387904)(v:Value):
  Fn P k [.one (.raw (.slice none 0 0)) v] [Res.own v e (.int .i64) xs] (λ_=> .tup []) (λ_=>[Res.own v e (.int .i64) (eI xs)]):=by
 have hp:=(qK xs).symm
 have hs:xs.mergeSort (λx y=>decide (x≤y))=eI xs:=by
  have h1:=mergeSort_of_perm_i hp
  have h2:(eI xs).Pairwise (λa b=>leI a b=true):=(s6 xs).imp fun{a b} (h:a≤b)=>by simpa only[leI,decide_eq_true_eq]using h
  exact h1.trans (List.mergeSort_of_pairwise h2)
 refine AD (t:= .int .i64) rfl hk id (by simpa using hs) hp.length_eq.symm hl (λM cs h=>by
  obtain⟨h1,h2⟩:=yy h
  refine⟨by rw[h1];simp,?_⟩
  simpa using uK (M:=M) (k:= .i64) (xs:=eI xs) λy hy=>h2 y (hp.mem_iff.2 hy)) v
theorem Cr{P:Program}{bD:List (String×IntKind×List Int)}{k:FuncId}(hp:Em∈bD)(h:∀(n:Int),-9223372036854775808≤n→n≤9223372036854775807→∀(w:World),Lib.TabIs P w "internal/strconv.uint64pow10" .u64 Lib.pow10Tab→Calls P k #[.int .i64 n] w fun e w'=>e= .returned (.string ⟨(Lib.itoa n).toArray⟩)∧∃k os,w'=Go.Sort.grow (w.drewN k) os)
  (n:Int) (r:List Int) (hr:strconv_Itoa n=some r):FnT P bD k [.one (.int .i64) n] [] (λ_=> .one .str r) (λ_=>[]):=by
 unfold strconv_Itoa at hr
 obtain rfl:=Option.some.inj hr
 refine Dp λM vs hv=>?_
 cases hv with
 |cons a r=>
  cases r
  obtain⟨rfl,hn⟩:=holds_int.1 a
  have hl:=yu hn
  simp only[rng,lo,Sx.hi]at hn
  refine⟨_,λM=>oL (by simp only[most];omega),λw hs ht=>?_⟩
  refine(h n (by omega) (by omega) w (ht _ hp)).mono ?_
  rintro e w' ⟨rfl,k,os,rfl⟩
  exact⟨rfl,Lib.below_grow _ _ (Nat.le_refl _) _ _⟩
section
variable {P:Program}{bD:List (String×IntKind×List Int)}{F:Fr}{n:Nat}{E:Env}{L:List Res}{ops:Array Oper}{rest:List Oper}{K:Mem→World→Act→Prop}
theorem Dz{k:FuncId}{args:List TV}{res:TV}{xs:List Operand}{tys:Array TypeId}{d:Nat}{ty:TypeId}{pos:String}{after:Array Edge}{G:Fr}(hT:TabM P bD G.base)(hG:G.base=F.base)(hc:FnT P bD k args [] (λ_=>res) (λ_=>[]))(hk:dQ P k=true)(hf:res.flat=true)
  (hx:evs E xs=some args) (hd:Nat.ble (d+1) n=true) (g:QGo P ops F n ((d,res)::E) L K rest):
  QGo P ops F n E L K (⟨some d,.call ⟨.value (.func k),xs.toArray,tys⟩,ty,pos,after,none⟩::rest):=λM a w c=>by
 rw[hG]at hT
 have key:∀w',Cls F M L w w'→Calls P k (xs.map a.eval).toArray w' λe w''=>∃v M',e= .returned v∧res.holds M' v∧Cls F M L w w'':=by
  intro w' hC
  obtain⟨F',hb,hs,st',hback⟩:=hC.1.alone
  have:=hc F' w' (xs.map a.eval) (by rw[hb];exact hT.mono c.st.elder) (by rw[hb];exact st') hs (by rw[hb];exact oX c hx)
  refine this.mono ?_
  rintro e w'' ⟨v,M',rfl,st2,hv⟩
  obtain⟨st3,sm⟩:=hback _ _ st2
  refine⟨v,M',rfl,hv,st3,λk hk=>?_⟩
  rw[sm k (Nat.lt_of_lt_of_le hk ?_),hC.2 k hk]
  rcases Nat.lt_or_ge w'.heap.size w.heap.size with h|h
  ·have h1:=hC.2 w'.heap.size h
   rw[Array.getElem?_eq_none (Nat.le_refl _),Array.getElem?_eq_getElem h]at h1
   cases h1
  ·exact h
 obtain⟨e0,w0,_,⟨v,M0,rfl,hv,_⟩,_⟩:=key w ⟨c.st,Same.refl w⟩ []
 unfold wpQuiet
 rw[if_pos (by simp[Region.wanted])]
 refine⟨v,λw' hC=>?_,g M _ w (c.put (Mem.le.refl _) c.st (Nat.le_of_ble_eq_true hd) (TV.any hf hv))⟩
 unfold Oper.quietAt
 rw[oY hk]
 refine⟨rfl,(key w' hC).mono ?_⟩
 rintro e w'' ⟨v',M',rfl,hv',hC'⟩
 rw[TV.unique hf hv' hv]
 exact⟨rfl,hC'⟩
end
section
variable {P:Program}{bD:List (String×IntKind×List Int)}{F:Fr}{n:Nat}{E:Env}{L:List Res}{ops:Array Oper}{rest:List Oper}{K:Mem→World→Act→Prop}
end
theorem xg{X:List Int}{i:Nat}(h:i<X.length):∃x rest,X.drop i=x::rest∧X.getD i 0=x∧X.drop (i+1)=rest:=
 ⟨X[i],X.drop (i+1),List.drop_eq_getElem_cons h,by simp[List.getD,h],rfl⟩
theorem Cs{i m:Nat}(h:i<m)(hm:m<4611686018427387904):IntKind.wrap .i64 ((i:Int)+1)=((i+1:Nat):Int):=by
 rw[Aa (by simp only[rng,lo,Sx.hi];omega)]
 omega
open Classical in
theorem ep{F:Fr}{n:Nat}{E:Env}{L:List Res}{X:Act→World→Prop}{v z:Value}{e:TypeId}{t:T}{xs:List t.D}{b:Nat}{e0:TypeId}{T0:T}{x0:T0.D}(p:Pth T0 (.raw z))(hok:p.fields=true)(hv:p.get x0=v)
  (g:Go F n E (Res.var b e0 (p.sub (.sl e t)) (p.put (.sl e t) x0 xs)::L) X):Go F n E (Res.own v e t xs::Res.var b e0 T0 x0::L) X:=λM a w c=>by
 obtain⟨V,⟨S,V',r,⟨S2,V2,r2,s2,d2,e2⟩,dj,ev⟩,d⟩:=c.st.sep
 let M':Mem:=λk=>if S k then w.heap[k]? else M k
 have hle:M.le M':=λk o e=>by
  have:¬S k:=λh=>by have:=(d k ((ev k).2 (.inl h))).1;rw[this]at e;cases e
  show(if S k then _ else _)=_
  rw[if_neg this];exact e
 have hold:Rep (.sl e t) M' [v] xs:=by
  rcases r with⟨⟨a0,rfl⟩,rfl,_⟩|⟨b,o,cap,rfl,h2,cc,fr,h3,h4,h5,h6,h7,h8⟩
  ·exact kN
  ·refine⟨some ⟨b,o,none⟩,cap,rfl,h7,h6,.inr ⟨rfl,cc,e,fr,?_,?_,?_⟩⟩
   ·show(if S b then _ else _)=_
    rw[if_pos ((h2 b).2 rfl)];exact h3
   ·have:=Nat.mul_le_mul_right t.size h6
    simp only;omega
   ·exact RepL.mono (λ_ _ r=>Rep.mono hle r) h4
 obtain⟨hS2,cs,hb,hr⟩:=r2
 have hsz:=hr.size
 have hf:=p.fits (Pth.fields_ok hok)
 have hg:=Rep.get p (Pth.fields_ok hok) hr
 have hg1:(cs.drop p.off).take 1=[v]:=by rw[←hv];exact hg.1
 have hput:=Rep.put p hok (hr.mono hle) hold
 have hcs:cs.take p.off++[v]++cs.drop (p.off+(T.raw z).size)=cs:=by
  rw[←hg1]
  show cs.take p.off++(cs.drop p.off).take 1++cs.drop (p.off+1)=cs
  rw[List.append_assoc,←List.drop_drop,List.take_append_drop,List.take_append_drop]
 rw[hcs]at hput
 refine g M' a w ⟨?_,c.defers,c.size,λi t h=>(c.env i t h).elim λx hx=>⟨x,hx.1,TV.mono hle hx.2⟩⟩
 refine{c.st with elder:=c.st.elder.trans hle,fresh:= ?_,mem:= ?_,sep:=⟨V',⟨S2,V2,⟨hS2,cs,hb,hput⟩,Sep.mono hle s2,d2,e2⟩,?_⟩}
 ·intro k o e
  by_cases hS:S k
  ·exact .inr (d k ((ev k).2 (.inl hS))).2
  ·have e':M k=some o:=by simpa [M',hS]using e
   exact c.st.fresh k o e'
 ·intro k o e
  by_cases hS:S k
  ·simpa [M',hS]using e
  ·exact c.st.mem k o (by simpa [M',hS]using e)
 ·intro k hk
  have hS:¬S k:=λh=>dj k h hk
  have:=d k ((ev k).2 (.inr hk))
  refine⟨?_,this.2⟩
  show(if S k then _ else _)=_
  rw[if_neg hS];exact this.1
theorem Cfg.setb{F:Fr}{M:Mem}{n:Nat}{E:Env}{L:List Res}{a:Act}{w:World}(c:Cfg F M n E L a w){b val:Bool}(k:Nat)(hh:b=val)(he:E.get k=some (.one .bool b)):Cfg F M n ((k,.one .bool val)::E) L a w:=by
 refine⟨c.st,c.defers,c.size,λi t h=>?_⟩
 simp only[Env.get]at h
 split at h
 ·rename_i hb
  obtain rfl:=Nat.eq_of_beq_eq_true hb
  cases h
  rw[←hh];exact c.env _ _ he
 ·exact c.env i t h
theorem o5{F:Fr}{n:Nat}{E:Env}{L:List Res}{X:Act→World→Prop}{b val:Bool}(k:Nat)(hh:b=val)(he:E.get k=some (.one .bool b))(g:Go F n ((k,.one .bool val)::E) L X):Go F n E L X:=λM a w c=>g M a w (c.setb k hh he)
inductive IPth:T→TypeId→T→Type
 |here {e:TypeId} {t u:T}:IPth (.ifc e t u) e t
 |next {e e':TypeId} {t t' u:T} (p:IPth u e t):IPth (.ifc e' t' u) e t
@[reducible] def IPth.inj:{U:T}→{e:TypeId}→{t:T}→IPth U e t→t.D→U.D
  |_,_,_,.here,x=> .inl x
  |_,_,_,.next p,x=> .inr (p.inj x)
inductive INil:T→Type
 |here {z:Value}:INil (.raw z)
 |next {e:TypeId} {t u:T} (p:INil u):INil (.ifc e t u)
@[reducible] def INil.nil:{U:T}→INil U→U.D
  |_,.here=>Value.nilIface
  |_,.next p=> .inr p.nil
def sz:Value→Bool
 | .nilIface=>true
 |_=>false
def tI:(U:T)→U.D→Bool
 | .ifc _ _ _,.inl _=>false
 | .ifc _ _ u,.inr y=>tI u y
 | .raw _,v=>sz v
 |_,_=>false
theorem holds_inl{e:TypeId}{t u:T}{M:Mem}{v:Value}{y:t.D}:Holds (.ifc e t u) M v (.inl y)↔∃v',v= .iface e v'∧Holds t M v' y:=by
 constructor
 ·rintro⟨cs,e1,v0,rfl,_,ds,rfl,h⟩
  exact⟨_,by simp[e1,mk],ds,rfl,h⟩
 ·rintro⟨v',rfl,ds,rfl,h⟩
  exact⟨[.iface e (mk t ds)],by simp[mk],_,rfl,rfl,ds,rfl,h⟩
theorem o7{e:TypeId}{t u:T}{M:Mem}{v:Value}{y:u.D}(hu:u.isAgg=false):Holds (.ifc e t u) M v (.inr y)↔ifv v=true∧Holds u M v y:=by
 constructor
 ·rintro⟨cs,e1,v0,rfl,h1,h⟩
  obtain rfl:v=v0:=by simp[e1,mk]
  exact⟨h1,[v],by simp[mk,hu],h⟩
 ·rintro⟨h1,cs,e1,h⟩
  obtain⟨v0,rfl,_⟩:=nb hu h
  obtain rfl:v=v0:=by simp[e1,mk,hu]
  exact⟨[v],by simp[mk],v,rfl,h1,h⟩
theorem DA{U:T}{e:TypeId}{t:T}(p:IPth U e t):U.isAgg=false:=by cases p<;>rfl
theorem yA{U:T}(p:INil U):U.isAgg=false:=by cases p<;>rfl
theorem w1{M:Mem}{v:Value}:∀{U:T} {e:TypeId} {t:T} (p:IPth U e t) {y:t.D},Holds t M v y→Holds U M (.iface e v) (p.inj y)
 |_,_,_,.here,_,h=>holds_inl.2 ⟨_,rfl,h⟩
 |_,_,_,.next p,_,h=>(o7 (DA p)).2 ⟨rfl,w1 p h⟩
theorem w6{M:Mem}:∀{U:T} (p:INil U),Holds U M .nilIface p.nil
 |_,.here=>holds_raw.2 ⟨rfl,rfl⟩
 |_,.next p=>(o7 (yA p)).2 ⟨rfl,w6 p⟩
theorem yB{M:Mem}{v:Value}(hv:ifv v=true):∀{U:T} (p:INil U) {y:U.D},Holds U M v y→sz v=tI U y
 |_,.here,y,h=>by
  obtain⟨rfl,_⟩:=holds_raw.1 h
  rfl
 |_,.next p,.inl y,h=>by
  obtain⟨v',rfl,_⟩:=holds_inl.1 h
  rfl
 |_,.next (u:=u) p,.inr y,h=>by
  have:=((o7 (yA p)).1 h).2
  have:=yB hv p this
  simpa only[tI]using this
theorem Ct{M:Mem}{v:Value}{e:TypeId}{t u:T}{y:(T.ifc e t u).D}(h:Holds (.ifc e t u) M v y):ifv v=true:=by
 obtain⟨cs,e1,v0,rfl,h1,_⟩:=h
 obtain rfl:v=v0:=by simp[e1,mk]
 exact h1
def nif(P:Program)(e:TypeId):Bool:=match P.underlying e with|some (.interface _)=>false|some _=>true|none=>false
def pO(P:Program)(e:TypeId)(nm:String)(k:FuncId):Bool:=
 (match P.underlying e with|some (.pointer _)=>false|some (.interface _)=>false|some _=>true|none=>false)&&
 (match P.info? e with
  |some i=>(match i.methods.find? (·.name==nm)with
   |some m=>m.path.toList.isEmpty&&(match m.func with|some (k',pr)=>Nat.beq k k'&& !pr|none=>false)
   |none=>false)
  |none=>false)&&dQ P k
def Inv(P:Program)(nm:String)(args:List TV)(L:List Res)(res:Value→TV)(L':Value→List Res):Prop:=
 ∀M vs,HoldAll M args vs→∃k us args',(∀w,(invoke (.fn (.method nm) #[]) vs.toArray).run P w= .ok (.enter k us.toArray) w)∧HoldAll M args' us∧Fn P k args' L res L'
section
variable {P:Program}{Tb:Tab}{F:Fr}{n:Nat}{E:Env}{L:List Res}{ops:Array Oper}{Q:Exit→Act→World→Prop}{rest:List Oper}{X:Act→World→Prop}
theorem yC{e:TypeId}{i:TypeInfo}{w:World}(h:P.info? e=some i):(typeInfo e).run P w= .ok i w:=by
 simp only[typeInfo,ao,program,Sem.run,h];rfl
theorem Bg{e:TypeId}{nm:String}{k:FuncId}{v:Value}{w:World}{fuel:Nat}(h:pO P e nm k=true):(method (fuel+1) e v nm).run P w= .ok (k,v) w:=by
 simp only[pO,Bool.and_eq_true]at h
 obtain⟨⟨h1,h2⟩,h3⟩:=h
 split at h2
 ·rename_i i hi
  split at h2
  ·rename_i m hm
   simp only[Bool.and_eq_true]at h2
   obtain⟨hp,hf⟩:=h2
   split at hf
   ·rename_i k' pr hk
    simp only[Bool.and_eq_true,Bool.not_eq_true']at hf
    obtain⟨e1,rfl⟩:=hf
    obtain rfl:=Nat.eq_of_beq_eq_true e1
    have hpath:m.path.toList=[]:=by simpa using hp
    unfold method
    simp only[ao,yC hi,hm,hpath,follow,aG,hk]
    unfold receiverAt
    split at h1
    ·cases h1
    ·cases h1
    ·rename_i d hn1 hn2 hd
     simp only[ao,run_underlying hd]
     cases d<;>first|exact(hn1 _ hd).elim|rfl
    ·cases h1
   ·cases hf
  ·cases h2
 ·cases h2
theorem vO{nm:String}{k:FuncId}{e:TypeId}{v':Value}{vs:List Value}{w:World}(hm:pO P e nm k=true):(invoke (.fn (.method nm) #[]) (Value.iface e v'::vs).toArray).run P w= .ok (.enter k (v'::vs).toArray) w:=by
 have hk:dQ P k=true:=by simp only[pO,Bool.and_eq_true]at hm;exact hm.2
 simp only[invoke,callMethod]
 simp only[List.getElem?_toArray,List.getElem?_cons_zero,ao,program,Sem.run]
 have hx:(Value.iface e v'::vs).toArray.extract 1 (Value.iface e v'::vs).toArray.size=vs.toArray:=by simp
 rw[hx]
 have hdep:∃q,P.types.size+Made.depth=q+1:=⟨P.types.size+Made.depth - 1,by
  have:0<Made.depth:=by decide
  omega⟩
 obtain⟨q,hq⟩:=hdep
 have hmm:=Bg (P:=P) (v:=v') (w:=w) (fuel:=q) hm
 have hr:=gn (P:=P) (args:= #[v']++vs.toArray) (w:=w) hk
 rw[hq,hmm]
 simp only[hr]
 simp
theorem du{nm:String}{k:FuncId}{e:TypeId}{t u:T}{z:t.D}{args:List TV}{Lc:List Res}{res:Value→TV}{L':Value→List Res}(hm:pO P e nm k=true)(hc:Fn P k (.one t z::args) Lc res L'):Inv P nm (.one (.ifc e t u) (.inl z)::args) Lc res L':=by
 intro M vs hv
 cases hv with
 | @cons _ v _ vs h r=>
   obtain⟨v',rfl,hz⟩:=holds_inl.1 h
   exact⟨k,v'::vs,.one t z::args,λw=>vO hm,.cons hz r,hc⟩
theorem bw{nm:String}{e:TypeId}{t u:T}{y:u.D}{args:List TV}{Lc:List Res}{res:Value→TV}{L':Value→List Res}(hu:u.isAgg=false)(hc:Inv P nm (.one u y::args) Lc res L'):Inv P nm (.one (.ifc e t u) (.inr y)::args) Lc res L':=by
 intro M vs hv
 cases hv with
 | @cons _ v _ vs h r=>exact hc M (v::vs) (.cons ((o7 hu).1 h).2 r)
theorem AF{x:Operand}{nm:String}{xs:List Operand}{tys:Array TypeId}{dst:Option Tmp}{ty:TypeId}{pos:String}{after:Array Edge}{guard:Option (Nat×Bool)}{a:Act}{w w':World}{nx:Next}(h:(invoke (.fn (.method nm) #[]) ((x::xs).map a.eval).toArray).run P w= .ok nx w'):
  (execOp a.eval ⟨dst,.call ⟨.invoke x nm,xs.toArray,tys⟩,ty,pos,after,guard⟩).run P w= .ok nx w':=by
 simp only[execOp,resolve,ao,aG]
 have e1: #[a.eval x]++xs.toArray.map a.eval=((x::xs).map a.eval).toArray:=by simp
 rw[e1];exact h
theorem ri(is:List Nat){nm:String}{args:List TV}{Lc Lo:List Res}{res:Value→TV}{L':Value→List Res}(hc:Inv P nm args Lc res L')(hp:mO L is=some (Lc,Lo)){x:Operand}{xs:List Operand}{tys:Array TypeId}{d:Nat}{ty:TypeId}{pos:String}{after:Array Edge}
  (hx:evs E (x::xs)=some args) (hd:Nat.ble (d+1) n=true) (g:∀v,Go F n ((d,res v)::E) (L' v++Lo) (wpList P ops Q rest)):
  Go F n E L (wpList P ops Q (⟨some d,.call ⟨.invoke x nm,xs.toArray,tys⟩,ty,pos,after,none⟩::rest)):=λM a w c=>by
 have st:=c.st.perm (fQ hp)
 obtain⟨F',hb,hs,st',hback⟩:=st.part
 have hall:=oX c hx
 obtain⟨k,us,args',h1,h2,h3⟩:=hc M _ hall
 unfold wpList
 rw[if_pos (by simp[Region.wanted])]
 left
 unfold Oper.wp
 rw[AF (h1 w),Oper.upon_enter]
 have:=h3 F' w us (by rw[hb];exact st') hs (by rw[hb];exact h2)
 refine this.mono ?_
 rintro e w' ⟨v,M',rfl,st2,hv⟩
 obtain⟨hle,st3⟩:=hback _ _ _ st2
 exact g v M' _ _ (c.put hle st3 (Nat.le_of_ble_eq_true hd) hv)
theorem rt{R:World→World→Prop}{e:TypeId}{x:Operand}{U t:T}{y:t.D}(p:IPth U e t)(hx:ev E x=some (.one t y))(hu:nif P e=true):Yields R P F n E L (.makeInterface e x) (.one U (p.inj y)):=λo ho M a w c=>by
 refine⟨_,w1 p (aJ c hx),λw' _=>?_⟩
 obtain⟨od,oo,ot,op,oa,og⟩:=o
 simp only at ho
 subst ho
 refine bz ?_
 unfold Instr.makeInterface
 unfold nif at hu
 split at hu
 ·cases hu
 ·rename_i d hn hd
  rw[ao,run_underlying hd]
  cases d<;>first|exact(hn _ rfl).elim|rfl
 ·cases hu
theorem oq{R:World→World→Prop}{x:Operand}{z:Value}{U:T}(p:INil U)(hx:ev E x=some (.one (.raw z) .nilIface)):Yields R P F n E L (.assign x) (.one U p.nil):=λo ho M a w c=>by
 have hv:=(holds_raw.1 (aJ c hx)).1
 refine⟨_,w6 p,λw' _=>?_⟩
 obtain⟨od,oo,ot,op,oa,og⟩:=o
 simp only at ho
 subst ho
 simp only[execOp,aG,hv]
theorem Cu{tid:TypeId}{v:Value}{w:World}{ms:Array (String×TypeId)}(hu:P.underlying tid=some (.interface ms))(hv:ifv v=true):(Op.equal tid v .nilIface).run P w= .ok (sz v) w:=by
 unfold Op.equal
 unfold Op.equalIn
 simp only[Op.maxDepth,ao,run_underlying hu]
 cases v<;>first|rfl|cases hv
theorem ug{R:World→World→Prop}{x:Operand}{cst z:Value}{tid u:TypeId}{e:TypeId}{t r:T}{y:(T.ifc e t r).D}{ms:Array (String×TypeId)}(p:INil (.ifc e t r))(hx:ev E x=some (.one (.ifc e t r) y))(hy:ev E (.const cst)=some (.one (.raw z) .nilIface))(hu:P.underlying tid=some (.interface ms)){q:Bool}(hq:tI (.ifc e t r) y=q):Yields R P F n E L (.binOp .eql tid x (.const cst) u) (.one .bool q):=λo ho M a w c=>by
 subst hq
 have h1:=aJ c hx
 have e2:=(holds_raw.1 (aJ c hy)).1
 have hi:=Ct h1
 have h3:=yB hi p h1
 refine⟨_,holds_bool.2 rfl,λw' _=>?_⟩
 obtain⟨dst,op',ty,pos,after,guard⟩:=o
 simp only at ho;subst ho
 refine bz ?_
 rw[e2,ao]
 have:(eqGuard .eql tid x (.const cst) (a.eval x) .nilIface).run P w'= .ok () w':=by
  unfold eqGuard
  generalize a.eval x=v at*
  cases v<;>first|rfl|cases hi|skip
  simp only[Bool.or_true,if_true,Bool.not_true,Bool.false_eq_true,if_false]
  rfl
 rw[this]
 have hb:(binOp .eql tid (a.eval x) .nilIface)=(do pure (.bool (←Op.equal tid (a.eval x) .nilIface))):=by
  generalize a.eval x=v at*
  cases v<;>first|rfl|cases hi
 simp only[hb,ao,Cu hu hi,h3]
 rfl
end
end Sx
namespace Sx
open Go Go.RowKit
section
variable {P:Program}{bD:List (String×IntKind×List Int)}{G:Fr}{n:Nat}{E:Env}{L:List Res}{ops:Array Oper}{Q:Exit→Act→World→Prop}{rest:List Oper}
end
end Sx
namespace Sx
open Go Go.RowKit
def u6:List Int:=[0,1,56,2,57,49,28,3,61,58,42,50,38,29,17,4,62,47,59,36,45,43,51,22,53,39,33,30,24,18,12,5,63,55,48,27,60,41,37,16,46,35,44,21,52,32,23,11,54,26,40,15,34,20,31,10,25,14,19,9,13,8,7,6]
def En:String×IntKind×List Int:=("math/bits.deBruijn64tab",.u8,u6)
def Hs(k:IntKind)(l:List Int):Bool:=l.all λz=>decide (lo k≤z)&&decide (z≤Sx.hi k)
section
variable {P:Program}{F G:Fr}{n:Nat}{E:Env}{L:List Res}{bD:List (String×IntKind×List Int)}
theorem EX(hT:TabM P bD G.base)(hFG:F.base=G.base){x:Operand}{z:Value}{tid:TypeId}{g off i:Nat}{t:String×IntKind×List Int}(hm:t∈bD)(hg:P.globalNamed t.1=some g)(hx:ev E x=some (.one (.raw z) (.pointer (some ⟨g,off,none⟩))))(hi:i<t.2.2.length)(ho:off=i)(hr:Hs t.2.1 t.2.2=true)(ht:aW P (.int t.2.1) tid=true):
  Yields Same P F n E L (.load tid x) (.one (.int t.2.1) (t.2.2.getD i 0)):=λo hop M a w c=>by
 subst ho
 have hw:=(TabM.mono (M:=F.base) c.st.elder (by rw[hFG];exact hT)).tab (λk o h=>c.st.mem k o h) hm
 have h1:=(holds_raw.1 (aJ c hx)).1
 unfold Lib.TabIs World.var? at hw
 rw[hg]at hw
 simp only[Option.bind_some]at hw
 have hget:t.2.2[off]? =some (t.2.2.getD off 0):=by simp[List.getD,hi]
 have hrange:rng t.2.1 (t.2.2.getD off 0):=by
  have hmem:t.2.2.getD off 0∈t.2.2:=List.mem_of_getElem? hget
  have:=List.all_eq_true.1 hr _ hmem
  rw[Bool.and_eq_true,decide_eq_true_eq,decide_eq_true_eq]at this
  exact this
 split at hw
 ·rename_i cs el fr hb
  obtain rfl:=Option.some.inj hw
  have hcell:((t.2.2.map λz=>Value.int t.2.1 z).toArray.toList.drop off).take 1=[Value.int t.2.1 (t.2.2.getD off 0)]:=by
   simp only[List.toList_toArray]
   rw[←List.map_drop,←List.map_take]
   have:(t.2.2.drop off).take 1=[t.2.2.getD off 0]:=by
    rw[List.drop_eq_getElem_cons hi]
    show[t.2.2[off]]=_
    rw[List.getElem?_eq_getElem hi]at hget
    rw[Option.some.inj hget]
   rw[this];rfl
  have hrep:Rep (.int t.2.1) M (((t.2.2.map λz=>Value.int t.2.1 z).toArray.toList.drop off).take (T.int t.2.1).size) (t.2.2.getD off 0):=by
   show Rep (.int t.2.1) M (((t.2.2.map λz=>Value.int t.2.1 z).toArray.toList.drop off).take 1) _
   rw[hcell];exact⟨rfl,hrange⟩
  refine⟨_,⟨_,rfl,hrep⟩,λw' hs=>?_⟩
  have hb':=(hs g (cH hb)).trans hb
  obtain⟨dst,op,ty,pos,after,guard⟩:=o
  simp only at hop;subst hop
  have key:=jn (P:=P) (w:=w') (u:= .int t.2.1) ht hb' (off:=off) (by show off+1≤_;rw[List.size_toArray,List.length_map];exact hi) hrep
  exact bz (by rw[h1];simp only[Instr.loadAt,Instr.sureAddr,ao,aG];exact key)
 ·cases hw
end
section
variable {P:Program}{bD:List (String×IntKind×List Int)}{G:Fr}{n:Nat}{E:Env}{L:List Res}{ops:Array Oper}{Q:Exit→Act→World→Prop}{rest:List Oper}
theorem Cv(hT:TabM P bD G.base){k:FuncId}{args:List TV}{res:Value→TV}{R:Value→List Res}(hc:FnT P bD k args [] res R)(hk:dQ P k=true)(hf:∀v,(res v).flat=true)(hR:∀v,∀r∈R v,r.free){xs:List Operand}{tys:Array TypeId}{d:Nat}{ty:TypeId}{pos:String}{after:Array Edge}
  (hx:LendAll E L xs args) (hd:Nat.ble (d+1) n=true) (g:∀v,Go (Fr.nd G) n ((d,res v)::E) (R v++L) (wpList P ops Q rest)):
  Go (Fr.nd G) n E L (wpList P ops Q (⟨some d,.call ⟨.value (.func k),xs.toArray,tys⟩,ty,pos,after,none⟩::rest)):=λM a w c=>by
 unfold wpList
 rw[if_pos (by simp[Region.wanted])]
 left
 unfold Oper.wp
 rw[oY hk,Oper.upon_enter]
 obtain⟨F',hb,hs,hmem,st',hos,htape,hout⟩:=c.st.lent'
 have hle:TabM P bD F'.base:=(hT.mono c.st.elder).mono (by rw[hb];exactλk o h=>c.st.mem k o h)
 have:=hc F' w (xs.map a.eval) hle (by rw[hb];exact st') hs (by rw[hb];exact mN c hx)
 refine this.mono ?_
 rintro e w' ⟨v,M',rfl,st2,hv⟩
 have hsame:Same w w':=λk hk=>by
  have:=st2.frame k w.heap[k] (by rw[hmem];simp[dt,hk])
  rw[this];simp[hk]
 obtain⟨V,s,dj⟩:=c.st.sep
 obtain⟨V2,s2,d2⟩:=st2.sep
 have s2':Sep M w' (R v) V2:=by
  have:(Res.all (R v)).free:=Res.free_all (hR v)
  exact this M' M V2 w' s2
 have s':Sep M w' L V:=Sep.loc (λk hk=>hsame k (s.has k hk)) s
 have hd12:∀k,V2 k→¬V k:=λk h2 h1=>by
  have hlt:=s.has k h1
  have:=(d2 k h2).2
  rw[hmem]at this
  simp[dt,hlt]at this
 have st3:St (Fr.nd G) M w' (R v++L):={
  os:=st2.os.trans hos,tape:=st2.tape.trans htape,output:=st2.output.trans hout
  size:=Nat.le_trans c.st.size (by have:=st2.size;rw[hs]at this;exact this)
  elder:=c.st.elder,fresh:=c.st.fresh
  frame:=λk o e=>by rw[hsame k (c.st.flt e)];exact c.st.frame k o e
  mem:=λk o e=>by rw[hsame k (c.st.lt e)];exact c.st.mem k o e
  sep:=⟨λk=>V2 k∨V k,Sep.append s2' s' hd12,λk hk=>by
   rcases hk with h|h
   ·have:=(d2 k h).2
    rw[hmem]at this
    have hge:w.heap.size≤k:=by
     rcases Nat.lt_or_ge k w.heap.size with g|g
     ·simp[dt,g]at this
     ·exact g
    constructor
    ·cases hm:M k with
     |none=>rfl
     |some o=>exact absurd (c.st.lt hm) (by omega)
    ·cases hm:(Fr.nd G).mem k with
     |none=>rfl
     |some o=>exact absurd (c.st.flt hm) (by omega)
   ·exact dj k h⟩}
 exact g v M _ _ (c.put (Mem.le.refl _) st3 (Nat.le_of_ble_eq_true hd) (TV.any (hf v) hv))
end
section
variable {P:Program}{Tb:Tab}{F:Fr}{n:Nat}{E:Env}{L:List Res}{ops:Array Oper}{Q:Exit→Act→World→Prop}{rest:List Oper}
theorem uh{R:World→World→Prop}{x:Operand}{z:Value}{b off k:Nat}{t:T}{arr elem:TypeId}(hx:ev E x=some (.one (.raw z) (.pointer (some ⟨b,off,none⟩))))(hu:P.underlying arr=some (.array k elem))(hk:Nat.ble 1 k=true)(hc:aW P t elem=true):
  Yields R P F n E L (.slice arr x none none none) (.one (.raw (.slice none 0 0)) (.slice (some ⟨b,off,none⟩) k k)):=λo ho M a w c=>by
 have hv:=(holds_raw.1 (aJ c hx)).1
 refine⟨_,holds_raw.2 ⟨rfl,rfl⟩,λw' _=>?_⟩
 obtain⟨dst,op,ty,pos,after,guard⟩:=o
 simp only at ho;subst ho
 have h1:=Nat.le_of_ble_eq_true hk
 refine bz ?_
 rw[hv]
 simp only[Option.map_none]
 unfold Instr.sliceAt
 simp only[ao,run_underlying hu,Instr.sureAddr,Instr.sliceBounds,aG,dL hc,Nat.sub_zero]
 rw[if_neg (by omega)]
 simp[Addr.add]
end
end Sx
namespace Sx
open Go Go.RowKit
abbrev adr(b:Nat):Value:= .pointer (some ⟨b,0,none⟩)
class Catch(P:Program)(k:FuncId)(ch:outParam Value)(tn e1 e2:outParam TypeId)(v1 v2:outParam Value):Prop where
 call:dQ P k=true
 idle:∀p q w,CallsD P k #[p,q] .returning w λe u' w'=>e= .returned (.tuple #[])∧u'= .returning∧w'=w
 take:∀a b x y (w:World),a≠b→w.heap[a]? =some (.cells #[x] e1 (0,0))→w.heap[b]? =some (.cells #[y] e2 (0,0))→
  CallsD P k #[adr a,adr b] (.panicking [{v:=ch,recovered:=false}]) w λe u' w'=>e= .returned (.tuple #[])∧u'= .panicking [{v:=ch,recovered:=true}]∧
   w'=((w.alloc (.cells #[] tn (0,0))).setCell ⟨a,0,none⟩ v1).setCell ⟨b,0,none⟩ v2
structure KC(i j:Nat)(e1 e2:TypeId)(a b:Nat)(E:Env)(L:List Res):Prop where
 x:E.get i=some (ptr a 0)
 y:E.get j=some (ptr b 0)
 r:∃(p q:Nat) (t u:T) (x:t.D) (y:u.D),p≠q∧L[p]? =some (Res.var a e1 t x)∧t.size=1∧L[q]? =some (Res.var b e2 u y)∧u.size=1
theorem KC.of{E:Env}{L:List Res}(i j:Nat)(e1 e2:TypeId)(a b p q:Nat){t u:T}{x:t.D}{y:u.D}(h1:E.get i=some (ptr a 0))(h2:E.get j=some (ptr b 0))(hpq:Nat.beq p q=false)(h3:L[p]? =some (Res.var a e1 t x))(h4:t.size=1)(h5:L[q]? =some (Res.var b e2 u y))(h6:u.size=1):KC i j e1 e2 a b E L:=
 ⟨h1,h2,p,q,t,u,x,y,λh=>by subst h;simp at hpq,h3,h4,h5,h6⟩
class BrkK(F:Fr)(n:Nat)(Q:Exit→Act→World→Prop)(ch:Value)(c:Prop)(K:outParam (Env→List Res→Prop)):Prop where
 ok:c→∀E L,K E L→Go F n E L (Q (.panic [{v:=ch,recovered:=false}]))
section
variable {P:Program}{Tb:Tab}{F:Fr}{n:Nat}{E:Env}{L:List Res}{ops:Array Oper}{Q:Exit→Act→World→Prop}{rest:List Oper}{X:Act→World→Prop}{ch:Value}{c:Prop}{K:Env→List Res→Prop}
instance [h:BrkK F n Q ch c K]:BrkK F n (Exit.then X Q) ch c K:=⟨λhc E L hK=>h.ok hc E L hK⟩
instance {id:Nat}[h:BrkK F n Q ch c K]:BrkK F n (Exit.inBlock id Q) ch c K:=⟨λhc E L hK=>h.ok hc E L hK⟩
variable {bD:List (String×IntKind×List Int)}{G:Fr}
end
def Res.frz(v:Value)(e:TypeId)(t:T)(xs:List t.D):Res where
 sat M S _:=Holds (.sl e t) M v xs∧∀k,¬S k
 mono l:=λ⟨h,g⟩=>⟨Holds.mono l h,g⟩
 loc _:=id
 has:=λh k hk=>absurd hk (h.2 k)
def Res.junk:Res where
 sat _ S w:=∀k,S k→k<w.heap.size
 mono _:=id
 loc h g k hk:=by
  have h1:=g k hk
  have h2:=h k hk
  rcases Nat.lt_or_ge k (World.heap _).size with h3|h3
  ·exact h3
  ·rw[Array.getElem?_eq_none h3]at h2
   rw[Array.getElem?_eq_getElem h1]at h2
   cases h2
 has:=λh=>h
def Res.clsor(K:Kind)(p:Value)(x:K.D)(c:Bool):Res:=match c with
 |true=>Res.cls K p x
 |false=>Res.junk
section
variable {P:Program}{F:Fr}{n:Nat}{E:Env}{L:List Res}{X:Act→World→Prop}
theorem Cw{K:Kind}{p:Value}{x:K.D}{c:Bool}(h:c=true):∀M S w,(Res.clsor K p x c).sat M S w→(Res.cls K p x).sat M S w:=λM S w g=>by
 subst h;exact g
theorem ou{K:Kind}{p:Value}{x:K.D}{c:Bool}:∀M S w,(Res.cls K p x).sat M S w→(Res.clsor K p x c).sat M S w:=λM S w g=>by
 cases c
 ·exactλk hk=>Res.has _ g k hk
 ·exact g
theorem m6{R:Res}{K:Kind}{p:Value}{x:K.D}:∀M S w,R.sat M S w→(Res.clsor K p x false).sat M S w:=λM S w g=>λk hk=>R.has g k hk
theorem nG{z:Value}{e:TypeId}{t:T}{b:Nat}{e0:TypeId}{T0:T}{x0:T0.D}(p:Pth T0 (.sl e t))(hok:p.fields=true)
  (g:∀v,Go F n E (Res.frz v e t (p.get x0)::Res.var b e0 (p.sub (.raw z)) (p.put (.raw z) x0 v)::L) X):Go F n E (Res.var b e0 T0 x0::L) X:=λM a w c=>by
 obtain⟨V,⟨S,V',⟨hS,cs,hb,hr⟩,s,dj,ev⟩,d⟩:=c.st.sep
 have hsz:=hr.size
 have hf:=p.fits (Pth.fields_ok hok)
 have hg:=Rep.get p (Pth.fields_ok hok) hr
 obtain⟨ad,cap,hg1,hg2⟩:=id hg
 have hput:=Rep.put p hok hr (v:= .raw z) (d:=[.slice ad (List.length (p.get x0)) cap]) (y:= .slice ad (List.length (p.get x0)) cap) ⟨rfl,rfl⟩
 have hcs:cs.take p.off++[.slice ad (List.length (p.get x0)) cap]++cs.drop (p.off+(T.sl e t).size)=cs:=by
  rw[←hg1]
  show cs.take p.off++(cs.drop p.off).take 1++cs.drop (p.off+1)=cs
  rw[List.append_assoc,←List.drop_drop,List.take_append_drop,List.take_append_drop]
 rw[hcs]at hput
 have hh:Holds (.sl e t) M (.slice ad (List.length (p.get x0)) cap) (p.get x0):=⟨[.slice ad (List.length (p.get x0)) cap],rfl,ad,cap,rfl,hg2⟩
 have hsep:Sep M w (Res.frz (.slice ad (List.length (p.get x0)) cap) e t (p.get x0)::Res.var b e0 (p.sub (.raw z)) (p.put (.raw z) x0 (.slice ad (List.length (p.get x0)) cap))::L) V:=
  ⟨λ_=>False,V,⟨hh,λ_ h=>h⟩,⟨S,V',⟨hS,cs,hb,hput⟩,s,dj,ev⟩,λ_ h=>h.elim,λk=>⟨.inr,λh=>h.elim False.elim id⟩⟩
 exact g (.slice ad (List.length (p.get x0)) cap) M a w {c with st:={c.st with sep:=⟨V,hsep,d⟩}}
theorem nH{z v:Value}{e:TypeId}{t:T}{xs:List t.D}(k i:Nat)(hk:E.get k=some (.one (.raw z) v))(hi:L[i]? =some (Res.frz v e t xs))(g:Go F n ((k,.one (.sl e t) xs)::E) L X):Go F n E L X:=λM a w c=>by
 obtain⟨_,h1,_⟩:=c.st.res hi
 obtain⟨u,hu,hh⟩:=c.env _ _ hk
 refine g M a w ⟨c.st,c.defers,c.size,λi t ht=>?_⟩
 simp only[Env.get]at ht
 split at ht
 ·rename_i hb
  obtain rfl:=Nat.eq_of_beq_eq_true hb
  cases ht
  refine⟨u,hu,?_⟩
  rw[(holds_raw.1 hh).1];exact h1
 ·exact c.env i t ht
theorem DB{Q:Exit→Act→World→Prop}{c:Code}(k:Nat)(g:Go F n E L (Code.rounds P c Q k)):Go F n E L ((Code.loop c).wp P Q):=λM a w h=>wp_loop_rounds k (g M a w h)
theorem ui{Q:Exit→Act→World→Prop}{c:Code}{k:Nat}(g:Go F n E L (c.wp P (Exit.then (Code.rounds P c Q k) Q))):Go F n E L (Code.rounds P c Q (k+1)):=g
end
section
variable {P:Program}{F:Fr}{n:Nat}{E:Env}{L:List Res}{ops:Array Oper}{Q:Exit→Act→World→Prop}{rest:List Oper}
theorem FK{o:Operand}{k:FuncId}{b:Nat}{z:Value}(ho:ev E o=some (.one (.raw z) (.func (.func k) #[] #[adr b]))){xs:List Operand}{tys:Array TypeId}{d:Option Nat}{ty:TypeId}{pos:String}{after:Array Edge}
  (g:Go F n E L (wpList P ops Q (⟨d,.call ⟨.value (.func k),(xs++[Operand.global b]).toArray,tys⟩,ty,pos,after,none⟩::rest))):Go F n E L (wpList P ops Q (⟨d,.call ⟨.value o,xs.toArray,tys⟩,ty,pos,after,none⟩::rest)):=λM a w c=>by
 have hv:=(holds_raw.1 (aJ c ho)).1
 have hg:=g M a w c
 have he:execOp a.eval ⟨d,.call ⟨.value o,xs.toArray,tys⟩,ty,pos,after,none⟩=execOp a.eval ⟨d,.call ⟨.value (.func k),(xs++[Operand.global b]).toArray,tys⟩,ty,pos,after,none⟩:=by
  simp only[execOp,resolve]
  rw[hv]
  simp[Deferred.ofValue,invoke,Act.eval]
 unfold wpList at hg⊢
 rw[if_pos (by simp[Region.wanted])]at hg⊢
 rcases hg with h|h
 ·left
  unfold Oper.wp at h⊢
  rw[he];exact h
 ·right
  refine⟨?_,h.2⟩
  obtain⟨h1,h2⟩:=h
  unfold Oper.asks at h1⊢
  rw[he];exact h1
end
def u7(P:Program)(md:Region.Mode)(ops:Array Oper)(Q:Exit→Act→World→Prop)(m:Nat)(listed:Array Bool):Exit→Act→World→Prop
 | .normal,a,w=>wpAny P md ops Q m listed a w
 | .exit i,a,w=>Q (.exit i) a w
 | .goto i,a,w=>Q (.goto i) a w
 | .ret,a,w=>Q .ret a w
 | .panic c,a,w=>Q (.panic c) a w
 | .outgrown,a,w=>Q .outgrown a w
def uj(md:Region.Mode)(ops:Array Oper):Nat→Nat→Nat→Bool
 |0,_,_=>false
 |d+1,i,j=>match ops[i]? with
  |none=>false
  |some o=>(o.after.toList.any λe=>Region.binds md e&&Nat.beq e.on j)||(o.after.toList.any λe=>Region.binds md e&&uj md ops d e.on j)
def xz(md:Region.Mode)(d:Nat)(ops:Array Oper)(mask:Array Bool):Bool:=mask.size==ops.size&&(List.range ops.size).all λi=>match ops[i]? with
 |none=>true
 |some o=>(o.after.toList.all λe=> !Region.binds md e||(Nat.blt e.on i&&(mask.getD i true|| !mask.getD e.on true)))&&(!mask.getD i true||(List.range ops.size).all λj=>mask.getD j true||uj md ops d i j)
section
variable {P:Program}{ops:Array Oper}{Q Q':Exit→Act→World→Prop}{md:Region.Mode}{S:World→Prop}
theorem FL{i:Nat}{K:Act→World→Prop}{a:Act}{w:World}(hp:∀c a w,Q (.panic c) a w→Q' (.panic c) a w)(hl:LetsOut Q→LetsOut Q')(hh:wpOp P ops Q i K a w):wpOp P ops Q' i K a w:=by
 unfold wpOp at*
 split
 ·simpa [*]using hh
 ·rename_i o ho
  simp only[ho]at hh
  split
  ·rename_i hw
   simp only[hw,if_true]at hh
   refine hh.imp (λh=>?_) λh=>⟨h.1,hl h.2⟩
   unfold Oper.wp at*
   generalize (execOp a.eval o).run P w=r at*
   cases r with
   |ok n w'=>
    cases n<;>simp only[Oper.upon]at h⊢<;>first|exact h|skip
    case enter f args=>
     refine Calls.mono h λe w'' he=>?_
     cases e with
     |returned u=>exact he
     |panicked c=>exact hp _ _ _ he
     |outgrown=>exact hl he
   |halt x w'=>
    cases x<;>simp only[Oper.upon]at h⊢<;>first|exact h|exact hp _ _ _ h
  ·rename_i hw;simp only[hw]at hh;exact hh
theorem vP:∀(m:Nat) (listed:Array Bool) (a:Act) (w:World),wpAny P md ops Q m listed a w→wpAny P md ops Q (m+1) listed a w
 |0,listed,a,w,⟨h1,h2⟩=>⟨λ_=>h2,λi hi=>by rw[h1]at hi;cases hi⟩
 |m+1,listed,a,w,⟨h1,h2⟩=>⟨h1,λi hi=>wpOp_mono (λa' w' h=>vP m _ a' w' h) (h2 i hi)⟩
theorem Bh(k m:Nat){listed:Array Bool}{a:Act}{w:World}(h:wpAny P md ops Q m listed a w):wpAny P md ops Q (k+m) listed a w:=by
 induction k with
 |zero=>rw[Nat.zero_add];exact h
 |succ k ih=>rw[Nat.succ_add];exact vP _ _ _ _ ih
theorem vQ{d0:Nat}{mask:Array Bool}(h:xz md d0 ops mask=true):mask.size=ops.size∧(∀i o,ops[i]? =some o→∀e∈o.after,Region.binds md e=true→e.on<i∧(mask.getD i true=false→mask.getD e.on true=false))∧
  (∀i o,ops[i]? =some o→mask.getD i true=true→∀j,j<ops.size→mask.getD j true=false→uj md ops d0 i j=true):=by
 unfold xz at h
 rw[Bool.and_eq_true,List.all_eq_true]at h
 obtain⟨h0,h⟩:=h
 have key:∀i o,ops[i]? =some o→((o.after.toList.all λe=> !Region.binds md e||(Nat.blt e.on i&&(mask.getD i true|| !mask.getD e.on true)))&&(!mask.getD i true||(List.range ops.size).all λj=>mask.getD j true||uj md ops d0 i j))=true:=λi o ho=>by
  have hlt:i<ops.size:=(Array.getElem?_eq_some_iff.1 ho).1
  have:=h i (List.mem_range.2 hlt)
  rw[ho]at this
  exact this
 refine⟨by simpa using h0,λi o ho e he hb=>?_,λi o ho hi j hj hm=>?_⟩
 ·have:=key i o ho
  rw[Bool.and_eq_true,List.all_eq_true]at this
  have h1:=this.1 e (by simpa using he)
  rw[hb]at h1
  simp only[Bool.not_true,Bool.false_or,Bool.and_eq_true]at h1
  have h3:e.on+1≤i:=by simpa [Nat.blt]using h1.1
  refine⟨by omega,λhmi=>?_⟩
  have h2:=h1.2
  rw[hmi]at h2
  simpa using h2
 ·have:=key i o ho
  rw[Bool.and_eq_true]at this
  have h1:=this.2
  rw[hi]at h1
  simp only[Bool.not_true,Bool.false_or,List.all_eq_true]at h1
  have h2:=h1 j (List.mem_range.2 hj)
  rw[hm,Bool.false_or]at h2
  exact h2
theorem tJ{lr:Array Bool}(hcl:∀i o,ops[i]? =some o→lr.getD i false=true→∀e∈o.after,Region.binds md e=true→lr.getD e.on false=true):∀(d i j:Nat),(∀o,ops[i]? =some o→∀e∈o.after,Region.binds md e=true→lr.getD e.on false=true)→uj md ops d i j=true→lr.getD j false=true
 |0,_,_,_,h=>by cases h
 |d+1,i,j,hp,h=>by
  unfold uj at h
  split at h
  ·cases h
  ·rename_i o ho
   rw[Bool.or_eq_true,List.any_eq_true,List.any_eq_true]at h
   rcases h with⟨e,he,hb⟩|⟨e,he,hb⟩
   ·rw[Bool.and_eq_true]at hb
    have:=hp o ho e (by simpa using he) hb.1
    rwa [Nat.eq_of_beq_eq_true hb.2]at this
   ·rw[Bool.and_eq_true]at hb
    have:=hp o ho e (by simpa using he) hb.1
    exact tJ hcl d e.on j (λo' ho'=>hcl e.on o' ho' this) hb.2
theorem EY{d0:Nat}{mask nm:Array Bool}(hbar:xz md d0 ops mask=true)(hnm:mask.map (!·)=nm){m2:Nat}:∀(m:Nat) (lr lv:Array Bool) (a:Act) (w:World),lr.size=ops.size→lv.size=ops.size→
  (∀i,i<ops.size→lv.getD i true=(lr.getD i true||mask.getD i true))→(∀i,i<ops.size→mask.getD i true=true→lr.getD i true=false)→
  (∀i o,ops[i]? =some o→lr.getD i false=true→∀e∈o.after,Region.binds md e=true→lr.getD e.on false=true)→
  wpAnyH P md ops (u7 P md ops Q m2 nm) S m lv a w→wpAny P md ops Q (m+m2) lr a w:=by
 obtain⟨hms,hback,htail⟩:=vQ hbar
 have dflt:∀(l:Array Bool) i,l.size=ops.size→i<ops.size→l.getD i false=l.getD i true:=λl i hl hi=>by simp[hl,hi]
 have allA:∀(lr lv:Array Bool),lr.size=ops.size→lv.size=ops.size→(∀i,i<ops.size→lv.getD i true=(lr.getD i true||mask.getD i true))→(∀i,i<ops.size→mask.getD i true=true→lr.getD i true=false)→
   Region.ready md ops lv=[]→lr=nm:=λlr lv hs1 hs2 hv ht hr=>by
  have all:∀k i,i<k→i<ops.size→mask.getD i true=false→lr.getD i true=true:=by
   intro k
   induction k with
   |zero=>intro i h;omega
   |succ k ih=>
    intro i hik hi hmi
    cases hli:lr.getD i true with
    |true=>rfl
    |false=>
     exfalso
     have hin:i∈Region.ready md ops lv:=by
      refine mem_ready.2 ⟨by rw[hv i hi,hli,hmi];rfl,ops[i],by simp[hi],λe he hb=>?_⟩
      have h1:=hback i ops[i] (by simp[hi]) e he hb
      have h2:=ih e.on (by omega) (by omega) (h1.2 hmi)
      rw[dflt lv _ hs2 (by omega),hv e.on (by omega),h2];rfl
     rw[hr]at hin;cases hin
  apply Array.ext
  ·rw[←hnm];simp[hs1,hms]
  ·intro i h1 h2
   have hi:i<ops.size:=by omega
   have e1:lr[i]=lr.getD i true:=by simp[h1]
   have hmi:mask.getD i true=mask[i]'(by omega):=by simp[hms,hi]
   have e2:nm[i]= !mask.getD i true:=by subst hnm;rw[hmi];simp
   rw[e1,e2]
   cases hm:mask.getD i true with
   |true=>exact ht i hi hm
   |false=>exact all (i+1) i (by omega) hi hm
 intro m
 induction m with
 |zero=>
  intro lr lv a w hs1 hs2 hv ht _ h
  obtain rfl:=allA lr lv hs1 hs2 hv ht h.1
  rw[Nat.zero_add];exact h.2
 |succ m ih=>
  intro lr lv a w hs1 hs2 hv ht hcl h
  by_cases hr:Region.ready md ops lv=[]
  ·obtain rfl:=allA lr lv hs1 hs2 hv ht hr
   exact Bh _ _ (h.1 hr)
  ·obtain⟨j,hj⟩:=List.exists_mem_of_ne_nil _ hr
   have jr:j<ops.size∧lr.getD j true=false∧mask.getD j true=false∧j∈Region.ready md ops lr:=by
    obtain⟨h0,o,ho,hall⟩:=mem_ready.1 hj
    have hlt:j<ops.size:=(Array.getElem?_eq_some_iff.1 ho).1
    rw[hv j hlt,Bool.or_eq_false_iff]at h0
    refine⟨hlt,h0.1,h0.2,mem_ready.2 ⟨h0.1,o,ho,λe he hb=>?_⟩⟩
    have h1:=hback j o ho e he hb
    have h2:=hall e he hb
    rw[dflt lv _ hs2 (by omega),hv e.on (by omega),h1.2 h0.2,Bool.or_false]at h2
    rw[dflt lr _ hs1 (by omega)];exact h2
   rw[Nat.succ_add]
   refine⟨λh0=>?_,λi hi=>?_⟩
   ·have:=jr.2.2.2;rw[h0]at this;cases this
   ·obtain⟨h0,o,ho,hall⟩:=mem_ready.1 hi
    have hlt:i<ops.size:=(Array.getElem?_eq_some_iff.1 ho).1
    have hmi:mask.getD i true=false:=by
     cases hmi:mask.getD i true with
     |false=>rfl
     |true=>
      have h1:=tJ hcl d0 i j (λo' ho' e he hb=>by obtain rfl:=Option.some.inj (ho.symm.trans ho');exact hall e he hb) (htail i o ho hmi j jr.1 jr.2.2.1)
      rw[dflt lr _ hs1 jr.1,jr.2.1]at h1
      cases h1
    have hiv:i∈Region.ready md ops lv:=by
     refine mem_ready.2 ⟨by rw[hv i hlt,h0,hmi];rfl,o,ho,λe he hb=>?_⟩
     have h1:=hback i o ho e he hb
     have h2:=hall e he hb
     rw[dflt lr _ hs1 (by omega)]at h2
     rw[dflt lv _ hs2 (by omega),hv e.on (by omega),h2];rfl
    have hq:wpOp P ops Q i (λa' w'=>S w'∧wpAnyH P md ops (u7 P md ops Q m2 nm) S m (lv.setIfInBounds i true) a' w') a w:=FL (Q:=u7 P md ops Q m2 nm) (λ_ _ _ h=>h) (λ⟨a,w,h⟩=>⟨a,w,h⟩) (h.2 i hiv)
    refine wpOp_mono (λa' w' h3=>ih (lr.setIfInBounds i true) (lv.setIfInBounds i true) a' w' (by simp[hs1]) (by simp[hs2]) ?_ ?_ ?_ h3.2) hq
    ·intro k hk
     by_cases hik:i=k
     ·subst hik;simp[hs1,hs2,hk]
     ·rw[getD_set_ne true hik,getD_set_ne true hik];exact hv k hk
    ·intro k hk hmk
     have hik:i≠k:=by rintro rfl;rw[hmi]at hmk;cases hmk
     rw[getD_set_ne true hik];exact ht k hk hmk
    ·intro k ok hok hk e he hb
     by_cases hik:i=k
     ·subst hik
      obtain rfl:=Option.some.inj (ho.symm.trans hok)
      exact getD_set_true (hall e he hb)
     ·refine getD_set_true (hcl k ok hok ?_ e he hb)
      rwa [getD_set_ne false hik]at hk
end
section
variable {P:Program}{F:Fr}{n:Nat}{E:Env}{L:List Res}{ops:Array Oper}{Q:Exit→Act→World→Prop}{S:World→Prop}
theorem Bi{md:Region.Mode}{m:Nat}{listed:Array Bool}(h:iR Q):iR (u7 P md ops Q m listed):=λc a d v w g=>h c a d v w g
theorem Bj{id:Nat}{l:List Oper}(S:World→Prop)(d0:Nat)(mask nm:Array Bool)(m m2:Nat)(hm:P.follows .mixedOrders=true)(hb:xz .any d0 l.toArray mask=true)(hn:mask.map (!·)=nm)(hs:l.toArray.size=m+m2)
  (g:Go F n E L (wpAnyH P .any l.toArray (u7 P .any l.toArray Q m2 nm) S m mask)):Go F n E L ((Code.region id l.toArray true).wp P Q):=λM a w c=>by
 refine wp_region_any hm ?_
 have key:=EY hb hn m (Array.replicate l.toArray.size false) mask a {w with drawn:=w.drawn+1} (by simp) (vQ hb).1 (λi hi=>?_) (λi hi _=>?_) (λi o _ h=>?_) (g M a _ {c with st:=c.st.drew})
 ·rwa [←hs]at key
 ·simp at hi
  simp[hi]
 ·simp at hi
  simp[hi]
 ·exfalso
  simp only[Array.getD_eq_getD_getElem?,Array.getElem?_replicate]at h
  split at h<;>cases h
theorem yD{m:Nat}{listed:Array Bool}(g:Go F n E L (wpAny P .any ops Q m listed)):Go F n E L (u7 P .any ops Q m listed .normal):=g
theorem FM{fuel i j:Nat}{o o2:Oper}{listed:Array Bool}(hr:Region.ready .any ops listed=[i,j])(hi:ops[i]? =some o)(hj:ops[j]? =some o2)(g:Go F n E L (wpList P ops (Exit.then (λa w=>S w∧wpAnyH P .any ops Q S fuel (listed.setIfInBounds i true) a w) Q) [o]))
  (g2:Go F n E L (wpList P ops (Exit.then (λa w=>S w∧wpAnyH P .any ops Q S fuel (listed.setIfInBounds j true) a w) Q) [o2])):Go F n E L (wpAnyH P .any ops Q S (fuel+1) listed):=qw hr hi hj g g2
end
def ld(a0:List Int):Option Int:=some (List.length a0:Int)
section
variable {P:Program}{T e:Nat}{F:Fr}{n:Nat}{E:Env}{L:List Res}{X:Act→World→Prop}
def DC(b:Nat)(p0 sv:Value)(x:List Int):Prop:=((p0= .pointer none∨p0= .pointer (some ⟨b,0,none⟩))∧pj sv)∧(x=[]→sv= .slice none 0 0)
theorem DD{p:Value}{x:List Int}(g:∀b p0 sv,p= .pointer (some ⟨b,0,none⟩)→DC b p0 sv x→Go F n E (Res.var b T BT (p0,sv,())::Res.own sv e (.int .u8) x::L) X):Go F n E (Res.cls (lH T e) p x::L) X:=
 kd (K:=lH T e) λb s h=>da λhf=>g b s.1 s.2 h hf
theorem FN{b:Nat}{p0 sv:Value}{x:List Int}(hf:DC b p0 sv x)(g:Go F n E (Res.cls (lH T e) (.pointer (some ⟨b,0,none⟩)) x::L) X):Go F n E (Res.var b T BT (p0,sv,())::Res.own sv e (.int .u8) x::L) X:=
 oZ (p:=DC b p0 sv x) hf (nF (K:=lH T e) (s:=(p0,sv)) (x:=x) g)
end
section
variable {P:Program}{Tb:Tab}{F:Fr}{n:Nat}{E:Env}{L:List Res}{ops:Array Oper}{Q:Exit→Act→World→Prop}{rest:List Oper}{X:Act→World→Prop}
theorem w7(hT:Tb.chk P=true){sT dT elem:TypeId}{x:Operand}{z:Value}{b off k:Nat}{e:TypeId}{t:T}{xv:t.D}(j:Nat)(p:Pth t (.arr k (.int .u8)))(hx:ev E x=some (.one (.raw z) (.slice (some ⟨b,off,none⟩) k k)))(hj:L[j]? =some (Res.var b e t xv))(hp:p.off=off)(hok:p.ok)(hk:Nat.ble k 1048576=true)
  (hs:lk Tb.slices sT=some elem) (hd:lk Tb.strs dT=some ()) (he:lk Tb.ints elem=some .u8):Yields Same P F n E L (.convert sT dT x) (.one .str (p.get xv)):=λo ho M a w c=>by
 obtain⟨cs,hb,hr⟩:=c.st.var hj
 have hv:=(holds_raw.1 (aJ c hx)).1
 have hl:=hr.size
 have hf:=p.fits hok
 have hrep:=Rep.get p hok hr
 rw[hp]at hrep hf
 obtain⟨bU,hrl⟩:=hrep
 have hk:=Nat.le_of_ble_eq_true hk
 have hsz:(T.arr k (.int .u8)).size=k:=by simp[T.size]
 rw[hsz]at hf hrl
 obtain⟨e1,hby⟩:=lS hrl
 have hlk:List.length (p.get xv)=k:=bU
 refine⟨_,holds_str.2 ⟨rfl,hby,by rw[hlk];simp only[most];omega⟩,λw' hsm=>?_⟩
 obtain⟨dst,op,ty,pos,after,guard⟩:=o
 simp only at ho;subst ho
 refine bz ?_
 rw[hv]
 have hb':w'.heap[b]? =some (.cells cs.toArray e (0,0)):=by rw[hsm b (cH hb)];exact hb
 have hrun:=jO (P:=P) (w:=w') (b:=b) (off:=off) (c:=cs.toArray) (el:=e) (fr:=(0,0)) (len:=k) (cap:=k) (ys:=p.get xv) hb' (by simp only[List.size_toArray];omega) (by simpa [hlk]using e1)
 simp only[Go.convert,ao,run_underlying (Tab.slice hT hs),run_underlying (Tab.str hT hd),run_underlying (Tab.int hT he)]
 exact hrun
theorem GC{k:Nat}{xs ys:List Int}(h:xs.length=k):bq xs 0 ys=ys.take (min k ys.length)++xs.drop (min k ys.length):=by
 unfold bq
 simp only[List.take_zero,List.nil_append,Nat.sub_zero,Nat.zero_add,h]
 rcases Nat.le_total ys.length k with g|g
 ·rw[Nat.min_eq_right g,List.take_of_length_le g,List.take_of_length_le (Nat.le_refl _)]
 ·rw[Nat.min_eq_left g,List.drop_of_length_le (by omega),List.drop_of_length_le (by omega)]
theorem Cx(hT:Tb.chk P=true){x y:Operand}{z:Value}{b off k:Nat}{e:TypeId}{elem:Nat}{t:T}{xv:t.D}{ys:List Int}{sT yT:TypeId}{d:Nat}{ty:TypeId}{pos:String}{after:Array Edge}(j:Nat)(p:Pth t (.arr k (.int .u8)))
  (hx:ev E x=some (.one (.raw z) (.slice (some ⟨b,off,none⟩) k k))) (hj:L[j]? =some (Res.var b e t xv)) (hp:p.off=off) (hok:p.ok) (hk:Nat.ble k 1048576=true) (hy:ev E y=some (.one .str ys)) (hsT:lk Tb.slices sT=some elem) (he:aW P (.int .u8) elem=true) (hd:Nat.ble (d+1) n=true)
  (g:∀m:Int,Go F n ((d,.one (.int .i64) m)::E) (L.set j (Res.var b e t (p.set xv (bq (p.get xv) 0 ys)))) (wpList P ops Q rest)):
  Go F n E L (wpList P ops Q (⟨some d,.call ⟨.builtin .copy,#[x,y],#[sT,yT]⟩,ty,pos,after,none⟩::rest)):=λM a w c=>by
 have hxv:=(holds_raw.1 (aJ c hx)).1
 obtain⟨hyv,hyb,hym⟩:=holds_str.1 (aJ c hy)
 have hnd:Nat.le (d+1) n:=Nat.le_of_ble_eq_true hd
 have hk:=Nat.le_of_ble_eq_true hk
 obtain⟨cs,hb,hr⟩:=c.st.var hj
 have hl:=hr.size
 have hf:=p.fits hok
 have hrep:=Rep.get p hok hr
 rw[hp]at hrep hf
 obtain⟨bU,hrl⟩:=hrep
 have hsz:(T.arr k (.int .u8)).size=k:=by simp[T.size]
 rw[hsz]at hf hrl
 obtain⟨e1,hby⟩:=lS hrl
 have hlk:List.length (p.get xv)=k:=bU
 generalize hmm:min k ys.length=m
 have hm1:m≤k:=by omega
 have hm2:m≤ys.length:=by omega
 have hmr:rng .i64 ((m:Nat):Int):=by
  constructor
  ·simp only[lo];omega
  ·simp only[Sx.hi];omega
 have hds:((ys.take m).map λy=>Value.int .u8 y).length=m:=by simp;omega
 have hst:=ji (P:=P) (el:=e) (fr:=(0,0)) (off:=off) ((ys.take m).map λy=>Value.int .u8 y) 0 cs.toArray w hb (by rw[hds];simp only[List.size_toArray];omega) (iz _) (by intro u hu;obtain⟨q,_,rfl⟩:=List.mem_map.1 hu;rfl)
 rw[hds]at hst
 simp only[Nat.add_zero]at hst
 have hrun:=uX (P:=P) (w:=w) (yT:=yT) (ty:=ty) (m:=m) (base:=some ⟨b,off,none⟩) (len:=k) (cap:=k) (Tab.slice hT hsT) he rfl hmm.symm hyb hst
 have hred:∀{m:Nat} {w':World},(Builtin.copy_ #[sT,yT] ty #[.slice (some ⟨b,off,none⟩) k k,.string (bs ys)]).run P w= .ok (.int .i64 m) w'→
   (execOp a.eval ⟨some d,.call ⟨.builtin .copy,#[x,y],#[sT,yT]⟩,ty,pos,after,none⟩).run P w= .ok (.value (.int .i64 m)) w':=by
  intro m w' h
  have: #[x,y].map a.eval= #[.slice (some ⟨b,off,none⟩) k k,.string (bs ys)]:=by simp[hxv,hyv]
  simp only[execOp,resolve,ao,aG,invoke,Go.builtin,this,h]
 refine dG (d:=d) rfl (by simp[Region.wanted]) (hred hrun) (g m M _ _ (c.put (Mem.le.refl _) ?_ hnd (holds_int.2 ⟨rfl,hmr⟩)))
 have hlo:bq (p.get xv) 0 ys=ys.take m++List.drop m (p.get xv):=by rw[GC hlk,hmm]
 have hll:List.length (bq (p.get xv) 0 ys)=k:=by rw[hlo];simp[hlk];omega
 refine c.st.turn hj (B:=λk=>k=b) ?_ ?_ ?_ rfl rfl rfl (by simp[fg])
 ·rintro S ⟨hS,cs',hb',hr'⟩
  refine⟨hS,cs.take off++((ys.take m).map λy=>Value.int .u8 y)++cs.drop (off+m),by rw[eA (cH hb)];simp,?_⟩
  have hset:=Rep.set p (M:=M) (y:=bq (p.get xv) 0 ys) hok hr (d:=(bq (p.get xv) 0 ys).map λy=>Value.int .u8 y) (by
   refine⟨hll,py ?_⟩
   rw[hlo]
   intro q hq
   rcases List.mem_append.1 hq with h|h
   ·exact hyb q (List.mem_of_mem_take h)
   ·exact hby q (List.mem_of_mem_drop h))
  rw[hp,hsz]at hset
  have e3:cs.drop (off+m)=(List.drop m (p.get xv)).map (λy=>Value.int .u8 y)++cs.drop (off+k):=by
   have h1:(cs.drop off).take k=(p.get xv).map λy=>Value.int .u8 y:=e1
   have h2:cs.drop off=(p.get xv).map (λy=>Value.int .u8 y)++cs.drop (off+k):=by
    conv=>lhs;rw[←List.take_append_drop k (cs.drop off),h1,List.drop_drop]
   rw[←List.drop_drop,h2,List.drop_append_of_le_length (by simp[hlk];omega),List.map_drop]
  rw[e3]
  rw[hlo,List.map_append]at hset
  rw[hlo]
  simpa [List.append_assoc]using hset
 ·rintro S ⟨hS,_⟩ k rfl;exact(hS _).2 rfl
 ·intro k hk;rw[eA (cH hb),if_neg (λh=>hk h.symm)]
end
section
variable {P:Program}{Tb:Tab}{F:Fr}{n:Nat}{E:Env}{L:List Res}{S:World→Prop}
theorem Bl{sT dT elem:TypeId}{x:Operand}{z:Value}{b off k:Nat}{e:TypeId}{t:T}{xv:t.D}(hV:∀w,S w→aV b e t xv w)(hT:Tb.chk P=true)(j:Nat)(p:Pth t (.arr k (.int .u8)))(hx:ev E x=some (.one (.raw z) (.slice (some ⟨b,off,none⟩) k k)))(hj:L[j]? =some (Res.var b e t xv))(hp:p.off=off)(hok:p.ok)(hk:Nat.ble k 1048576=true)
  (hs:lk Tb.slices sT=some elem) (hd:lk Tb.strs dT=some ()) (he:lk Tb.ints elem=some .u8):Yields (λ_ w'=>S w') P F n E L (.convert sT dT x) (.one .str (p.get xv)):=λo ho M a w c=>by
 obtain⟨cs,hb,hr⟩:=c.st.var hj
 have hv:=(holds_raw.1 (aJ c hx)).1
 have hf:=p.fits hok
 have hrep:=Rep.get p hok hr
 rw[hp]at hrep hf
 obtain⟨bU,hrl⟩:=hrep
 have hk:=Nat.le_of_ble_eq_true hk
 have hsz:(T.arr k (.int .u8)).size=k:=by simp[T.size]
 rw[hsz]at hf hrl
 obtain⟨e1,hby⟩:=lS hrl
 have hlk:List.length (p.get xv)=k:=bU
 refine⟨_,holds_str.2 ⟨rfl,hby,by rw[hlk];simp only[most];omega⟩,λw' hw=>?_⟩
 obtain⟨cs',M',hb',hr'⟩:=hV w' hw
 have hl':=hr'.size
 have hrep':=Rep.get p hok hr'
 rw[hp]at hrep'
 obtain⟨_,hrl'⟩:=hrep'
 rw[hsz]at hrl'
 obtain⟨e1',_⟩:=lS hrl'
 obtain⟨dst,op,ty,pos,after,guard⟩:=o
 simp only at ho;subst ho
 refine bz ?_
 rw[hv]
 have hrun:=jO (P:=P) (w:=w') (b:=b) (off:=off) (c:=cs'.toArray) (el:=e) (fr:=(0,0)) (len:=k) (cap:=k) (ys:=p.get xv) hb' (by simp only[List.size_toArray];omega) (by simpa [hlk]using e1')
 simp only[Go.convert,ao,run_underlying (Tab.slice hT hs),run_underlying (Tab.str hT hd),run_underlying (Tab.int hT he)]
 exact hrun
end
def wv(P:Program)(bD:List (String×IntKind×List Int))(nm:String)(args:List TV)(L:List Res)(res:Value→TV)(L':Value→List Res):Prop:=
 ∀M vs,HoldAll M args vs→∃k us args',(∀w,(invoke (.fn (.method nm) #[]) vs.toArray).run P w= .ok (.enter k us.toArray) w)∧HoldAll M args' us∧FnT P bD k args' L res L'
section
variable {P:Program}{bD:List (String×IntKind×List Int)}{F:Fr}{n:Nat}{E:Env}{L:List Res}{ops:Array Oper}{rest:List Oper}
theorem Inv.tab{nm:String}{args:List TV}{L:List Res}{res:Value→TV}{L':Value→List Res}(h:Inv P nm args L res L'):wv P bD nm args L res L':=λM vs hv=>
 let⟨k,us,args',h1,h2,h3⟩:=h M vs hv
 ⟨k,us,args',h1,h2,λF w vs _ st hs ha=>h3 F w vs st hs ha⟩
theorem Cy{nm:String}{k:FuncId}{e:TypeId}{t u:T}{z:t.D}{args:List TV}{Lc:List Res}{res:Value→TV}{L':Value→List Res}(hm:pO P e nm k=true)(hc:FnT P bD k (.one t z::args) Lc res L'):wv P bD nm (.one (.ifc e t u) (.inl z)::args) Lc res L':=by
 intro M vs hv
 cases hv with
 | @cons _ v _ vs h r=>
   obtain⟨v',rfl,hz⟩:=holds_inl.1 h
   exact⟨k,v'::vs,.one t z::args,λw=>vO hm,.cons hz r,hc⟩
theorem fh{nm:String}{e:TypeId}{t u:T}{y:u.D}{args:List TV}{Lc:List Res}{res:Value→TV}{L':Value→List Res}(hu:u.isAgg=false)(hc:wv P bD nm (.one u y::args) Lc res L'):wv P bD nm (.one (.ifc e t u) (.inr y)::args) Lc res L':=by
 intro M vs hv
 cases hv with
 | @cons _ v _ vs h r=>exact hc M (v::vs) (.cons ((o7 hu).1 h).2 r)
theorem riT{Q:Exit→Act→World→Prop}{G:Fr}(hT:TabM P bD G.base)(hG:G.base=F.base)(is:List Nat){nm:String}{args:List TV}{Lc Lo:List Res}{res:Value→TV}{L':Value→List Res}(hc:wv P bD nm args Lc res L')(hp:mO L is=some (Lc,Lo)){x:Operand}{xs:List Operand}{tys:Array TypeId}{d:Nat}{ty:TypeId}{pos:String}{after:Array Edge}
  (hx:evs E (x::xs)=some args) (hd:Nat.ble (d+1) n=true) (g:∀v,Go F n ((d,res v)::E) (L' v++Lo) (wpList P ops Q rest)):
  Go F n E L (wpList P ops Q (⟨some d,.call ⟨.invoke x nm,xs.toArray,tys⟩,ty,pos,after,none⟩::rest)):=λM a w c=>by
 rw[hG]at hT
 have st:=c.st.perm (fQ hp)
 have hT':TabM P bD M:=hT.mono c.st.elder
 obtain⟨F',hb,hs,st',hback⟩:=st.part
 obtain⟨k,us,args',h1,h2,h3⟩:=hc M _ (oX c hx)
 unfold wpList
 rw[if_pos (by simp[Region.wanted])]
 left
 unfold Oper.wp
 rw[AF (h1 w),Oper.upon_enter]
 have:=h3 F' w us (by rw[hb];exact hT') (by rw[hb];exact st') hs (by rw[hb];exact h2)
 refine this.mono ?_
 rintro e w' ⟨v,M',rfl,st2,hv⟩
 obtain⟨hle,st3⟩:=hback _ _ _ st2
 exact g v M' _ _ (c.put hle st3 (Nat.le_of_ble_eq_true hd) hv)
end
end Sx
namespace Sx
open Go Go.RowKit
abbrev RF(l:Nat):Fence:=Fence.wide.inRound l
class NoOut(Q:Exit→Act→World→Prop):Prop where
 ok:¬LetsOut Q
instance {K:Act→World→Prop}{Q:Exit→Act→World→Prop}[h:NoOut Q]:NoOut (Exit.then K Q):=⟨λ⟨a,w,g⟩=>h.ok ⟨a,w,g⟩⟩
instance {id:Nat}{Q:Exit→Act→World→Prop}[h:NoOut Q]:NoOut (Exit.inBlock id Q):=⟨λ⟨a,w,g⟩=>h.ok ⟨a,w,g⟩⟩
def uk(o:Oper):Bool:=match o.op with
 | .defer _=>false
 |_=>true
theorem yE{o:Oper}(h:uk o=true)(c:Call):o.op≠.defer c:=λe=>by simp[uk,e]at h
section
variable {P:Program}{ops:Array Oper}{Q:Exit→Act→World→Prop}{l m:Nat}
theorem DE{f:FuncId}{args:Array Value}{w:World}{R:Ending→World→Prop}(h:Calls P f args w R):CallsIn (RF l) m P f args w R:=CallsIn.inRound l (callsIn_wide.2 h)
theorem EZ{row:String}{args:Array Value}{w:World}{R:Value→World→Prop}(h:Rows P row args w R):RowsIn (RF l) m P row args w R:=λc cs _=>
 let⟨v,w',r,s⟩:=h c cs;⟨v,w',r,stepsIn_wide.2 s⟩
theorem E3{o:Oper}{a:Act}{nx nx':Act→World→Prop}(hn:∀a w,nx a w→nx' a w):∀{r:Result Next},o.upon P a nx Q r→o.uponIn (RF l) m P a nx' Q r
 | .ok (.value _) _,h=>hn _ _ h
 | .ok .skip _,h=>hn _ _ h
 | .ok (.defer _) _,h=>hn _ _ h
 | .ok (.enter _ _) _,h=>⟨λe=>by simp[Fence.wide]at e,DE (Calls.mono h λe w' r=>by
    cases e with
    |returned v=>exact hn _ _ r
    |panicked c=>exact r
    |outgrown=>exact r)⟩
 | .ok (.row _ _) _,h=>⟨λe=>by simp[Fence.wide]at e,EZ (Rows.mono h λ_ _ r=>hn _ _ r)⟩
 | .halt (.panic _) _,h=>h
theorem ww[hQ:NoOut Q]:∀{L:List Oper} {a:Act} {w:World},L.all uk=true→wpList P ops Q L a w→wpListIn (RF l) m P ops Q L a w
 |[],_,_,_,h=>h
 |o::rest,a,w,hd,h=>by
  simp only[List.all_cons,Bool.and_eq_true]at hd
  unfold wpList at h
  unfold wpListIn
  split
  ·rename_i hw
   rw[if_pos hw]at h
   rcases h with h|⟨_,h⟩
   ·refine⟨λ_ _=>trivial,?_⟩
    rw[Oper.semAt_eq _ _ _ (yE hd.1)]
    exact E3 (λa w g=>ww hd.2 g) h
   ·exact absurd h hQ.ok
  ·rename_i hw
   rw[if_neg hw]at h
   exact⟨λ_ _=>trivial,ww hd.2 h⟩
end
section
variable {P:Program}{F:Fr}{n l m:Nat}{E:Env}{L:List Res}{c1 c2:Code}{Q:Exit→Act→World→Prop}{K:Act→World→Prop}
theorem nI(g:Go F n E L (c1.wpIn (RF l) m P (Exit.then (c2.wpIn (RF l) m P Q) Q))):Go F n E L ((Code.seq c1 c2).wpIn (RF l) m P Q):=λM a w c=>wpIn_seq (g M a w c)
theorem wx(g:Go F n E L (Q .normal)):Go F n E L (Code.skip.wpIn (RF l) m P Q):=λM a w c=>wpIn_skip (g M a w c)
theorem kz[NoOut Q]{id:Nat}{os:List Oper}(hd:os.all uk=true)(g:Go F n E L (wpList P os.toArray Q os)):Go F n E L ((Code.region id os.toArray false).wpIn (RF l) m P Q):=λM a w c=>wpIn_region_lit (ww hd (g M a w c))
theorem yF{id:Nat}(g:Go F n E L (c1.wpIn (RF l) m P (Exit.inBlock id Q))):Go F n E L ((Code.block id c1).wpIn (RF l) m P Q):=λM a w c=>wpIn_block (g M a w c)
theorem E4{id:Nat}(g:Go F n E L (Q (.exit id))):Go F n E L ((Code.exit id).wpIn (RF l) m P Q):=λM a w c=>wpIn_exit (g M a w c)
theorem Cz(g:Go F n E L (Q .ret)):Go F n E L (Code.ret.wpIn (RF l) m P Q):=λM a w c=>wpIn_ret (g M a w c)
theorem Bm{i:Nat}{b:Bool}(he:E.get i=some (.one .bool b))(hT:b=true→Go F n E L (c1.wpIn (RF l) m P Q))(hF:b=false→Go F n E L (c2.wpIn (RF l) m P Q)):
  Go F n E L ((Code.cond (.tmp i) c1 c2).wpIn (RF l) m P Q):=λM a w c=>by
 obtain⟨v,e,hv⟩:=c.get? he
 exact wpIn_cond (t:=b) (e.trans (holds_bool.1 hv)) (by
  cases b with
  |true=>exact hT rfl M a w c
  |false=>exact hF rfl M a w c)
end
abbrev Res.dfr(D:Nat):Res:=Res.block D (.deferred (some []))
abbrev mark(D:Nat):Deferred:={target:= .collected D,args:= #[]}
theorem St.flip{F:Fr}{M:Mem}{w:World}{L:List Res}{b:Nat}{o:Obj}(o':Obj){i:Nat}(h:St F M w L)(hi:L[i]? =some (Res.block b o)):St F M (w.putObj b o') (L.set i (Res.block b o')):=by
 have hb:w.heap[b]? =some o:=(h.res hi).elim λS hS=>hS.2
 refine h.turn hi (B:=λk=>k=b) (λS hS=>⟨hS.1,World.putObj_heap_same (cH hb)⟩) (λS hS k hk=>(hS.1 k).2 hk) (λk hk=>World.putObj_heap_other hk) rfl rfl rfl (by simp)
def yG(P:Program)(B0:Mem)(l:Nat)(x:Int)(L:List Res)(A B:List Res→Prop):Prop:=
 ∀(F:Fr) (w:World),B0.le F.base→St F F.base w L→F.size=w.heap.size→
  ∃fn tmps assign body,(Instr.yield l #[.int .i64 x]).run P w= .ok (.round l fn tmps assign body) w∧RoundIn Fence.wide 0 P l fn tmps assign body w (λe w'=>
   (e= .returned (.bool true)∧∃M' L',A L'∧St F M' w' L')∨(e= .returned (.bool false)∧∃M' L',B L'∧St F M' w' L'))
def IterOk(P:Program)(T:Mem→Prop)(gf:FuncId)(lb:List Value)(L0:List Res)(xs:List Int):Prop:=
 ∀(F:Fr) (w:World) (l:Nat) (K:List Int→List Res→Prop) (B:List Res→Prop) (Lo:List Res),T F.base→
  (∀x rest L,rng .i64 x→K (x::rest) L→yG P F.base l x L (K rest) B)→K xs (L0++Lo)→(∀xs L L',L.Perm L'→K xs L→K xs L')→St F F.base w (L0++Lo)→F.size=w.heap.size→
  Calls P gf (.func (.yield l) #[] #[]::lb).toArray w (λe w'=>(∃v,e= .returned v)∧∃M' L',(K [] L'∨B L')∧St F M' w' L')
def vR(F F1:Fr)(n:Nat)(E:Env)(D:Nat)(Q:Exit→Act→World→Prop)(K:List Res→Prop):Exit→Act→World→Prop
 | .normal,_,w=>∃M L,K L∧St F1 M w L
 | .ret,_,w=>∃M L,Go (F.df (mark D)) n E (L++[Res.dfr D]) (Q .ret)∧St F1 M w L
 | .exit id,_,w=>∃M L,Go (F.df (mark D)) n E (L++[Res.dfr D]) (Q (.exit id))∧St F1 M w L
 |_,_,_=>False
instance {F F1:Fr}{n:Nat}{E:Env}{D:Nat}{Q:Exit→Act→World→Prop}{K:List Res→Prop}:NoOut (vR F F1 n E D Q K):=⟨λ⟨_,_,g⟩=>g⟩
section
variable {P:Program}{F F1:Fr}{n:Nat}{E E':Env}{L L2:List Res}{D:Nat}{Q:Exit→Act→World→Prop}{K:List Res→Prop}
theorem AG{σ γ ρ:Type}{f:σ→Option ρ}{out:ρ}{R:σ→γ→List Res}(s:σ)(g:γ)(hf:f s=some out)(hL:L=R s g):Go F1 n E' L (vR F F1 n E D Q (λL=>∃o g,f o=some out∧L=R o g) .normal):=λM a w c=>⟨M,L,⟨s,g,hf,hL⟩,c.st⟩
theorem CA(hL:L++[Res.dfr D]=L2)(g:Go (F.df (mark D)) n E L2 (Q .ret)):Go F1 n E' L (vR F F1 n E D Q K .ret):=λM a w c=>⟨M,L,by rw[hL];exact g,c.st⟩
theorem E5{id:Nat}(hL:L++[Res.dfr D]=L2)(g:Go (F.df (mark D)) n E L2 (Q (.exit id))):Go F1 n E' L (vR F F1 n E D Q K (.exit id)):=λM a w c=>⟨M,L,by rw[hL];exact g,c.st⟩
end
section
variable {P:Program}{F:Fr}{n:Nat}{E:Env}{L:List Res}{Q:Exit→Act→World→Prop}
theorem yH{T:Mem→Prop}{σ γ ρ:Type}{out:ρ}{xs:List Int}{gt p q gf:Nat}{lb:List Value}{z:Value}{L0 Lo:List Res}{id:Nat}{ty:TypeId}{pos:String}{after:Array Edge}{body:Code}(Rs:σ→γ→List Res)(f:List Int→σ→Option ρ)(s0:σ)(g0:γ)(is:List Nat){G:Fr}(hT':T G.base)(hG:G.base=F.base)(hTm:∀A B:Mem,A.le B→T A→T B)
  (it:IterOk P T gf lb L0 xs) (hk:dQ P gf=true) (hf:f xs s0=some out) (hL:L=Rs s0 g0) (hp:mO L is=some (L0,Lo)) (hg:E.get gt=some (.one (.raw z) (.func (.func gf) #[] lb.toArray)))
  (hpn:Nat.ble (p+1) n=true) (hqn:Nat.ble (q+1) n=true)
  (hb:∀l F1 D x m s g,T (Fr.nd F1).base→f (x::m) s=some out→Go (Fr.nd F1) n ((q,.one (.int .i64) x)::(p,.one (.int .i64) x)::E) (Rs s g) (body.wpIn (RF l) 0 P (vR F (Fr.nd F1) n E D Q (λL=>∃o g,f m o=some out∧L=Rs o g))))
  (hd:∀D s g,f [] s=some out→Go (F.df (mark D)) n E (Rs s g++[Res.dfr D]) (Q .normal)):
  Go F n E L ((Code.rangeFunc (.tmp gt) #[p] (.region id #[⟨some q,.assign (.tmp p),ty,pos,after,none⟩] false) body).wp P Q):=λM a w c=>by
 have hT:T F.base:=by rw[←hG];exact hT'
 obtain⟨gv,hgv,hgh⟩:=c.get? hg
 have hgv':a.eval (.tmp gt)= .func (.func gf) #[] lb.toArray:=hgv.trans (holds_raw.1 hgh).1
 refine wpIn_wide (n:=0).1 (wpIn_rangeFunc ?_)
 intro fn _
 obtain⟨rec,hrec⟩:∃rec:LoopState→Option Code→Loop,rec=λst pe=>{state:=st,pending:=pe,fn,tmps:=a.tmps,params:= #[p],assign:= .region id #[⟨some q,.assign (.tmp p),ty,pos,after,none⟩] false,body,defers:=w.heap.size}:=⟨_,rfl⟩
 obtain⟨l,hl⟩:∃l,l=w.heap.size+1:=⟨_,rfl⟩
 obtain⟨D,hD⟩:∃D,D=w.heap.size:=⟨_,rfl⟩
 obtain⟨W1,hW1⟩:∃W1,(w.alloc (.deferred (some []))).alloc (.loop (rec .ready none))=W1:=⟨_,rfl⟩
 have st1:St F M W1 (Res.block l (.loop (rec .ready none))::Res.dfr D::L):=by
  have h1:St F M (w.alloc (.deferred (some []))) (Res.dfr D::L):=c.st.new ⟨λk=>by rw[hD],by simp[hD]⟩
  have h2:=h1.new (o:= .loop (rec .ready none)) (R:=Res.block l (.loop (rec .ready none))) ⟨λk=>by rw[hl];simp,by rw[hl];have:=World.alloc_heap_new (w.alloc (.deferred (some []))) (.loop (rec .ready none));rw[World.size_alloc]at this;exact this⟩
  rw[←hW1];exact h2
 have hent:=run_enterLoop_outer (P:=P) (w:=w) fn a.tmps #[p] (.region id #[⟨some q,.assign (.tmp p),ty,pos,after,none⟩] false) body
 refine⟨l,[mark D],W1,{target:= .fn (.func gf) lb.toArray,args:= #[.func (.yield l) #[] #[]]},W1,gf,(.func (.yield l) #[] #[]::lb).toArray,W1,?_,?_,λ_ _=>trivial,?_,λe=>by simp[Fence.wide]at e,?_⟩
 ·rw[←hW1,hrec,hl,hD];exact hent
 ·simp only[resolve,hgv']
  simp[go_sem]
 ·simp[invoke,gn hk]
 ·have st2:St F M W1 ((L0++(Lo++[Res.block l (.loop (rec .ready none)),Res.dfr D]))++[]):=by
   refine st1.perm ?_
   have hp':=fQ hp
   simp only[List.append_nil,←List.append_assoc]
   exact(List.perm_append_comm (l₁:=[Res.block l (.loop (rec .ready none)),Res.dfr D]) (l₂:=L)).trans (hp'.append_right _)
  obtain⟨F',hbs,hsz,st',back⟩:=st2.part
  refine callsIn_wide.2 ((it F' W1 l (λrest L=>∃o g,f rest o=some out∧L.Perm (Res.block l (.loop (rec .ready none))::Res.dfr D::Rs o g))
   (λL=>∃jump L',(∀a' w',(∃M,Cfg (F.df (mark D)) M n E (L'++[Res.dfr D]) a' w')→jump.wpIn Fence.wide 0 P Q a' w')∧L=Res.block l (.loop (rec .done (some jump)))::Res.dfr D::L') _ (by rw[hbs];exact hTm _ _ c.st.elder hT) ?_ ?_ ?_ (by rw[hbs];exact st') hsz).mono ?_)
  ·
   rintro x rest LK hrx ⟨o,g,hfo,hperm⟩ Fc W hB0 hst hsize
   have hst2:=hst.perm hperm
   have hlk:W.heap[l]? =some (.loop (rec .ready none)):=(hst2.res (i:=0) rfl).elim λS hS=>hS.2
   have hy:(Instr.yield l #[.int .i64 x]).run P W= .ok (.round l fn (a.tmps.setIfInBounds p (.int .i64 x)) (.region id #[⟨some q,.assign (.tmp p),ty,pos,after,none⟩] false) body) W:=by
    have:=run_yield (P:=P) (args:= #[.int .i64 x]) hlk (by rw[hrec];rfl)
    rw[hrec]at this
    simpa using this
   refine⟨fn,_,_,body,hy,roundIn_of_wpIn trivial ?_⟩
   refine wpIn_region_lit (l:=[_]) (wpListIn_plain rfl λK hK=>⟨λ_ _=>trivial,?_⟩)
   rw[Oper.semAt_eq _ _ _ (yE rfl)]
   have hT0:T F'.base:=by rw[hbs];exact hTm _ _ c.st.elder hT
   have hst3:=hst2.flip (.loop {rec .ready none with state:= .busy}) (i:=0) rfl
   have hst4:St Fc Fc.base (W.putObj l (.loop {rec .ready none with state:= .busy})) (Rs o g++[Res.block l (.loop {rec .ready none with state:= .busy}),Res.dfr D]):=hst3.perm (List.perm_append_comm (l₁:=[_,_]))
   obtain⟨F2,hb2,hs2,st2,back2⟩:=hst4.part
   have hle2:M.le F2.base:=by rw[hb2,←hbs];exact hB0
   have hx:Holds (.int .i64) F2.base (.int .i64 x) x:=holds_int.2 ⟨rfl,hrx⟩
   have c2:Cfg (Fr.nd F2) F2.base n E (Rs o g) {tmps:=a.tmps,defers:=[]} (W.putObj l (.loop {rec .ready none with state:= .busy})):=
    ⟨by have:=st2.nd;rw[←hb2]at this;exact this,rfl,c.size,λi t h=>(c.env i t h).elim λv hv=>⟨v,hv.1,TV.mono hle2 hv.2⟩⟩
   have c3:=c2.put (Mem.le.refl _) c2.st (Nat.le_of_ble_eq_true hpn) (t:= .one (.int .i64) x) hx
   have c4:=c3.put (Mem.le.refl _) c3.st (Nat.le_of_ble_eq_true hqn) (t:= .one (.int .i64) x) hx
   have hrun:(execOp (Act.eval {tmps:=a.tmps.setIfInBounds p (.int .i64 x),defers:=[]}) ⟨some q,.assign (.tmp p),ty,pos,after,none⟩).run P W= .ok (.value (.int .i64 x)) W:=by
    obtain⟨v,hv,hh⟩:=c3.get? (i:=p) (t:= .one (.int .i64) x) (by simp[Env.get])
    have:=(holds_int.1 hh).1;subst this
    have hv2:Act.eval {tmps:=a.tmps.setIfInBounds p (.int .i64 x),defers:=[]} (.tmp p)= .int .i64 x:=hv
    simp only[execOp,hv2]
    rfl
   show Oper.uponIn _ _ _ _ _ _ _ ((execOp (Act.eval {tmps:=a.tmps.setIfInBounds p (.int .i64 x),defers:=[]}) ⟨some q,.assign (.tmp p),ty,pos,after,none⟩).run P W)
   rw[hrun]
   refine hK _ _ ⟨_,run_beginRound hlk (by rw[hrec]),?_⟩
   refine wpIn_mono (hb l F2 D x rest o g (hTm _ _ (by show F'.base.le F2.base;rw[hb2];exact hB0) hT0) hfo F2.base _ _ c4) ?_
   have fin:∀(jump:Option Code) (M3:Mem) (W3:World) (L3:List Res),St (Fr.nd F2) M3 W3 L3→
     (Instr.endRound l jump).run P W3= .ok (.bool jump.isNone) (W3.putObj l (.loop (rec (if jump.isNone then .ready else .done) jump)))∧St Fc M3 (W3.putObj l (.loop (rec (if jump.isNone then .ready else .done) jump))) (Res.block l (.loop (rec (if jump.isNone then .ready else .done) jump))::Res.dfr D::L3):=λjump M3 W3 L3 h3=>by
    obtain⟨_,h4⟩:=back2 M3 W3 L3 h3.un
    have h5:St Fc M3 W3 (Res.block l (.loop {rec .ready none with state:= .busy})::Res.dfr D::L3):=h4.perm (List.perm_append_comm (l₂:=[_,_]))
    have hl5:W3.heap[l]? =some (.loop {rec .ready none with state:= .busy}):=(h5.res (i:=0) rfl).elim λS hS=>hS.2
    have h6:=h5.flip (.loop (rec (if jump.isNone then .ready else .done) jump)) (i:=0) rfl
    refine⟨?_,h6⟩
    have:=run_endRound (P:=P) jump hl5
    rw[hrec]at this⊢
    exact this
   rintro e a3 W3 hp3
   cases e with
   |normal=>
    obtain⟨M3,L3,⟨o',g',hf3,rfl⟩,st3⟩:=hp3
    obtain⟨h1,h2⟩:=fin none M3 W3 _ st3
    exact⟨_,_,h1,.inl ⟨rfl,M3,_,⟨o',g',hf3,List.Perm.refl _⟩,h2⟩⟩
   |ret=>
    obtain⟨M3,L3,hgo,st3⟩:=hp3
    obtain⟨h1,h2⟩:=fin (some .ret) M3 W3 _ st3
    exact⟨_,_,h1,.inr ⟨rfl,M3,_,⟨.ret,L3,λa' w' ⟨M',c'⟩=>wpIn_ret (hgo M' a' w' c'),rfl⟩,h2⟩⟩
   |exit id=>
    obtain⟨M3,L3,hgo,st3⟩:=hp3
    obtain⟨h1,h2⟩:=fin (some (.exit id)) M3 W3 _ st3
    exact⟨_,_,h1,.inr ⟨rfl,M3,_,⟨.exit id,L3,λa' w' ⟨M',c'⟩=>wpIn_exit (hgo M' a' w' c'),rfl⟩,h2⟩⟩
   |goto t=>exact hp3.elim
   |panic ch=>exact hp3.elim
   |outgrown=>exact hp3.elim
  ·refine⟨s0,g0,hf,?_⟩
   have hp':=fQ hp
   rw[←hL,←List.append_assoc]
   exact(hp'.symm.append_right _).trans (List.perm_append_comm (l₂:=[_,_]))
  ·rintro ys A B' hAB ⟨o,g,h1,h2⟩
   exact⟨o,g,h1,hAB.symm.trans h2⟩
  ·rintro e W2 ⟨⟨v,rfl⟩,M',L',hK,st3⟩
   obtain⟨hle,st4⟩:=back M' W2 L' st3
   rw[List.append_nil]at st4
   have cf:∀(L2:List Res) (r:Loop) (w4:World),St F M' W2 (Res.block l (.loop r)::Res.dfr D::L2)→w4=W2.putObj l (.loop {r with state:= .exhausted})→Cfg (F.df (mark D)) M' n E (L2++[Res.dfr D]) {a with defers:=[mark D]++a.defers} w4:=λL2 r w4 h hw=>by
    have h1:=h.flip (.loop {r with state:= .exhausted}) (i:=0) rfl
    have h2:=(h1.lose (L':=Res.dfr D::L2) (List.sublist_cons_self _ _)).perm (List.perm_append_comm (l₁:=[_]))
    rw[hw]
    exact⟨⟨h2.os,h2.tape,h2.output,h2.size,h2.elder,h2.fresh,h2.frame,h2.mem,h2.sep⟩,by show _::a.defers=_;rw[c.defers];rfl,c.size,λi t h=>(c.env i t h).elim λv hv=>⟨v,hv.1,TV.mono hle hv.2⟩⟩
   rcases hK with⟨o,g,hfo,hperm⟩|⟨jump,L3,hgo,rfl⟩
   ·have st5:=st4.perm hperm
    have hl5:W2.heap[l]? =some (.loop (rec .ready none)):=(st5.res (i:=0) rfl).elim λS hS=>hS.2
    have he:=run_endLoop (P:=P) hl5 (by rw[hrec];simp)
    exact⟨none,_,he.trans (by rw[hrec]),hd D o g hfo M' _ _ (cf _ _ _ st5 rfl)⟩
   ·have hl5:W2.heap[l]? =some (.loop (rec .done (some jump))):=(st4.res (i:=0) rfl).elim λS hS=>hS.2
    have he:=run_endLoop (P:=P) hl5 (by rw[hrec];simp)
    exact⟨some jump,_,he.trans (by rw[hrec]),hgo _ _ ⟨M',cf _ _ _ st4 rfl⟩⟩
end
section
variable {P:Program}{bD:List (String×IntKind×List Int)}{F G:Fr}{n:Nat}{E:Env}{L L2:List Res}{R:Ending→World→Prop}{fn:Func}
def qx(P:Program)(fn:Func)(R:Ending→World→Prop):Exit→Act→World→Prop:=λe a w=>(∀d∈a.defers,∃D,d=mark D)∧bodyPostM Fence.wide 0 P fn R e a w
theorem tK{t1 t2:Array Value}{ch:List PanicEntry}:∀{ds:List Deferred},(∀d∈ds,∃D,d=mark D)→∀{w:World},LeavesInM Fence.wide 0 P fn t1 R ds (.panicking ch) w→LeavesInM Fence.wide 0 P fn t2 R ds (.panicking ch) w
 |[],_,_,h=>h
 |d::ds,hm,w,⟨hne,h⟩=>by
  rcases h with⟨r,w',ht,hk,hr⟩|⟨_,fv,cap,f,args,ht,_⟩
  ·exact⟨hne,.inl ⟨r,w',ht,hk,tK (λd hd=>hm d (List.mem_cons_of_mem _ hd)) hr⟩⟩
  ·obtain⟨D,rfl⟩:=hm d (List.mem_cons_self ..)
   cases ht
theorem zP:iR (qx P fn R):=λch a d v w h=>by
 have hd:(Act.put a d v).defers=a.defers:=by cases d<;>rfl
 obtain⟨hm,h⟩:=h
 rw[hd]at hm
 refine⟨hm,?_⟩
 have h':LeavesInM Fence.wide 0 P fn (Act.put a d v).tmps R (Act.put a d v).defers (.panicking ch) w:=h
 rw[hd]at h'
 exact tK hm h'
theorem zQ{Q:Exit→Act→World→Prop}(h:iR Q):iR (Exit.noGoto Q):=λch a d v w g=>h ch a d v w g
theorem E6{k:FuncId}{body:Code}{args:List TV}(hf:P.funcs[k]? =some fn)(hb:fn.body=some body)(n:Nat)(hn:fn.ntmps=n)
  (ha:Nat.ble args.length n=true) (g:Go (Fr.nd F) n (oW 0 args) L (body.wp P (qx P fn R))) {w:World} {vs:List Value} (hst:St F F.base w L) (hargs:HoldAll F.base args vs):Calls P k vs.toArray w R:=by
 have c:Cfg (Fr.nd F) F.base n (oW 0 args) L {tmps:=vs.toArray++Array.replicate (fn.ntmps - vs.toArray.size) undef,defers:=[]} w:=by
  refine⟨hst.nd,rfl,?_,?_⟩
  ·have:=hargs.length
   have:=Nat.le_of_ble_eq_true ha
   simp[hn];omega
  ·intro i t h
   obtain⟨j,v,e,hv,ht⟩:=px hargs h
   refine⟨v,?_,ht⟩
   have hj:j<vs.length:=by
    rcases Nat.lt_or_ge j vs.length with h|h
    ·exact h
    ·simp[List.getElem?_eq_none h]at hv
   simp only[Nat.zero_add]at e;subst e
   have hv':vs[i]=v:=by simpa [hj]using hv
   simp[Array.getElem?_append,hj,hv']
 exact callsIn_wide.1 (callsIn_of_wp_marks (n:=0) hf hb trivial (wpIn_wide.2 (wp_mono (g _ _ _ c) λ_ _ _ h=>h.2)))
theorem E7{k:FuncId}{body:Code}{args:List TV}{res:Value→TV}{L':Value→List Res}(hf:P.funcs[k]? =some fn)(hb:fn.body=some body)(n:Nat)(hn:fn.ntmps=n)
  (ha:Nat.ble args.length n=true) (g:∀F,TabM P bD F.base→Go (Fr.nd F) n (oW 0 args) L (body.wp P (qx P fn (mg F res L')))):FnT P bD k args L res L':=λF _ _ hT hst _ hargs=>E6 hf hb n hn ha (g F hT) hst hargs
theorem oN(g:Go (Fr.nd F) n E L (bodyPost P fn R .ret)):Go (Fr.nd F) n E L (qx P fn R .ret):=λM a w c=>by
 have hd:=c.defers
 obtain⟨_,v,h1,h2⟩:=g M a w c
 refine⟨λd h=>(by rw[hd]at h;cases h),?_⟩
 show LeavesInM Fence.wide 0 P fn a.tmps R a.defers .returning w
 rw[hd]
 exact⟨v,h1,h2⟩
theorem kD{D:Nat}(is:List Nat)(hp:mO L is=some ([Res.dfr D],L2))(g:Go F n E L2 (qx P fn R .ret)):Go (F.df (mark D)) n E L (qx P fn R .ret):=λM a w c=>by
 have hd:=c.defers
 have st:=c.st.perm (fQ hp)
 have hD:w.heap[D]? =some (.deferred (some [])):=(st.res (i:=0) rfl).elim λS hS=>hS.2
 have st2:=(st.flip (.deferred none) (i:=0) rfl).lose (L':=L2) (List.sublist_cons_self _ _)
 have hg:qx P fn R .ret {a with defers:=F.dfs} (w.putObj D (.deferred none)):=g M _ _ ⟨⟨st2.os,st2.tape,st2.output,st2.size,st2.elder,st2.fresh,st2.frame,st2.mem,st2.sep⟩,rfl,c.size,c.env⟩
 refine⟨λd h=>?_,?_⟩
 ·rw[hd]at h
  rcases List.mem_cons.1 h with rfl|h
  ·exact⟨D,rfl⟩
  ·exact hg.1 d h
 show LeavesInM Fence.wide 0 P fn a.tmps R a.defers .returning w
 rw[hd]
 exact⟨by simp,.inl ⟨D,_,rfl,run_takeDeferred hD,hg.2⟩⟩
variable {ops:Array Oper}{Q:Exit→Act→World→Prop}{rest:List Oper}
theorem DF{k:FuncId}{args:List TV}{Lc Lo:List Res}{res:Value→TV}{L':Value→List Res}{xs:List Operand}{tys:Array TypeId}{d:Nat}{ty:TypeId}{pos:String}{after:Array Edge}(hT:TabM P bD G.base)(hG:G.base=F.base)(is:List Nat)(hc:FnT P bD k args Lc res L')(hk:dQ P k=true)(hp:mO L is=some (Lc,Lo))
  (hx:evs E xs=some args) (hd:Nat.ble (d+1) n=true) (g:∀v,Go F n ((d,res v)::E) (L' v++Lo) (wpList P ops Q rest)):
  Go F n E L (wpList P ops Q (⟨some d,.call ⟨.value (.func k),xs.toArray,tys⟩,ty,pos,after,none⟩::rest)):=λM a w c=>by
 unfold wpList
 rw[if_pos (by simp[Region.wanted])]
 left
 unfold Oper.wp
 have hrun:(execOp a.eval ⟨some d,.call ⟨.value (.func k),xs.toArray,tys⟩,ty,pos,after,none⟩).run P w= .ok (.enter k (xs.map a.eval).toArray) w:=by
  simp only[execOp,resolve,ao,aG,Act.eval,Deferred.ofValue,invoke]
  rw[gn hk]
  simp
 rw[hrun,Oper.upon_enter]
 have st:=c.st.perm (fQ hp)
 rw[hG]at hT
 have hT':TabM P bD M:=hT.mono c.st.elder
 obtain⟨F',hb,hs,st',hback⟩:=st.part
 have:=hc F' w (xs.map a.eval) (by rw[hb];exact hT') (by rw[hb];exact st') hs (by rw[hb];exact oX c hx)
 refine this.mono ?_
 rintro e w' ⟨v,M',rfl,st2,hv⟩
 obtain⟨hle,st3⟩:=hback _ _ _ st2
 exact g v M' _ _ (c.put hle st3 (Nat.le_of_ble_eq_true hd) hv)
end
def Bn(F:Fr)(K:List Int→List Res→Prop)(B:List Res→Prop):Ending→World→Prop:=λe w'=>(∃v,e= .returned v)∧∃M' L',(K [] L'∨B L')∧St F M' w' L'
section
variable {P:Program}{F F1:Fr}{n:Nat}{E E':Env}{L Lc Lo:List Res}{Q:Exit→Act→World→Prop}{c:Code}
theorem DG(g:∀F1,F.base.le F1.base→(∀M n E L' a w,Cfg F1 M n E L' a w→Cfg F M n E (L'++Lo) a w)→Go F1 n E Lc (c.wp P Q)):Go F n E (Lc++Lo) (c.wp P Q):=λM a w cf=>by
 obtain⟨F',hb,_,st',back⟩:=cf.st.part
 refine g {F' with dfs:=F.dfs} (by show F.base.le F'.base;rw[hb];exact cf.st.elder) ?_ M a w ⟨⟨st'.os,st'.tape,st'.output,st'.size,st'.elder,st'.fresh,st'.frame,st'.mem,st'.sep⟩,cf.defers,cf.size,cf.env⟩
 intro M' n' E' L' a' w' c'
 obtain⟨_,h⟩:=back M' w' L' ⟨c'.st.os,c'.st.tape,c'.st.output,c'.st.size,c'.st.elder,c'.st.fresh,c'.st.frame,c'.st.mem,c'.st.sep⟩
 exact⟨h,c'.defers,c'.size,c'.env⟩
theorem Bo{X:Act→World→Prop}(back:∀M n E L' a w,Cfg F1 M n E L' a w→Cfg F M n E (L'++Lo) a w)(g:Go F n E (L++Lo) X):Go F1 n E L X:=λM a w c=>g M a w (back _ _ _ _ _ _ c)
def Eo(F:Fr)(n:Nat){σ:Type}(I:Nat→σ→Prop)(S:σ→Env)(R:σ→List Res)(m:Nat)(a:Act)(w:World):Prop:=∃m' s',m'<m∧I m' s'∧∃M,Cfg F M n (S s') (R s') a w
theorem E8{σ:Type}(I:Nat→σ→Prop)(S:σ→Env)(R:σ→List Res)(m0:Nat)(s0:σ)(h0:I m0 s0)(hE:E=S s0)(hL:L=R s0)(hb:∀m s,I m s→Go F n (S s) (R s) (c.wp P (Exit.then (Eo F n I S R m) Q))):Go F n E L ((Code.loop c).wp P Q):=λM a w cf=>by
 refine nv (λm a w=>∃s,I m s∧∃M,Cfg F M n (S s) (R s) a w) ?_ (m:=m0) ⟨s0,h0,M,by subst hE;subst hL;exact cf⟩
 rintro m a w ⟨s,hI,M,cf⟩
 refine wp_mono (hb m s hI M a w cf) ?_
 intro e a' w' q
 cases e<;>first|exact q|(obtain⟨m',s',h1,h2,h3⟩:=q;exact⟨m',h1,s',h2,h3⟩)
theorem E9{σ:Type}{I:Nat→σ→Prop}{S:σ→Env}{R:σ→List Res}{m:Nat}(m':Nat)(s':σ)(hlt:m'<m)(hI:I m' s')(hE:E=S s')(hL:L=R s'):Go F n E L (Eo F n I S R m):=λM a w cf=>⟨m',s',hlt,hI,M,by subst hE;subst hL;exact cf⟩
theorem yI{ops:Array Oper}{o:Oper}{rest:List Oper}{a:Act}{w:World}{v:Value}(hg:o.guard=none)(hrun:(execOp a.eval o).run P w= .ok (.value v) w)(h:wpListIn Fence.wide 0 P ops Q rest (a.put o.dst v) w):wpListIn Fence.wide 0 P ops Q (o::rest) a w:=by
 refine wpListIn_plain hg λK hK=>⟨λ_ _=>trivial,?_⟩
 show o.uponIn _ _ _ _ _ _ ((Oper.semAt none _ o).run P w)
 rw[Oper.semAt_none,hrun]
 exact hK _ _ h
theorem CB{y xi a1 a2 a3 a4 l:Nat}{z:Value}{x:Int}{A B:List Res→Prop}{id:Nat}{t1 t2 t3 t4 tb:TypeId}{p1 p2 p3 p4:String}{f1 f2 f3 f4:Array Edge}{tys:Array TypeId}(hy:E.get y=some (.one (.raw z) (.func (.yield l) #[] #[])))(hx:E.get xi=some (.one (.int .i64) x))(h1:Nat.ble (a1+1) n=true)(h2:Nat.ble (a2+1) n=true)(h3:Nat.ble (a3+1) n=true)(h4:Nat.ble (a4+1) n=true)(hne:Nat.beq a1 xi=false)(hne2:Nat.beq a2 a1=false)
  (hR:rng .i64 x→yG P F.base l x L A B)
  (hA:∀L',A L'→Go F n ((a4,.one .bool false)::(a3,.one .bool true)::(a2,.one (.int .i64) x)::(a1,.one (.raw z) (.func (.yield l) #[] #[]))::E) L' (Q .normal))
  (hB:∀L',B L'→Go F n ((a4,.one .bool true)::(a3,.one .bool false)::(a2,.one (.int .i64) x)::(a1,.one (.raw z) (.func (.yield l) #[] #[]))::E) L' (Q .normal)):
  Go F n E L ((Code.region id #[⟨some a1,.move (.tmp y),t1,p1,f1,none⟩,⟨some a2,.move (.tmp xi),t2,p2,f2,none⟩,⟨some a3,.call ⟨.value (.tmp a1),#[.tmp a2],tys⟩,t3,p3,f3,none⟩,⟨some a4,.unOp .not tb (.tmp a3),t4,p4,f4,none⟩] false).wp P Q):=λM a w c=>by
 have hvy:TV.holds M (.func (.yield l) #[] #[]) (.one (.raw z) (.func (.yield l) #[] #[])):=by
  obtain⟨v,_,hh⟩:=c.get hy
  obtain⟨rfl,_⟩:=holds_raw.1 hh
  exact hh
 have hvx:TV.holds M (.int .i64 x) (.one (.int .i64) x):=by
  obtain⟨v,_,hh⟩:=c.get hx
  obtain⟨rfl,_⟩:=holds_int.1 hh
  exact hh
 have ev1:a.eval (.tmp y)= .func (.yield l) #[] #[]:=by
  obtain⟨v,e,hh⟩:=c.get? hy
  exact e.trans (holds_raw.1 hh).1
 refine wpIn_wide.1 (wpIn_region_lit (n:=0) (l:=[_,_,_,_]) ?_)
 refine yI (v:= .func (.yield l) #[] #[]) rfl (by simp only[execOp,ev1];rfl) ?_
 have c1:=c.put (Mem.le.refl _) c.st (Nat.le_of_ble_eq_true h1) (t:= .one (.raw z) (.func (.yield l) #[] #[])) hvy
 have ev2:(a.put (some a1) (.func (.yield l) #[] #[])).eval (.tmp xi)= .int .i64 x:=by
  obtain⟨v,e,hh⟩:=c1.get? (i:=xi) (t:= .one (.int .i64) x) (by simp only[Env.get,hne];exact hx)
  exact e.trans (holds_int.1 hh).1
 refine yI (v:= .int .i64 x) rfl (by simp only[execOp,ev2];rfl) ?_
 have c2:=c1.put (Mem.le.refl _) c1.st (Nat.le_of_ble_eq_true h2) (t:= .one (.int .i64) x) hvx
 have ev3:((a.put (some a1) (.func (.yield l) #[] #[])).put (some a2) (.int .i64 x)).eval (.tmp a1)= .func (.yield l) #[] #[]:=by
  obtain⟨v,e,hh⟩:=c2.get? (i:=a1) (t:= .one (.raw z) (.func (.yield l) #[] #[])) (by simp[Env.get,hne2])
  exact e.trans (holds_raw.1 hh).1
 have ev4:((a.put (some a1) (.func (.yield l) #[] #[])).put (some a2) (.int .i64 x)).eval (.tmp a2)= .int .i64 x:=by
  obtain⟨v,e,hh⟩:=c2.get? (i:=a2) (t:= .one (.int .i64) x) (by simp[Env.get])
  exact e.trans (holds_int.1 hh).1
 have hst:St F M w (L++[]):=by rw[List.append_nil];exact c.st
 obtain⟨F',hb,hsz,st',back⟩:=hst.part
 obtain⟨fn,tmps,assign,body,hyl,hrd⟩:=hR (holds_int.1 hvx).2 F' w (by rw[hb];exact c.st.elder) (by rw[hb];exact st') hsz
 refine wpListIn_plain rfl λK hK=>⟨λ_ _=>trivial,?_⟩
 show Oper.uponIn _ _ _ _ _ _ _ ((Oper.semAt none _ _).run P w)
 rw[Oper.semAt_none]
 have hrun:(execOp ((a.put (some a1) (.func (.yield l) #[] #[])).put (some a2) (.int .i64 x)).eval ⟨some a3,.call ⟨.value (.tmp a1),#[.tmp a2],tys⟩,t3,p3,f3,none⟩).run P w= .ok (.round l fn tmps assign body) w:=by
  simp only[execOp,resolve,ao,aG,ev3,ev4,Deferred.ofValue,invoke,List.map_toArray,List.map_cons,List.map_nil]
  exact hyl
 show Oper.uponIn _ _ _ _ _ _ _ ((execOp ((a.put (some a1) (.func (.yield l) #[] #[])).put (some a2) (.int .i64 x)).eval ⟨some a3,.call ⟨.value (.tmp a1),#[.tmp a2],tys⟩,t3,p3,f3,none⟩).run P w)
 rw[hrun]
 refine⟨λe=>by simp[Fence.wide]at e,hrd.mono ?_⟩
 have fin:∀(b:Bool) (M':Mem) (L':List Res) (w':World),St F' M' w' L'→Go F n ((a4,.one .bool (!b))::(a3,.one .bool b)::(a2,.one (.int .i64) x)::(a1,.one (.raw z) (.func (.yield l) #[] #[]))::E) L' (Q .normal)→
   wpListIn Fence.wide 0 P [(⟨some a1,.move (.tmp y),t1,p1,f1,none⟩:Oper),⟨some a2,.move (.tmp xi),t2,p2,f2,none⟩,⟨some a3,.call ⟨.value (.tmp a1),#[.tmp a2],tys⟩,t3,p3,f3,none⟩,⟨some a4,.unOp .not tb (.tmp a3),t4,p4,f4,none⟩].toArray Q [⟨some a4,.unOp .not tb (.tmp a3),t4,p4,f4,none⟩] (((a.put (some a1) (.func (.yield l) #[] #[])).put (some a2) (.int .i64 x)).put (some a3) (.bool b)) w':=λb M' L' w' h hg=>by
  obtain⟨hle,h2⟩:=back M' w' L' h
  rw[List.append_nil]at h2
  have c3:=c2.put hle h2 (Nat.le_of_ble_eq_true h3) (v:= .bool b) (t:= .one .bool b) (holds_bool.2 rfl)
  have ev5:(((a.put (some a1) (.func (.yield l) #[] #[])).put (some a2) (.int .i64 x)).put (some a3) (.bool b)).eval (.tmp a3)= .bool b:=by
   obtain⟨v,e,hh⟩:=c3.get? (i:=a3) (t:= .one .bool b) (by simp[Env.get])
   exact e.trans (holds_bool.1 hh)
  have c4:=c3.put (Mem.le.refl _) c3.st (Nat.le_of_ble_eq_true h4) (v:= .bool (!b)) (t:= .one .bool (!b)) (holds_bool.2 rfl)
  refine yI (v:= .bool (!b)) rfl ?_ (wpListIn_nil (hg M' _ _ c4))
  simp only[execOp,ev5]
  rfl
 rintro e w' (⟨rfl,M',L',hA',hs'⟩|⟨rfl,M',L',hB',hs'⟩)
 ·exact hK _ _ (fin true M' L' w' hs' (hA L' hA'))
 ·exact hK _ _ (fin false M' L' w' hs' (hB L' hB'))
end
section
variable {P:Program}{F F1:Fr}{n:Nat}{E E':Env}{L:List Res}{Q:Exit→Act→World→Prop}{c1 c2:Code}{fn:Func}
theorem IterOk.of{T:Mem→Prop}{gf:FuncId}{lb:List Value}{L0:List Res}{xs:List Int}
  (h:∀(F:Fr) (w:World) (l:Nat) (K:List Int→List Res→Prop) (B:List Res→Prop) (Lo:List Res),T F.base→(∀x rest L,rng .i64 x→K (x::rest) L→yG P F.base l x L (K rest) B)→K xs (L0++Lo)→(∀xs L L',L.Perm L'→K xs L→K xs L')→St F F.base w (L0++Lo)→Calls P gf (.func (.yield l) #[] #[]::lb).toArray w (Bn F K B)):IterOk P T gf lb L0 xs:=
 λF w l K B Lo h1 h2 h3 h4 h5 _=>h F w l K B Lo h1 h2 h3 h4 h5
theorem CC{K:List Int→List Res→Prop}{B:List Res→Prop}(hr:fn.results= #[])(h:K [] L∨B L):Go (Fr.nd F) n E L (bodyPost P fn (Bn F K B) .normal):=λM a w c=>
 ⟨c.defers,.tuple #[],by simp[results,hr,aG],⟨_,rfl⟩,M,L,h,c.st.un⟩
theorem Fa{K:List Int→List Res→Prop}{B:List Res→Prop}(hr:fn.results= #[])(h:K [] L∨B L):Go (Fr.nd F) n E L (bodyPost P fn (Bn F K B) .ret):=CC hr h
def CD(F:Fr)(n:Nat){σ γ ρ:Type}(E':σ→γ→Env)(L':Nat→σ→γ→List Res)(k:σ→Option ρ)(r:ρ)(a:Act)(w:World):Prop:=∃D s g,k s=some r∧Ho (F.df (mark D)) n (E' s g) (L' D s g) a w
theorem yJ{σ γ ρ:Type}(E':σ→γ→Env)(L':Nat→σ→γ→List Res)(k:σ→Option ρ)(r:ρ)(h1:Go F n E L (c1.wp P (Exit.then (CD F n E' L' k r) Q)))(h2:∀D s g,k s=some r→Go (F.df (mark D)) n (E' s g) (L' D s g) (c2.wp P Q)):
  Go F n E L ((Code.seq c1 c2).wp P Q):=by
 intro M a w c
 refine wp_seq (wp_mono (h1 M a w c) ?_)
 intro e a w q
 cases e with
 |normal=>
  obtain⟨D,s,g,hk,M',c'⟩:=q
  exact h2 D s g hk M' a w c'
 |_=>exact q
theorem vc{σ γ ρ:Type}{E':σ→γ→Env}{L':Nat→σ→γ→List Res}{k:σ→Option ρ}{r:ρ}{D:Nat}(s:σ)(g:γ)(hk:k s=some r)(hE:E=E' s g)(hL:L=L' D s g):Go (F.df (mark D)) n E L (CD F n E' L' k r):=λM a w c=>⟨D,s,g,hk,M,by subst hE;subst hL;exact c⟩
theorem Ep{L2:List Res}{X:Act→World→Prop}(h:L=L2)(g:Go F n E L2 X):Go F n E L X:=by subst h;exact g
end
def Res.seqv(g:FuncId)(t:TypeId)(v p:Value):Res:=Res.ex λ(b:Nat)=>Res.all [Res.fact (v= .func (.func g) #[] #[adr b]),Res.var b t (.raw NV) p]
theorem Res.seqv_of{g:FuncId}{t:TypeId}{p:Value}{F:Fr}{n:Nat}{E:Env}{L:List Res}{X:Act→World→Prop}{b:Nat}(h:Go F n E (Res.seqv g t (.func (.func g) #[] #[adr b]) p::L) X):Go F n E (Res.var b t (.raw NV) p::L) X:=
 oZ (p:=Value.func (.func g) #[] #[adr b]= .func (.func g) #[] #[adr b]) rfl (Eg (L1:=[Res.fact _,Res.var b t (.raw NV) p]) (Hq (f:=λ(b':Nat)=>Res.all [Res.fact (Value.func (.func g) #[] #[adr b]= .func (.func g) #[] #[adr b']),Res.var b' t (.raw NV) p]) b h))
section
variable {P:Program}{F:Fr}{n:Nat}{E:Env}{L:List Res}{ops:Array Oper}{Q:Exit→Act→World→Prop}{rest:List Oper}
theorem AH{R:World→World→Prop}{x:Operand}{a:Nat}{k:FuncId}(hx:ev E x=some (ptr a 0)):Yields R P F n E L (.makeFunc (.func k) #[] #[x]) (.one (.raw .nilFunc) (.func (.func k) #[] #[adr a])):=λo ho M s w c=>by
 refine⟨_,holds_raw.2 ⟨rfl,rfl⟩,λw' _=>?_⟩
 have h1:=(holds_raw.1 (aJ c hx)).1
 obtain⟨dst,op,ty,pos,after,guard⟩:=o
 simp only at ho;subst ho
 refine bz ?_
 simp[h1]
 rfl
theorem w8{k g:FuncId}{t:TypeId}{p:Value}(hc:Fn P k [.one (.raw NV) p] [] (λv=> .one (.raw .nilFunc) v) (λv=>[Res.seqv g t v p]))(hk:dQ P k=true){xs:List Operand}{tys:Array TypeId}{d:Nat}{ty:TypeId}{pos:String}{after:Array Edge}
  (hx:evs E xs=some [.one (.raw NV) p]) (hd:Nat.ble (d+1) n=true) (h:∀b,Go F n ((d,.one (.raw .nilFunc) (.func (.func g) #[] #[adr b]))::E) (Res.var b t (.raw NV) p::L) (wpList P ops Q rest)):
  Go F n E L (wpList P ops Q (⟨some d,.call ⟨.value (.func k),xs.toArray,tys⟩,ty,pos,after,none⟩::rest)):=
 gp (Lo:=L) hc hk (List.Perm.refl _) hx hd λv=>fK λb=>ez (da λe=>by subst e;exact h b)
end
class BlindC(Q:Exit→Act→World→Prop):Prop where
 h:iR Q
section
variable {P:Program}{Q:Exit→Act→World→Prop}{fn:Func}{R:Ending→World→Prop}{K:Act→World→Prop}{ops:Array Oper}
instance :BlindC (bodyPost P fn R):=⟨A3⟩
instance :BlindC (qx P fn R):=⟨zP⟩
instance [b:BlindC Q]:BlindC (Exit.then K Q):=⟨A4 b.h⟩
instance {id:Nat}[b:BlindC Q]:BlindC (Exit.inBlock id Q):=⟨zC b.h⟩
instance [b:BlindC Q]:BlindC (Exit.noGoto Q):=⟨zQ b.h⟩
instance {md:Region.Mode}{m:Nat}{listed:Array Bool}[b:BlindC Q]:BlindC (u7 P md ops Q m listed):=⟨Bi b.h⟩
end
@[reducible] def flt(n:Nat)(ops:Array Oper)(listed:Array Bool)(i d:Nat):Bool:=Nat.ble (d+1) n&&(Region.noSelect ops&&((Region.ready .any ops listed).contains i&&Region.free .any ops listed i))
theorem kO{n:Nat}{ops:Array Oper}{listed:Array Bool}{i d:Nat}(h:flt n ops listed i d=true):Nat.ble (d+1) n=true∧Region.noSelect ops=true∧(Region.ready .any ops listed).contains i=true∧Region.free .any ops listed i=true:=by
 rw[flt,Bool.and_eq_true,Bool.and_eq_true,Bool.and_eq_true]at h
 exact h
@[reducible] def DH(n:Nat)(ops:Array Oper)(listed:Array Bool)(i d j dj:Nat):Bool:=flt n ops listed i d&&((ops[j]?).bind (·.dst)==some dj)
theorem ru{n:Nat}{ops:Array Oper}{listed:Array Bool}{i d j dj:Nat}(h:DH n ops listed i d j dj=true):flt n ops listed i d=true∧(ops[j]?).bind (·.dst)=some dj:=by
 rw[DH,Bool.and_eq_true,beq_iff_eq]at h
 exact h
section
variable {P:Program}{F:Fr}{n:Nat}{E:Env}{L:List Res}{ops:Array Oper}{Q:Exit→Act→World→Prop}{S:World→Prop}{fuel:Nat}{op:Op}{d:Nat}{ty:TypeId}{pos:String}{after:Array Edge}{listed:Array Bool}
theorem ga[b:BlindC Q](i:Nat)(t:TV)(hi:ops[i]? =some ⟨some d,op,ty,pos,after,none⟩)(hc:flt n ops listed i d=true)(h:Yields (λ_ _=>True) P F n E L op t)
  (g:Go F n ((d,t)::E) L (wpAny P .any ops Q fuel (listed.setIfInBounds i true))):Go F n E L (wpAny P .any ops Q (fuel+1) listed):=
 Af b.h hi (kO hc).2.1 (kO hc).2.2.1 (kO hc).2.2.2 h (kO hc).1 g
theorem bl[b:BlindC Q](i:Nat)(t:TV)(hS:∀M w,St F M w L→S w)(hi:ops[i]? =some ⟨some d,op,ty,pos,after,none⟩)(hc:flt n ops listed i d=true)(h:Yields (λ_ w'=>S w') P F n E L op t)
  (g:(∀M w,St F M w L→S w)→Go F n ((d,t)::E) L (wpAnyH P .any ops Q S fuel (listed.setIfInBounds i true))):Go F n E L (wpAnyH P .any ops Q S (fuel+1) listed):=
 Cp b.h hi (kO hc).2.1 (kO hc).2.2.1 (kO hc).2.2.2 hS h (kO hc).1 (g hS)
theorem dX[b:BlindC Q]{j:Nat}{want:Bool}(i dj:Nat)(t:TV)(hS:∀M w,St F M w L→S w)(hi:ops[i]? =some ⟨some d,op,ty,pos,after,some (j,want)⟩)(hc:DH n ops listed i d j dj=true)(hE:E.get dj=some (.one .bool want))(h:Yields (λ_ w'=>S w') P F n E L op t)
  (g:(∀M w,St F M w L→S w)→Go F n ((d,t)::E) L (wpAnyH P .any ops Q S fuel (listed.setIfInBounds i true))):Go F n E L (wpAnyH P .any ops Q S (fuel+1) listed):=
 wu b.h hi (kO (ru hc).1).2.1 (kO (ru hc).1).2.2.1 (kO (ru hc).1).2.2.2 hS (ru hc).2 hE h (kO (ru hc).1).1 (g hS)
end
theorem hkp{P:Program}{Tb:Tab}(hT:Tb.chk P=true){F:Fr}{n:Nat}{E:Env}{L:List Res}{ops:Array Oper}{Q:Exit→Act→World→Prop}{S:World→Prop}{fuel:Nat}{op:Op}{d:Nat}{ty:TypeId}{pos:String}{after:Array Edge}{listed:Array Bool}[b:BlindC Q](i:Nat)(t:TV)(hS:∀M w,St F M w L→S w)(hi:ops[i]? =some ⟨some d,op,ty,pos,after,none⟩)(hc:flt n ops listed i d=true)(h:pv Tb E op=some t)
  (g:(∀M w,St F M w L→S w)→Go F n ((d,t)::E) L (wpAnyH P .any ops Q S fuel (listed.setIfInBounds i true))):Go F n E L (wpAnyH P .any ops Q S (fuel+1) listed):=bl i t hS hi hc (fY hT h) g
section
variable {P:Program}{F:Fr}{n:Nat}{E:Env}{L:List Res}{ops:Array Oper}{Q:Exit→Act→World→Prop}{c1 c2:Code}
theorem aM{l:List Oper}(k:Nat)(E':Env)(L':List Res)(h1:Go F n E L (wpList P ops (Exit.then (xu F n (λ(_:Unit)=>E') (λ_=>L')) Q) (l.take k)))(h2:Go F n E' L' (wpList P ops Q (l.drop k))):Go F n E L (wpList P ops Q l):=
 Dd k _ _ h1 λ_=>h2
theorem bQ{σ ρ:Type}{v:σ→Option ρ}{body:(σ→Option ρ)→Option ρ}{r:ρ}{l:List Oper}(h:bnd v body=some r)(k:Nat)(E':σ→Env)(L':σ→List Res)(h1:∀kf,body kf=some r→Go F n E L (wpList P ops (Exit.then (qt F n (λs (_:Unit)=>E' s) (λs _=>L' s) kf r) Q) (l.take k)))
  (h2:∀s,v s=some r→Go F n (E' s) (L' s) (wpList P ops Q (l.drop k))):Go F n E L (wpList P ops Q l):=by
 obtain⟨kf,hk,h⟩:=al h
 exact BX k _ _ kf r (h1 kf h) λs _ hs=>h2 s (by rw[←hk]at hs;exact hs)
theorem bv{σ ρ:Type}{v:σ→Option ρ}{body:(σ→Option ρ)→Option ρ}{r:ρ}(h:bnd v body=some r)(E':σ→Env)(L':σ→List Res)(h1:∀k,body k=some r→Go F n E L (c1.wp P (Exit.then (qt F n (λs (_:Unit)=>E' s) (λs _=>L' s) k r) Q)))(h2:∀s,v s=some r→Go F n (E' s) (L' s) (c2.wp P Q)):
  Go F n E L ((Code.seq c1 c2).wp P Q):=jK h _ _ h1 λs _ hs=>h2 s hs
theorem af{fuel:Nat}{o:Oper}{listed:Array Bool}(i:Nat)(hr:Region.ready .any ops listed=[i])(hi:ops[i]? =some o)(g:Go F n E L (wpList P ops (Exit.then (wpAny P .any ops Q fuel (listed.setIfInBounds i true)) Q) [o])):
  Go F n E L (wpAny P .any ops Q (fuel+1) listed):=Gu hr hi g
theorem az{S:World→Prop}{fuel:Nat}{o:Oper}{listed:Array Bool}(i:Nat)(hr:Region.ready .any ops listed=[i])(hi:ops[i]? =some o)(g:Go F n E L (wpList P ops (Exit.then (λa w=>S w∧wpAnyH P .any ops Q S fuel (listed.setIfInBounds i true) a w) Q) [o])):
  Go F n E L (wpAnyH P .any ops Q S (fuel+1) listed):=Gz hr hi g
theorem ifF{ρ:Type}{r:ρ}{A B:Option ρ}(h:(if false=true then A else B)=some r):B=some r:=by
 rw[if_neg (by decide)]at h;exact h
theorem ifT{ρ:Type}{r:ρ}{A B:Option ρ}(h:(if true=true then A else B)=some r):A=some r:=by
 rw[if_pos rfl]at h;exact h
end
@[reducible] def f0{a b:T}:Pth (.pair a b) a:= .fst .here
@[reducible] def f1{a b x0:T}:Pth (.pair x0 (.pair a b)) a:= .snd (.fst .here)
@[reducible] def f2{a b x0 x1:T}:Pth (.pair x0 (.pair x1 (.pair a b))) a:= .snd (.snd (.fst .here))
@[reducible] def f3{a b x0 x1 x2:T}:Pth (.pair x0 (.pair x1 (.pair x2 (.pair a b)))) a:= .snd (.snd (.snd (.fst .here)))
@[reducible] def f4{a b x0 x1 x2 x3:T}:Pth (.pair x0 (.pair x1 (.pair x2 (.pair x3 (.pair a b))))) a:= .snd (.snd (.snd (.snd (.fst .here))))
@[reducible] def f5{a b x0 x1 x2 x3 x4:T}:Pth (.pair x0 (.pair x1 (.pair x2 (.pair x3 (.pair x4 (.pair a b)))))) a:= .snd (.snd (.snd (.snd (.snd (.fst .here)))))
@[reducible] def f6{a b x0 x1 x2 x3 x4 x5:T}:Pth (.pair x0 (.pair x1 (.pair x2 (.pair x3 (.pair x4 (.pair x5 (.pair a b))))))) a:= .snd (.snd (.snd (.snd (.snd (.snd (.fst .here))))))
@[reducible] def f7{a b x0 x1 x2 x3 x4 x5 x6:T}:Pth (.pair x0 (.pair x1 (.pair x2 (.pair x3 (.pair x4 (.pair x5 (.pair x6 (.pair a b)))))))) a:= .snd (.snd (.snd (.snd (.snd (.snd (.snd (.fst .here)))))))
@[reducible] def f8{a b x0 x1 x2 x3 x4 x5 x6 x7:T}:Pth (.pair x0 (.pair x1 (.pair x2 (.pair x3 (.pair x4 (.pair x5 (.pair x6 (.pair x7 (.pair a b))))))))) a:= .snd (.snd (.snd (.snd (.snd (.snd (.snd (.snd (.fst .here))))))))
@[reducible] def f9{a b x0 x1 x2 x3 x4 x5 x6 x7 x8:T}:Pth (.pair x0 (.pair x1 (.pair x2 (.pair x3 (.pair x4 (.pair x5 (.pair x6 (.pair x7 (.pair x8 (.pair a b)))))))))) a:= .snd (.snd (.snd (.snd (.snd (.snd (.snd (.snd (.snd (.fst .here)))))))))
@[reducible] def f10{a b x0 x1 x2 x3 x4 x5 x6 x7 x8 x9:T}:Pth (.pair x0 (.pair x1 (.pair x2 (.pair x3 (.pair x4 (.pair x5 (.pair x6 (.pair x7 (.pair x8 (.pair x9 (.pair a b))))))))))) a:= .snd (.snd (.snd (.snd (.snd (.snd (.snd (.snd (.snd (.snd (.fst .here))))))))))
@[reducible] def f11{a b x0 x1 x2 x3 x4 x5 x6 x7 x8 x9 x10:T}:Pth (.pair x0 (.pair x1 (.pair x2 (.pair x3 (.pair x4 (.pair x5 (.pair x6 (.pair x7 (.pair x8 (.pair x9 (.pair x10 (.pair a b)))))))))))) a:= .snd (.snd (.snd (.snd (.snd (.snd (.snd (.snd (.snd (.snd (.snd (.fst .here)))))))))))
@[reducible] def f12{a b x0 x1 x2 x3 x4 x5 x6 x7 x8 x9 x10 x11:T}:Pth (.pair x0 (.pair x1 (.pair x2 (.pair x3 (.pair x4 (.pair x5 (.pair x6 (.pair x7 (.pair x8 (.pair x9 (.pair x10 (.pair x11 (.pair a b))))))))))))) a:= .snd (.snd (.snd (.snd (.snd (.snd (.snd (.snd (.snd (.snd (.snd (.snd (.fst .here))))))))))))
@[reducible] def f13{a b x0 x1 x2 x3 x4 x5 x6 x7 x8 x9 x10 x11 x12:T}:Pth (.pair x0 (.pair x1 (.pair x2 (.pair x3 (.pair x4 (.pair x5 (.pair x6 (.pair x7 (.pair x8 (.pair x9 (.pair x10 (.pair x11 (.pair x12 (.pair a b)))))))))))))) a:= .snd (.snd (.snd (.snd (.snd (.snd (.snd (.snd (.snd (.snd (.snd (.snd (.snd (.fst .here)))))))))))))
@[reducible] def f14{a b x0 x1 x2 x3 x4 x5 x6 x7 x8 x9 x10 x11 x12 x13:T}:Pth (.pair x0 (.pair x1 (.pair x2 (.pair x3 (.pair x4 (.pair x5 (.pair x6 (.pair x7 (.pair x8 (.pair x9 (.pair x10 (.pair x11 (.pair x12 (.pair x13 (.pair a b))))))))))))))) a:= .snd (.snd (.snd (.snd (.snd (.snd (.snd (.snd (.snd (.snd (.snd (.snd (.snd (.snd (.fst .here))))))))))))))
@[reducible] def f15{a b x0 x1 x2 x3 x4 x5 x6 x7 x8 x9 x10 x11 x12 x13 x14:T}:Pth (.pair x0 (.pair x1 (.pair x2 (.pair x3 (.pair x4 (.pair x5 (.pair x6 (.pair x7 (.pair x8 (.pair x9 (.pair x10 (.pair x11 (.pair x12 (.pair x13 (.pair x14 (.pair a b)))))))))))))))) a:= .snd (.snd (.snd (.snd (.snd (.snd (.snd (.snd (.snd (.snd (.snd (.snd (.snd (.snd (.snd (.fst .here)))))))))))))))
@[reducible] def f16{a b x0 x1 x2 x3 x4 x5 x6 x7 x8 x9 x10 x11 x12 x13 x14 x15:T}:Pth (.pair x0 (.pair x1 (.pair x2 (.pair x3 (.pair x4 (.pair x5 (.pair x6 (.pair x7 (.pair x8 (.pair x9 (.pair x10 (.pair x11 (.pair x12 (.pair x13 (.pair x14 (.pair x15 (.pair a b))))))))))))))))) a:= .snd (.snd (.snd (.snd (.snd (.snd (.snd (.snd (.snd (.snd (.snd (.snd (.snd (.snd (.snd (.snd (.fst .here))))))))))))))))
@[reducible] def f17{a b x0 x1 x2 x3 x4 x5 x6 x7 x8 x9 x10 x11 x12 x13 x14 x15 x16:T}:Pth (.pair x0 (.pair x1 (.pair x2 (.pair x3 (.pair x4 (.pair x5 (.pair x6 (.pair x7 (.pair x8 (.pair x9 (.pair x10 (.pair x11 (.pair x12 (.pair x13 (.pair x14 (.pair x15 (.pair x16 (.pair a b)))))))))))))))))) a:= .snd (.snd (.snd (.snd (.snd (.snd (.snd (.snd (.snd (.snd (.snd (.snd (.snd (.snd (.snd (.snd (.snd (.fst .here)))))))))))))))))
theorem bc{P:Program}{F:Fr}{n:Nat}{E:Env}{L:List Res}{fn:Func}{r:ResultVar}{u:T}{x:u.D}{L':List Res}(hr:fn.results= #[r])(h:RetV P E L r u x)(hL:L'.Sublist L):
  Go (Fr.nd F) n E L (bodyPost P fn (mg F (λ_=> .one u x) (λ_=>L')) .ret):=aS hr h (λ_ _ g=>g) (λ_ _ _=>hL)
theorem ax{P:Program}{F:Fr}{n:Nat}{E:Env}{L:List Res}{fn:Func}{r:ResultVar}{u:T}{x:u.D}(hr:fn.results= #[r])(h:RetV P E L r u x):
  Go (Fr.nd F) n E L (bodyPost P fn (mg F (λ_=> .one u x) (λ_=>[])) .ret):=aS hr h (λ_ _ g=>g) (λ_ _ _=>List.nil_sublist _)
theorem tr:True:=trivial
theorem kr{p:Prop}(h:p:=by kernel_rfl):p:=h
theorem dl{p:Prop}(h:p:=by rfl):p:=h
theorem pof{p:Prop}(h:p:=by first|rfl|(simp only[Pth.off,T.size];omega)):p:=h
theorem pix{p:Prop}(h:p:=by first|omega|(simp only[List.length_set]at*;omega)):p:=h
section
variable {P:Program}{Tb:Tab}{F:Fr}{n:Nat}{E E':Env}{L:List Res}{ops:Array Oper}{Q:Exit→Act→World→Prop}
theorem GD(hT:Tb.chk P=true){l:List Oper}(k:Nat)(h:dZ Tb n ops (l.take k) E=some E')(g:Go F n E' L (wpList P ops Q (l.drop k))):Go F n E L (wpList P ops Q l):=λM a w c=>by
 rw[←List.take_append_drop k l]
 exact lC hT h c λa' c'=>g M a' w c'
theorem yK(hT:Tb.chk P=true){l:List Oper}(h:dZ Tb n ops l E=some E')(g:Go F n E' L (wpList P ops Q [])):Go F n E L (wpList P ops Q l):=λM a w c=>by
 have:=lC (rest:=[]) hT h c λa' c'=>g M a' w c'
 rwa [List.append_nil]at this
theorem ai{σ γ ρ:Type}(s:σ)(g:γ){E':σ→γ→Env}{L':σ→γ→List Res}{k:σ→Option ρ}{r:ρ}(hk:k s=some r)(hE:ly E ((E' s g).map (·.1))=some (E' s g))(hL:L=L' s g):Go F n E L (qt F n E' L' k r):=ah _ hE (EG s g hk rfl hL)
theorem ap{γ:Type}(g:γ){E':γ→Env}{L':γ→List Res}(hE:ly E ((E' g).map (·.1))=some (E' g))(hL:L=L' g):Go F n E L (xu F n E' L'):=ah _ hE (EE g rfl hL)
theorem aX{σ γ ρ:Type}{S:σ→γ→Env}{R:σ→γ→List Res}{f:Nat→σ→Option ρ}{out:ρ}{m m':Nat}(s:σ)(g:γ)(hlt:m'<m)(hf:f m' s=some out)(hE:ly E ((S s g).map (·.1))=some (S s g))(hL:L=R s g):
  Go F n E L (xw F n S R f out m):=ah _ hE (EI s g hlt hf rfl hL)
theorem bg{c1:Code}{σ γ ρ:Type}(S:σ→γ→Env)(R:σ→γ→List Res)(f:Nat→σ→Option ρ){out:ρ}{m:Nat}(s:σ)(g:γ)(hf:f m s=some out)(hE:ly E ((S s g).map (·.1))=some (S s g))(hL:L=R s g)
  (round:∀m s g,f m s=some out→Go F n (S s g) (R s g) (c1.wp P (Exit.then (xw F n S R f out m) Q))):Go F n E L ((Code.loop c1).wp P Q):=ah _ hE (EH S R f s g hf rfl hL round)
@[reducible] def ke(T:Tab)(n:Nat)(ops:Array Oper):List Nat→Env→Option Env
  |[],E=>some E
  |i::is,E=>match ops[i]? with
   |some o=>match o.dst with
    |some d=>match o.guard with
     |none=>(match pv T E o.op with|some t=>ke T n ops is ((d,t)::E)|none=>none)
     |some (j,want)=>(match(ops[j]?).bind (·.dst)with
      |some dj=>(match E.get dj with
       |some (.one .bool b)=>(match b,want with
        |true,true|false,false=>(match pv T E o.op with|some t=>ke T n ops is ((d,t)::E)|none=>none)
        |_,_=>ke T n ops is ((d,.tup [])::E))
       |some (.tup [])=>ke T n ops is ((d,.tup [])::E)
       |_=>none)
      |none=>none)
    |none=>none
   |none=>none
@[reducible] def rv:List Nat→Array Bool→Array Bool
  |[],l=>l
  |i::is,l=>rv is (l.setIfInBounds i true)
@[reducible] def pa(n:Nat)(ops:Array Oper):List Nat→Array Bool→Bool
  |[],_=>true
  |i::is,l=>match ops[i]? with
   |some o=>match o.dst with
    |some d=>flt n ops l i d&&pa n ops is (l.setIfInBounds i true)
    |none=>false
   |none=>false
end
section
variable {P:Program}{Tb:Tab}{F:Fr}{n:Nat}{L:List Res}{ops:Array Oper}{Q:Exit→Act→World→Prop}{S:World→Prop}
theorem Eq{fuel i j dj d:Nat}{E:Env}{want:Bool}{op:Op}{ty:TypeId}{pos:String}{after:Array Edge}{listed:Array Bool}(hQ:iR Q)(hi:ops[i]? =some ⟨some d,op,ty,pos,after,some (j,want)⟩)(hs:Region.noSelect ops=true)
  (hr:(Region.ready .any ops listed).contains i=true) (hf:Region.free .any ops listed i=true) (hd:(ops[j]?).bind (·.dst)=some dj) (hE:E.get dj=some (.one .bool (!want))∨E.get dj=some (.tup [])) (hn:Nat.ble (d+1) n=true)
  (g:Go F n ((d,.tup [])::E) L (wpAny P .any ops Q fuel (listed.setIfInBounds i true))):Go F n E L (wpAny P .any ops Q (fuel+1) listed):=λM a w c=>by
 have hw:Region.wanted (⟨some d,op,ty,pos,after,some (j,want)⟩:Oper) (yielded ops a.tmps)=false:=by
  rcases hE with hE|hE
  ·rw[ky (o:=⟨some d,op,ty,pos,after,some (j,want)⟩) (ops:=ops) c rfl hd hE];cases want<;>rfl
  ·exact nu (o:=⟨some d,op,ty,pos,after,some (j,want)⟩) (ops:=ops) c rfl hd hE
 refine qH (oi:=⟨some d,op,ty,pos,after,some (j,want)⟩) (v:=undef) hQ hi (Region.noSelect_spec hs) fuel listed a w (Region.free_spec hi hf) (by simpa using hr) (.inr ⟨hw,rfl⟩) ?_
 exact g M _ w (c.put (Mem.le.refl _) c.st (Nat.le_of_ble_eq_true hn) ⟨[],rfl,.nil⟩)
theorem Er{fuel i j dj d:Nat}{E:Env}{want:Bool}{op:Op}{ty:TypeId}{pos:String}{after:Array Edge}{listed:Array Bool}{t:TV}(hQ:iR Q)(hi:ops[i]? =some ⟨some d,op,ty,pos,after,some (j,want)⟩)(hs:Region.noSelect ops=true)
  (hr:(Region.ready .any ops listed).contains i=true) (hf:Region.free .any ops listed i=true) (hdj:(ops[j]?).bind (·.dst)=some dj) (hE:E.get dj=some (.one .bool want)) (h:Yields (λ_ _=>True) P F n E L op t) (hd:Nat.ble (d+1) n=true)
  (g:Go F n ((d,t)::E) L (wpAny P .any ops Q fuel (listed.setIfInBounds i true))):Go F n E L (wpAny P .any ops Q (fuel+1) listed):=λM a w c=>by
 obtain⟨v,hv,hrun⟩:=h ⟨some d,op,ty,pos,after,some (j,want)⟩ rfl M a w c
 have hw:Region.wanted (⟨some d,op,ty,pos,after,some (j,want)⟩:Oper) (yielded ops a.tmps)=true:=by
  rw[ky (o:=⟨some d,op,ty,pos,after,some (j,want)⟩) (ops:=ops) c rfl hdj hE];cases want<;>rfl
 refine qH (oi:=⟨some d,op,ty,pos,after,some (j,want)⟩) (v:=v) hQ hi (Region.noSelect_spec hs) fuel listed a w (Region.free_spec hi hf) (by simpa using hr) (.inl ⟨hw,λw'=>hrun w' trivial⟩) ?_
 exact g M _ w (c.put (Mem.le.refl _) c.st (Nat.le_of_ble_eq_true hd) hv)
theorem ry[b:BlindC Q](hT:Tb.chk P=true):∀{is:List Nat} {k:Nat} {E E':Env} {fuel:Nat} {listed:Array Bool},pa n ops is listed=true→ke Tb n ops is E=some E'→is.length=k→
  Go F n E' L (wpAny P .any ops Q fuel (rv is listed))→Go F n E L (wpAny P .any ops Q (fuel+k) listed)
 |[],_,E,E',fuel,listed,_,h,hk,g=>by simp only[ke,Option.some.injEq]at h;subst h;subst hk;exact g
 |i::is,k,E,E',fuel,listed,hc,h,hk,g=>by
  subst hk
  simp only[ke,pa]at h hc
  split at h
  ·rename_i o hi
   split at h
   ·rename_i d hd
    simp only[hi,hd,Bool.and_eq_true]at hc
    obtain⟨hc1,hc2⟩:=hc
    have hf:=hc1
    obtain⟨dst,op,ty,pos,after,gd⟩:=o
    simp only at hd h
    subst hd
    split at h
    ·split at h
     ·rename_i t ht
      exact Af b.h hi hf.2.1 hf.2.2.1 hf.2.2.2 (fY hT ht) hf.1 (ry hT hc2 h rfl g)
     ·cases h
    ·rename_i j want
     split at h
     ·rename_i dj hdj
      split at h
      ·rename_i b hb
       split at h
       ·split at h
        ·rename_i t ht
         exact Er b.h hi hf.2.1 hf.2.2.1 hf.2.2.2 hdj hb (fY hT ht) hf.1 (ry hT hc2 h rfl g)
        ·cases h
       ·split at h
        ·rename_i t ht
         exact Er b.h hi hf.2.1 hf.2.2.1 hf.2.2.2 hdj hb (fY hT ht) hf.1 (ry hT hc2 h rfl g)
        ·cases h
       ·rename_i h1 h2
        have:b= !want:=by
         cases b<;>cases want<;>first|rfl|exact absurd rfl (h1 rfl)|exact absurd rfl (h2 rfl)|simp_all
        subst this
        exact Eq b.h hi hf.2.1 hf.2.2.1 hf.2.2.2 hdj (.inl hb) hf.1 (ry hT hc2 h rfl g)
      ·rename_i hb
       exact Eq b.h hi hf.2.1 hf.2.2.1 hf.2.2.2 hdj (.inr hb) hf.1 (ry hT hc2 h rfl g)
      ·cases h
     ·cases h
   ·cases h
  ·cases h
theorem rz[b:BlindC Q](hT:Tb.chk P=true)(hS:∀M w,St F M w L→S w):∀{is:List Nat} {k:Nat} {E E':Env} {fuel:Nat} {listed:Array Bool},pa n ops is listed=true→ke Tb n ops is E=some E'→is.length=k→
  Go F n E' L (wpAnyH P .any ops Q S fuel (rv is listed))→Go F n E L (wpAnyH P .any ops Q S (fuel+k) listed)
 |[],_,E,E',fuel,listed,_,h,hk,g=>by simp only[ke,Option.some.injEq]at h;subst h;subst hk;exact g
 |i::is,k,E,E',fuel,listed,hc,h,hk,g=>by
  subst hk
  simp only[ke,pa]at h hc
  split at h
  ·rename_i o hi
   split at h
   ·rename_i d hd
    simp only[hi,hd,Bool.and_eq_true]at hc
    obtain⟨hc1,hc2⟩:=hc
    have hf:=hc1
    obtain⟨dst,op,ty,pos,after,gd⟩:=o
    simp only at hd h
    subst hd
    split at h
    ·split at h
     ·rename_i t ht
      exact Cp b.h hi hf.2.1 hf.2.2.1 hf.2.2.2 hS (fY hT ht) hf.1 (rz hT hS hc2 h rfl g)
     ·cases h
    ·rename_i j want
     split at h
     ·rename_i dj hdj
      split at h
      ·rename_i b hb
       split at h
       ·split at h
        ·rename_i t ht
         exact wu b.h hi hf.2.1 hf.2.2.1 hf.2.2.2 hS hdj hb (fY hT ht) hf.1 (rz hT hS hc2 h rfl g)
        ·cases h
       ·split at h
        ·rename_i t ht
         exact wu b.h hi hf.2.1 hf.2.2.1 hf.2.2.2 hS hdj hb (fY hT ht) hf.1 (rz hT hS hc2 h rfl g)
        ·cases h
       ·rename_i h1 h2
        have:b= !want:=by
         cases b<;>cases want<;>first|rfl|exact absurd rfl (h1 rfl)|exact absurd rfl (h2 rfl)|simp_all
        subst this
        exact AE b.h hi hf.2.1 hf.2.2.1 hf.2.2.2 hS hdj (.inl hb) hf.1 (rz hT hS hc2 h rfl g)
      ·rename_i hb
       exact AE b.h hi hf.2.1 hf.2.2.1 hf.2.2.2 hS hdj (.inr hb) hf.1 (rz hT hS hc2 h rfl g)
      ·cases h
     ·cases h
   ·cases h
  ·cases h
theorem Fb[b:BlindC Q](hT:Tb.chk P=true)(is:List Nat){k:Nat}{E E':Env}{fuel:Nat}{listed:Array Bool}(hS:∀M w,St F M w L→S w)(hc:pa n ops is listed=true)(h:ke Tb n ops is E=some E')(hk:is.length=k)
  (g:(∀M w,St F M w L→S w)→Go F n E' L (wpAnyH P .any ops Q S fuel (rv is listed))):Go F n E L (wpAnyH P .any ops Q S (fuel+k) listed):=rz hT hS hc h hk (g hS)
end
def cel(v:Value)(i:Nat):Value:=(v.cells.toList.drop i).headD undef
theorem jA{t:T}{z:Value}{M:Mem}{v:Value}{x:t.D}(p:Pth t (.raw z))(hok:p.ok)(h:Holds t M v x):cel v p.off=p.get x:=by
 have:=Rep.get p hok h.cells
 simp only[Rep,T.size]at this
 have h1:=this.1
 unfold cel
 cases hd:List.drop p.off v.cells.toList with
 |nil=>rw[hd]at h1;simp at h1
 |cons a l=>rw[hd]at h1;simp at h1;simpa using h1
def Res.pin(b off cap:Nat)(t:T)(xs:List t.D):Res where
 sat M S _:=(xs.length≤most∧xs.length≤cap∧∃c el fr,M b=some (.cells c el fr)∧off+xs.length*t.size≤c.size∧RepL (Rep t M) ((c.toList.drop off).take (xs.length*t.size)) xs)∧∀k,¬S k
 mono l:=λ⟨⟨h1,h2,c,el,fr,h3,h4,h5⟩,h⟩=>⟨⟨h1,h2,c,el,fr,l _ _ h3,h4,RepL.mono (λ_ _ g=>Rep.mono l g) h5⟩,h⟩
 loc _:=id
 has:=λh k hk=>absurd hk (h.2 k)
def sA(b off:Nat)(t:T)(xs:List t.D)(w:World):Prop:=∃(c:Array Value) (el:TypeId) (fr:Nat×Nat) (M:Mem),w.heap[b]? =some (.cells c el fr)∧off+xs.length*t.size≤c.size∧RepL (Rep t M) ((c.toList.drop off).take (xs.length*t.size)) xs
section
variable {P:Program}{F:Fr}{n:Nat}{E:Env}{L:List Res}{X:Act→World→Prop}{S:World→Prop}
theorem kP{b off cap:Nat}{t:T}{xs:List t.D}(i:Nat)(hi:L[i]? =some (Res.pin b off cap t xs)):∀M w,St F M w L→sA b off t xs w:=λM w st=>by
 obtain⟨_,⟨_,_,c,el,fr,h3,h4,h5⟩,_⟩:=st.res hi
 exact⟨c,el,fr,M,st.mem _ _ h3,h4,h5⟩
theorem GE{k:Nat}{e:TypeId}{t:T}{xs:List t.D}(hk:E.get k=some (.one (.sl e t) xs))(h0:0<xs.length)(g:∀b off cap,Go F n ((k,.one (.raw (.slice none 0 0)) (.slice (some ⟨b,off,none⟩) xs.length cap))::E) (Res.pin b off cap t xs::L) X):Go F n E L X:=λM a w c=>by
 obtain⟨v,hv,cs,e1,ad,cap,e2,h2,h3,h4⟩:=c.env _ _ hk
 cases ad with
 |none=>simp only at h4;omega
 |some ad=>
  obtain⟨b,off,sp⟩:=ad
  obtain⟨e3,cc,el,fr,hm,hs,hr⟩:=h4.resolve_left (by omega)
  simp only at e3;subst e3
  simp only at hm hs hr
  refine g b off cap M a w ⟨c.st.free ⟨⟨h2,h3,cc,el,fr,hm,hs,hr⟩,λ_ h=>h⟩,c.defers,c.size,λi t ht=>?_⟩
  simp only[Env.get]at ht
  split at ht
  ·rename_i hb
   obtain rfl:=Nat.eq_of_beq_eq_true hb
   cases ht
   subst e2
   refine⟨_,hv,holds_raw.2 ⟨?_,rfl⟩⟩
   rw[e1];rfl
  ·exact c.env i t ht
theorem AJ{b off cap:Nat}{z:Value}{t:T}{xs:List t.D}(e:TypeId)(k i:Nat)(hk:E.get k=some (.one (.raw z) (.slice (some ⟨b,off,none⟩) xs.length cap)))(hi:L[i]? =some (Res.pin b off cap t xs))(g:Go F n ((k,.one (.sl e t) xs)::E) L X):Go F n E L X:=λM a w c=>by
 obtain⟨_,⟨h1,h2,cc,el,fr,h3,h4,h5⟩,_⟩:=c.st.res hi
 obtain⟨v,hv,hh⟩:=c.env _ _ hk
 refine g M a w ⟨c.st,c.defers,c.size,λi t ht=>?_⟩
 simp only[Env.get]at ht
 split at ht
 ·rename_i hb
  obtain rfl:=Nat.eq_of_beq_eq_true hb
  cases ht
  refine⟨v,hv,[v],?_,some ⟨b,off,none⟩,cap,?_,h1,h2,.inr ⟨rfl,cc,el,fr,h3,h4,h5⟩⟩
  ·rw[(holds_raw.1 hh).1];rfl
  ·rw[(holds_raw.1 hh).1]
 ·exact c.env i t ht
theorem CE{x:Operand}{z:Value}{b o0 off:Nat}{t u:T}{xs:List t.D}{tid:TypeId}(hV:∀w,S w→sA b o0 t xs w)(i:Nat){cap:Nat}(j:Nat)(p:Pth t u)(hfl:u.flat=true)(hx:ev E x=some (.one (.raw z) (.pointer (some ⟨b,off,none⟩))))(hi:L[i]? =some (Res.pin b o0 cap t xs))
  (hj:j<xs.length) (hp:o0+j*t.size+p.off=off) (hok:p.ok) (ht:aW P u tid=true):Yields (λ_ w'=>S w') P F n E L (.load tid x) (.one u (p.get (xs.getD j t.zero))):=λo ho M a w c=>by
 have one:∀w',sA b o0 t xs w'→∃v,(∃M',Holds u M' v (p.get (xs.getD j t.zero)))∧(loadVar tid ⟨b,off,none⟩).run P w'= .ok v w':=by
  rintro w' ⟨cc,el,fr,M',h3,h5,h4⟩
  have hget:xs[j]? =some (xs.getD j t.zero):=by simp[List.getD,hj]
  have hrep:=RepL.get (s:=t.size) (λc x h=>Rep.size h) h4 hget
  have hm:j*t.size+t.size≤xs.length*t.size:=by rw[←Nat.succ_mul];exact Nat.mul_le_mul_right _ hj
  have hf:=p.fits hok
  have e1:(((cc.toList.drop o0).take (xs.length*t.size)).drop (j*t.size)).take t.size=(cc.toList.drop (o0+j*t.size)).take t.size:=by
   rw[List.drop_take,List.take_take,Nat.min_eq_left (by omega),List.drop_drop]
  rw[e1]at hrep
  have hr2:=Rep.get p hok hrep
  rw[gQ _ _ _ _ _ hf,hp]at hr2
  exact⟨_,⟨M',_,rfl,hr2⟩,jn (P:=P) (w:=w') ht h3 (by omega) hr2⟩
 have hw:sA b o0 t xs w:=kP i hi M w c.st
 obtain⟨v,⟨M',hv⟩,_⟩:=one w hw
 refine⟨v,hv.any hfl,λw' hs=>?_⟩
 obtain⟨v',⟨M2,hv2⟩,hrun⟩:=one w' (hV w' hs)
 obtain rfl:v'=v:=Holds.unique hfl hv2 hv
 obtain⟨dst,op,ty,pos,after,guard⟩:=o
 simp only at ho;subst ho
 have h1:=(holds_raw.1 (aJ c hx)).1
 exact bz (by rw[h1];simp only[Instr.loadAt,Instr.sureAddr,ao,aG];exact hrun)
end
end Sx
namespace Sx
open Go Go.RowKit
end Sx
namespace Sx
open Go Go.RowKit
section
variable {P:Program}{W:World}{bD:List (String×IntKind×List Int)}
theorem DJ{k:FuncId}{args:List TV}(hT:TabM P bD (jD W))(hp:FnT P bD k args [] (λ_=> .one .bool true) (λ_=>[])){vs:List Value}(hv:HoldAll (jD W) args vs):Calls P k vs.toArray W λe w'=>e= .returned (.bool true)∧Below W.heap.size W w':=by
 have:=hp {os:=W.os,tape:=W.tape,output:=W.output,mem:=jD W,base:=jD W,size:=W.heap.size} W vs hT
  {os:=rfl,tape:=rfl,output:=rfl,size:=Nat.le_refl _,elder:=Mem.le.refl _,fresh:=λk o e=> .inl e,frame:=λk o e=>e,mem:=λk o e=>e,sep:=⟨λ_=>False,λ_ h=>h,λ_ h=>h.elim⟩} rfl hv
 refine this.mono ?_
 rintro e w' ⟨v,M',rfl,st,hh⟩
 obtain rfl:=holds_bool.1 hh
 refine⟨rfl,st.os,st.tape,st.output,st.size,λk hk=>?_⟩
 have:jD W k=some W.heap[k]:=by simp[jD,hk]
 rw[st.frame k _ this];simp[hk]
theorem Fd(hsh:W.ShapedOpen P)(hbig:P.globals.size<(begin P (λ_ _=>0) default).world.heap.size)(ht:∀x∈bD,Lib.TabIs P W x.1 x.2.1 x.2.2):TabM P bD (jD W):=by
 have h1:(begin P (λ_ _=>0) default).world.heap.size≤W.heap.size:=by
  obtain⟨_,h2⟩:=hsh
  obtain⟨o,_,ho,_⟩:=h2 ((begin P (λ_ _=>0) default).world.heap.size - 1) (by omega) (by omega)
  have:=cH ho
  omega
 exact⟨W,hsh,ht,h1,by omega,λk o h=>h⟩
end
theorem DK{C:Checked}{os:Os}{f:FuncId}{fn:Func}{s:ChangeSpec}{H:Type}{enc:TypeId×Value→H}{F:Stop.Interp}(bD:List (String×IntKind×List Int))(laid:List (String×DataW Unit))(ts:List T){tids:List TypeId}{bt:TypeId}
  (own:ownKnob C.prog.godebug=none) (started:os.Started) (noInit:C.prog.inits.idxOf? f=none) (hfn:C.prog.funcs[f]? =some fn)
  (witness:∃(w:World) (tape:Tape) (i:Input),w.os=os∧(w.forCall tape i).Shaped C.prog∧i.vars=[]∧Input.okWide C.prog (w.forCall tape i) .any w.heap.size f i∧
    (OpenSpec.ofChange s).preRow enc C.prog fn [] false laid (w.forCall tape i).memory i.args∧Assume.holds {} C.prog (lone (Frame.enter C.prog f i.args .normal) [] (w.forCall tape i)))
  (hpar:fn.params=tids.toArray) (hres:fn.resultTypes= #[bt]) (hbt:C.prog.underlying bt=some .bool) (hvars:s.vars=[]) (hcc:kX C.prog ts tids=true) (hlay:laidOutB C.prog=true)
  (hspec:∀ds:List (DataW H),ds.length=tids.length→s.fn H ds={results:=[.lit (.bool true)],args:=ds})
  (hbig:Nat.blt C.prog.globals.size (begin C.prog (λ_ _=>0) default).world.heap.size=true) (htabs:∀W:World,laidMetH C.prog laid W→∀x∈bD,Lib.TabIs C.prog W x.1 x.2.1 x.2.2)
  (law:∀xs:uY ts,vH C.prog.bytesOf ts xs→FnT C.prog bD f (tvs ts xs) [] (λ_=> .one .bool true) (λ_=>[])):
  ReturnsInHanded {} C os f .any ((OpenSpec.ofChange s).preRow enc C.prog fn [] false laid) (((OpenSpec.ofChange s).at F).post enc C.prog fn false true false false):=by
 refine returnsInHanded_of_row (s:=OpenSpec.ofChange s) own started noInit hfn witness ?_
 intro W base args ds gs before hval hW _ _ hsz hL hsh _
 have hW':=hW
 obtain⟨p,q,hA,hV,rfl,hfz,hnd⟩:=hW
 rw[show(OpenSpec.ofChange s).vars=s.vars from rfl,hvars]at hV
 obtain⟨rfl,rfl⟩:=ChangeShapes.trodVars_none hV
 simp only[List.append_nil]at hW' hsz
 have hplain:(OpenSpec.ofChange s).bare.plain.varTypes C.prog=[]:=by
  show s.plain.varTypes C.prog=[]
  simp[DataSpec.varTypes,ChangeSpec.plain,hvars]
 rw[hplain,List.append_nil,hpar]at hsz
 rw[hpar]at hA
 simp only at hA hsz
 have bU:=yk hA
 have hlt:=hW'.lt
 obtain⟨xs,hh,ss,_⟩:=yj (enc:=enc) trivial ts hcc hA (λj t v hj hv=>hval j t v (by rw[hpar];simpa using hj) (by simpa using hv)) (λn hn=>by simpa using List.all_eq_true.1 hsz n hn)
 have hT:TabM C.prog bD (jD W):=Fd hsh (Nat.le_of_ble_eq_true hbig) (htabs W hL)
 have hrun:=DJ hT (law xs ss) hh
 rw[Array.toArray_toList]at hrun
 refine hrun.mono ?_
 rintro e W' ⟨rfl,hb⟩
 have hsp:=hspec ds bU
 show∃v,_∧s.post enc C.prog fn false true false false W args v W'
 refine⟨_,rfl,ds,[],p,[],p,[],hW',?_,?_,?_,World.keptBut_mono (λx hx=>⟨hx,.inr (.inl hx)⟩) (hb.frame _),λh=>by cases h⟩
 ·rw[hres]
  simp only[List.append_nil,hsp]
  exact ChangeShapes.trodAll_mk1 (shut_bool hbt _)
 ·rw[hpar]
  simp only[List.append_nil,hsp]
  exact wV hlay hb ts hcc hA hlt _ (λx hx=>by simpa using hlt x hx)
 ·rw[hvars]
  simp only[List.append_nil,hsp]
  rfl
def Es:Nat→DataW Unit→List Value
 |0,_=>[]
 |_+1,.lit (.int k z)=>[.int k z]
 |n+1,.agg l=>l.flatMap (Es n)
 |_,_=>[]
def CF(P:Program)(h:Array Obj):List (String×DataW Unit)→Array Obj
 |[]=>h
 |(nm,d)::r=>CF P (h.modify ((P.globalNamed nm).getD 0) λ| .cells _ t fz=> .cells (Es 8 d).toArray t fz|o=>o) r
noncomputable def laidW (P:Program) (os:Os) (l:List (String×DataW Unit)):World:=
 {World.holding P os ⟨#[],#[],[]⟩with heap:=CF P (World.holding P os ⟨#[],#[],[]⟩).heap l}
end Sx
