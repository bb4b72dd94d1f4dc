/-
  Own work, of several texts. Contracts of Go's library, as the kit's shelf has them, in this library's form.
-/
import Derived.Test.YtfadfecpoimkiaaGreatDoorLib1
import Derived.Lib.Repeat
import Derived.Scope
import Derived.Maps.Own
import Derived.Maps.OwnSet
import Derived.Maps.Range
import Derived.Carry
import Derived.ProofKit
import Derived.OpenShut
import Derived.SizedLaws
import Derived.RowKit3
import Derived.KernelRfl
import Derived.Lib.LaidTab
import GoSem.Claims
import Derived.ChangeAgain
import Derived.Lib.Split
import Derived.Lib.SplitLaws
import Derived.Lib.IndexMore
import Derived.Lib.ItoaNum
import Derived.Lib.Join
import Derived.Lib.AppendIntMem
import Derived.Lib.Bytealg
namespace Sx
open Go Go.RowKit
section
variable {P:Program}{F:Fr}{n:Nat}{E:Env}{L:List Res}{Q:Exit→Act→World→Prop}{c:Code}
theorem Ak(g:Go F n E L (c.wp P (Exit.noGoto Q))):Go F n E L ((Code.scope c).wp P Q):=λM a w h=>wp_scope_straight (g M a w h)
theorem Al{l:Nat}(g:Go F n E L (Q .normal)):Go F n E L ((Code.label l).wp P Q):=λM a w h=>wp_label (g M a w h)
theorem ka(g:Go F n E L (Q .ret)):Go F n E L (Exit.noGoto Q .ret):=g
end
theorem bP{z v x:Value}{M:Mem}(h:Holds (.raw z) M v x):v=x:=(holds_raw.1 h).1
theorem bf{z v x:Value}{M:Mem}(h:Holds (.raw z) M v x):Holds (.raw z) M v v:=by
 obtain⟨e,o⟩:=holds_raw.1 h
 exact holds_raw.2 ⟨rfl,by rw[e];exact o⟩
theorem xe{P:Program}{k:FuncId}{args:List TV}{res:TV}(h:∀M vs,HoldAll M args vs→∃v,(∀M,res.holds M v)∧∀w,Calls P k vs.toArray w λe w'=>e= .returned v∧Below w.heap.size w w'):bm P k args res:=by
 intro F w vs hst hsz hargs
 obtain⟨v,hv,hc⟩:=h _ _ hargs
 refine(hc w).mono ?_
 rintro e w' ⟨rfl,hb⟩
 refine⟨v,F.base,rfl,?_,hv _⟩
 refine{os:=hb.os.trans hst.os,tape:=hb.tape.trans hst.tape,output:=hb.output.trans hst.output,size:=Nat.le_trans hst.size hb.size,elder:=Mem.le.refl _,fresh:=λk o e=> .inl e,frame:= ?_,mem:= ?_,sep:=⟨λ_=>False,λ_ h=>h,λ_ h=>h.elim⟩}
 ·intro k o e
  rw[hb.block k (hst.flt e)];exact hst.frame k o e
 ·intro k o e
  rw[hb.block k (hst.lt e)];exact hst.mem k o e
def strings_Repeat(x:List Int)(c:Int):Option (List Int):=if 0≤c∧x.length*c.toNat≤140737488355328∧c≤9223372036854775807 then some (List.replicate c.toNat x).flatten else none
theorem vz(f:Int→UInt8)(x:List Int):∀c,Lib.repeatL (x.map f) c=((List.replicate c x).flatten).map f
 |0=>rfl
 |c+1=>by simp[Lib.repeatL,vz f x c,List.replicate_succ]
theorem zD{P:Program}{k:FuncId}(h:∀(s:ByteArray) (c:Nat) (w:World),c≤9223372036854775807→s.size*c≤140737488355328→Calls P k #[.string s,.int .i64 c] w λe w'=>e= .returned (.string ⟨(Lib.repeatL s.data.toList c).toArray⟩)∧Below w.heap.size w w')
  (x:List Int) (c:Int) (r:List Int) (hr:strings_Repeat x c=some r):bm P k [.one .str x,.one (.int .i64) c] (.one .str r):=by
 unfold strings_Repeat at hr
 obtain⟨⟨h0,h1,h2⟩,hr⟩:=cj hr
 obtain rfl:=Option.some.inj hr
 obtain⟨n,rfl⟩:=Int.eq_ofNat_of_zero_le h0
 rw[Int.toNat_natCast]at*
 refine xe λM vs hv=>?_
 cases hv with
 |cons a r=>
  cases r with
  |cons b r=>
   cases r
   obtain⟨rfl,hb,hm⟩:=holds_str.1 a
   obtain⟨rfl,_⟩:=holds_int.1 b
   refine⟨.string (bs (List.replicate n x).flatten),λM=>holds_str.2 ⟨rfl,?_,?_⟩,λw=>?_⟩
   ·intro d hd
    obtain⟨l,hl,hd⟩:=List.mem_flatten.1 hd
    rw[(List.mem_replicate.1 hl).2]at hd
    exact hb d hd
   ·have:((List.replicate n x).flatten).length=n*x.length:=by simp
    rw[this,Nat.mul_comm];simp only[most];omega
   ·have:=h (bs x) n w (by omega) (by rw[jY];exact h1)
    refine this.mono ?_
    rintro e w' ⟨rfl,hb⟩
    refine⟨?_,hb⟩
    have e:(bs x).data.toList=x.map λc=>UInt8.ofNat c.toNat:=by simp only[bs,List.toList_toArray]
    rw[e,vz]
    rfl
@[reducible] def Pth.sub:{t u:T}→Pth t u→T→T
  |_,_,.here,v=>v
  | .pair _ b,_,.fst p,v=> .pair (p.sub v) b
  | .pair a _,_,.snd p,v=> .pair a (p.sub v)
  | .arr n t,_,.elem _ _,_=> .arr n t
@[reducible] def Pth.put:{t u:T}→(p:Pth t u)→(v:T)→t.D→v.D→(p.sub v).D
  |_,_,.here,_,_,y=>y
  | .pair _ _,_,.fst p,v,x,y=>(p.put v x.1 y,x.2)
  | .pair _ _,_,.snd p,v,x,y=>(x.1,p.put v x.2 y)
  | .arr _ _,_,.elem _ _,_,x,_=>x
@[reducible] def Pth.fields:{t u:T}→Pth t u→Bool
  |_,_,.here=>true
  |_,_,.fst p=>p.fields
  |_,_,.snd p=>p.fields
  |_,_,.elem _ _=>false
theorem Pth.fields_ok:∀{t u:T} {p:Pth t u},p.fields=true→p.ok
 |_,_,.here,_=>trivial
 | .pair _ _,_,.fst p,h=>fields_ok (p:=p) h
 | .pair _ _,_,.snd p,h=>fields_ok (p:=p) h
theorem Rep.put:∀{t u:T} (p:Pth t u) {v:T} {M:Mem} {cs d:List Value} {x:t.D} {y:v.D},p.fields=true→Rep t M cs x→Rep v M d y→
  Rep (p.sub v) M (cs.take p.off++d++cs.drop (p.off+u.size)) (p.put v x y)
 |t,_,.here,v,M,cs,d,x,y,_,h,g=>by
  have:=Rep.size h
  simp only[Pth.off,List.take_zero,List.nil_append,Nat.zero_add,←this,List.drop_length,List.append_nil];exact g
 | .pair a b,u,.fst p,v,M,cs,d,x,y,hok,⟨c1,c2,e,h1,h2⟩,g=>by
   have hs:=Rep.size h1
   have hf:=p.fits (Pth.fields_ok (p:=p) hok)
   refine⟨_,c2,?_,Rep.put p hok h1 g,h2⟩
   simp only[Pth.off]
   rw[e,List.take_append_of_le_length (by omega),List.drop_append_of_le_length (by omega)];simp
 | .pair a b,u,.snd p,v,M,cs,d,x,y,hok,⟨c1,c2,e,h1,h2⟩,g=>by
   have hs:=Rep.size h1
   refine⟨c1,_,?_,h1,Rep.put p hok h2 g⟩
   simp only[Pth.off]
   rw[e,←hs,List.take_length_add_append,Nat.add_assoc,←List.drop_drop,List.drop_left];simp
section
variable {P:Program}{Tb:Tab}{F:Fr}{M:Mem}{n:Nat}{E E':Env}{L:List Res}{ops:Array Oper}{Q:Exit→Act→World→Prop}{rest:List Oper}
theorem iS{x y':Operand}{z:Value}{b off:Nat}{e:TypeId}{t u v:T}{xv:t.D}{yv:v.D}{tid:TypeId}{ty:TypeId}{pos:String}{after:Array Edge}(i:Nat)(p:Pth t u)(hx:ev E x=some (.one (.raw z) (.pointer (some ⟨b,off,none⟩))))(hy:ev E y'=some (.one v yv))(hi:L[i]? =some (Res.var b e t xv))
  (hp:p.off=off) (hok:p.fields=true) (hs:v.size=u.size) (ht:aW P v tid=true) (g:Go F n E (L.set i (Res.var b e (p.sub v) (p.put v xv yv))) (wpList P ops Q rest)):Go F n E L (wpList P ops Q (⟨none,.store tid x y',ty,pos,after,none⟩::rest)):=λM a w c=>by
 obtain⟨cs,hb,hr⟩:=c.st.var hi
 have hl:=hr.size
 have hf:=p.fits (Pth.fields_ok hok)
 have h1:=(holds_raw.1 (aJ c hx)).1
 obtain⟨ds,hds,hrun⟩:=pU (P:=P) (w:=w) ht hb (off:=off) (by simp[hl,hs,←hp];exact hf) (iz _) (aJ c hy)
 unfold wpList
 rw[if_pos (by simp[Region.wanted])]
 left
 unfold Oper.wp
 rw[hs]at hrun
 have he:(execOp a.eval ⟨none,.store tid x y',ty,pos,after,none⟩).run P w= .ok .skip (fg w b (.cells (cs.take off++ds++cs.drop (off+u.size)).toArray e (0,0))):=by
  have hrun':(storeVar tid ⟨b,off,none⟩ (a.eval y')).run P w= .ok () (fg w b (.cells (cs.take off++ds++cs.drop (off+u.size)).toArray e (0,0))):=hrun
  simp only[execOp,ao,h1,Instr.storeAt,Instr.sureAddr,aG,hrun']
 rw[he,Oper.upon_skip]
 refine g M _ _ (c.same (Mem.le.refl _) (c.st.turn hi (B:=λk=>k=b) ?_ ?_ ?_ rfl rfl rfl (by simp[fg])))
 ·rintro S ⟨hS,cs',hb',hr'⟩
  refine⟨hS,cs.take off++ds++cs.drop (off+u.size),by rw[eA (cH hb)];simp,?_⟩
  rw[←hp]
  exact Rep.put p hok hr hds
 ·rintro S ⟨hS,_⟩ k rfl;exact(hS _).2 rfl
 ·intro k hk;rw[eA (cH hb),if_neg (λh=>hk h.symm)]
end
def dt(W:World):Mem:=λk=>W.heap[k]?
inductive Emb(L:List Res):(t':T)→t'.D→(t:T)→t.D→Prop
 |same {t:T} {x:t.D}:Emb L t x t x
 |own {z v:Value} {e:TypeId} {t:T} {xs:List t.D} (i:Nat) (hi:L[i]? =some (Res.own v e t xs)):Emb L (.raw z) v (.sl e t) xs
 |pair {a' b' a b:T} {x:a'.D} {x2:b'.D} {y:a.D} {y2:b.D} (h1:Emb L a' x a y) (h2:Emb L b' x2 b y2):Emb L (.pair a' b') (x,x2) (.pair a b) (y,y2)
theorem EL{L:List Res}{t' t:T}{x:t'.D}{y:t.D}(h:Emb L t' x t y):t'.isAgg=t.isAgg:=by cases h<;>rfl
theorem Am{F:Fr}{M:Mem}{w:World}{L:List Res}(st:St F M w L){v:Value}{e:TypeId}{t:T}{xs:List t.D}{i:Nat}(hi:L[i]? =some (Res.own v e t xs)):Rep (.sl e t) (dt w) [v] xs:=by
 obtain⟨S,hs⟩:=st.res hi
 rcases hs with⟨⟨a0,rfl⟩,rfl,_⟩|⟨b,o,cap,rfl,h2,cc,fr,h3,h4,h5,h6,h7,h8⟩
 ·exact kN
 ·refine⟨some ⟨b,o,none⟩,cap,rfl,h7,h6,.inr ⟨rfl,cc,_,fr,h3,?_,?_⟩⟩
  ·have:=Nat.mul_le_mul_right t.size h6
   simp only;omega
  ·have hle:M.le (dt w):=λk o e=>st.mem k o e
   exact RepL.mono (λ_ _ r=>Rep.mono hle r) h4
theorem wi{F:Fr}{M:Mem}{w:World}{L:List Res}(st:St F M w L):∀{t' t:T} {x:t'.D} {y:t.D} {cs:List Value},Emb L t' x t y→Rep t' M cs x→Rep t (dt w) cs y
 |_,_,_,_,_,.same,h=>Rep.mono (λk o e=>st.mem k o e) h
 |_,_,_,_,_,.own i hi,h=>by
  have:=h.1
  subst this
  exact Am st hi
 |_,_,_,_,_,.pair h1 h2,⟨c1,c2,e,r1,r2⟩=>⟨c1,c2,e,wi st h1 r1,wi st h2 r2⟩
theorem B1{F:Fr}{M:Mem}{w:World}{L:List Res}(st:St F M w L){t' t:T}{x:t'.D}{y:t.D}{v:Value}(h:Emb L t' x t y)(g:Holds t' M v x):Holds t (dt w) v y:=by
 obtain⟨cs,e,r⟩:=g
 exact⟨cs,by rw[e];unfold mk;rw[EL h],wi st h r⟩
theorem St.lent{F:Fr}{M:Mem}{w:World}{L:List Res}(h:St F M w L):
  ∃F',F'.base=dt w∧F'.size=w.heap.size∧St F' (dt w) w []∧∀M' w',St F' M' w' []→St F M w' L∧Same w w':=by
 refine⟨{F with mem:=dt w,base:=dt w,size:=w.heap.size},rfl,rfl,?_,?_⟩
 ·exact{os:=h.os,tape:=h.tape,output:=h.output,size:=Nat.le_refl _,elder:=Mem.le.refl _,fresh:=λk o e=> .inl e,frame:=λk o e=>e,mem:=λk o e=>e,sep:=⟨λ_=>False,λ_ h=>h,λ_ h=>h.elim⟩}
 ·intro M' w' h'
  have hs:Same w w':=λk hk=>by
   have:=h'.frame k w.heap[k] (by simp[dt,hk])
   rw[this];simp[hk]
  obtain⟨V,s,d⟩:=h.sep
  refine⟨?_,hs⟩
  exact{os:=h'.os,tape:=h'.tape,output:=h'.output,size:=Nat.le_trans h.size h'.size,elder:=h.elder,fresh:=h.fresh
        frame:=λk o e=>by rw[hs k (h.flt e)];exact h.frame k o e
        mem:=λk o e=>by rw[hs k (h.lt e)];exact h.mem k o e
        sep:=⟨V,Sep.loc (λk hk=>hs k (s.has k hk)) s,d⟩}
theorem St.lent'{F:Fr}{M:Mem}{w:World}{L:List Res}(h:St F M w L):
  ∃F',F'.base=dt w∧F'.size=w.heap.size∧F'.mem=dt w∧St F' (dt w) w []∧F'.os=F.os∧F'.tape=F.tape∧F'.output=F.output:=
 ⟨{F with mem:=dt w,base:=dt w,size:=w.heap.size},rfl,rfl,rfl,{os:=h.os,tape:=h.tape,output:=h.output,size:=Nat.le_refl _,elder:=Mem.le.refl _,fresh:=λk o e=> .inl e,frame:=λk o e=>e,mem:=λk o e=>e,sep:=⟨λ_=>False,λ_ h=>h,λ_ h=>h.elim⟩},rfl,rfl,rfl⟩
inductive LendArgs(E:Env)(L:List Res):List Operand→List TV→Prop
 |nil:LendArgs E L [] []
 |val {x:Operand} {t:TV} {l:List Operand} {ts:List TV} (h:ev E x=some t) (r:LendArgs E L l ts):LendArgs E L (x::l) (t::ts)
 |own {x:Operand} {z v:Value} {e:TypeId} {t:T} {xs:List t.D} {l:List Operand} {ts:List TV} (i:Nat) (h:ev E x=some (.one (.raw z) v)) (hi:L[i]? =some (Res.own v e t xs)) (r:LendArgs E L l ts):
   LendArgs E L (x::l) (.one (.sl e t) xs::ts)
 |mix {x:Operand} {t' t:T} {x':t'.D} {y:t.D} {l:List Operand} {ts:List TV} (h:ev E x=some (.one t' x')) (he:Emb L t' x' t y) (r:LendArgs E L l ts):LendArgs E L (x::l) (.one t y::ts)
section
variable {P:Program}{Tb:Tab}{F:Fr}{M:Mem}{n:Nat}{E E':Env}{L:List Res}{ops:Array Oper}{Q:Exit→Act→World→Prop}{rest:List Oper}
theorem pA{a:Act}{w:World}(c:Cfg F M n E L a w):∀{xs:List Operand} {ts:List TV},LendArgs E L xs ts→HoldAll (dt w) ts (xs.map a.eval)
 |_,_,.nil=> .nil
 |_,_,.val h r=> .cons (TV.mono (λk o e=>c.st.mem k o e) (aJ c h)) (pA c r)
 |_,_,.mix h he r=> .cons (B1 c.st he (aJ c h)) (pA c r)
 |_,_,@LendArgs.own _ _ _ _ _ _ t _ _ _ i h hi r=>by
  refine .cons ?_ (pA c r)
  obtain⟨S,hs⟩:=c.st.res hi
  have hv:=(holds_raw.1 (aJ c h)).1
  rw[hv]
  rcases hs with⟨⟨a0,rfl⟩,rfl,_⟩|⟨b,o,cap,rfl,h2,cc,fr,h3,h4,h5,h6,h7,h8⟩
  ·exact⟨_,rfl,kN⟩
  ·refine⟨_,rfl,some ⟨b,o,none⟩,cap,rfl,h7,h6,.inr ⟨rfl,cc,_,fr,h3,?_,?_⟩⟩
   ·have:=Nat.mul_le_mul_right t.size h6
    simp only;omega
   ·have hle:M.le (dt w):=λk o e=>c.st.mem k o e
    exact RepL.mono (λ_ _ r=>Rep.mono hle r) h4
theorem EM{R:World→World→Prop}(hT:Tb.chk P=true){x:Operand}{e:TypeId}{t:T}{xs:List t.D}{tid:TypeId}{l h:Option Operand}{i j:Int}(hx:ev E x=some (.one (.sl e t) xs))(hl:nw E 0 l=some i)(hh:nw E xs.length h=some j)
  (h0:0≤i) (h1:i≤j) (h2:j≤xs.length) (ht:lk Tb.slices tid=some e) (hc:aW P t e=true):Yields R P F n E L (.slice tid x l h none) (.one (.sl e t) ((xs.take j.toNat).drop i.toNat)):=λo ho M a w c=>by
 obtain⟨cs,e1,ad,cap,e2,hm,hcap,h4⟩:=aJ c hx
 have hv:a.eval x= .slice ad (List.length xs) cap:=by rw[e1,e2];rfl
 have bU:((xs.take j.toNat).drop i.toNat).length=j.toNat - i.toNat:=by simp;omega
 have hi:i.toNat≤j.toNat:=by omega
 have hj:j.toNat≤xs.length:=by omega
 refine⟨.slice (if cap=i.toNat then ad else ad.map (·.add (i.toNat*t.size))) (j.toNat - i.toNat) (cap - i.toNat),⟨[.slice (if cap=i.toNat then ad else ad.map (·.add (i.toNat*t.size))) (j.toNat - i.toNat) (cap - i.toNat)],rfl,?_⟩,λw' _=>?_⟩
 ·refine⟨_,_,by rw[bU],by rw[bU];simp only[most]at*;omega,by rw[bU];omega,?_⟩
  rw[bU]
  cases ad with
  |none=>
   simp only at h4
   have:(if cap=i.toNat then(none:Option Addr)else none)=none:=by split<;>rfl
   simp only[Option.map_none,this]
   omega
  |some ad=>
   by_cases hz:j.toNat - i.toNat=0
   ·split
    ·rename_i hh
     exact hz
    ·exact .inl hz
   ·have hne:¬cap=i.toNat:=by omega
    obtain⟨b,off,sp⟩:=ad
    obtain⟨e3,cc,el,fr,hmm,hs,hr⟩:=h4.resolve_left (by omega)
    simp only at e3;subst e3
    simp only at hmm hs hr
    simp only[if_neg hne,Option.map_some,kU]
    refine .inr ⟨trivial,cc,el,fr,hmm,?_,?_⟩
    ·have h5:j.toNat*t.size≤xs.length*t.size:=Nat.mul_le_mul_right t.size hj
     have e4:i.toNat*t.size+(j.toNat - i.toNat)*t.size=j.toNat*t.size:=by rw[←Nat.add_mul,Nat.add_sub_cancel' hi]
     clear h4 hr
     show off+i.toNat*t.size+(j.toNat - i.toNat)*t.size≤cc.size
     omega
    ·have s1:=(RepL.split (s:=t.size) (λc x h=>Rep.size h) j.toNat hr).1
     have s2:=(RepL.split (s:=t.size) (λc x h=>Rep.size h) i.toNat s1).2
     have hle:j.toNat*t.size≤xs.length*t.size:=Nat.mul_le_mul_right _ hj
     rw[List.take_take,Nat.min_eq_left hle,List.drop_take,List.drop_drop]at s2
     have e4:j.toNat*t.size - i.toNat*t.size=(j.toNat - i.toNat)*t.size:=(Nat.sub_mul _ _ _).symm
     rw[e4]at s2
     exact s2
 ·obtain⟨dst,op,ty,pos,after,guard⟩:=o
  simp only at ho;subst ho
  refine bz ?_
  rw[hv]
  have hl:=nf c hl
  have hh:=nf c hh
  unfold Instr.sliceAt
  simp only[ao,run_underlying (Tab.slice hT ht)]
  unfold Instr.slice
  have hbd:=rX (P:=P) (w:=w') (isS:=true) (len:=xs.length) (cap:=cap) hl hh h0 h1 (by omega)
  simp only[ao,run_underlying (Tab.slice hT ht),Option.map_none,hbd,dL hc]
  rfl
end
def Res.all(L:List Res):Res where
 sat M S w:=Sep M w L S
 mono h:=Sep.mono h
 loc h:=Sep.loc h
 has:=Sep.has
def Res.ex{γ:Type}(f:γ→Res):Res where
 sat M S w:=∃g,(f g).sat M S w
 mono h:=λ⟨g,s⟩=>⟨g,(f g).mono h s⟩
 loc h:=λ⟨g,s⟩=>⟨g,(f g).loc h s⟩
 has:=λ⟨g,s⟩=>(f g).has s
def Res.fact(p:Prop):Res where
 sat _ S _:=p∧∀k,¬S k
 mono _:=id
 loc _:=id
 has:=λh k hk=>absurd hk (h.2 k)
theorem Sep.all_to{M:Mem}{w:World}{L1 L2:List Res}{V:Nat→Prop}:Sep M w (Res.all L1::L2) V→Sep M w (L1++L2) V:=λ⟨_,_,a,b,d,e⟩=>
 Sep.eqv (λk=>(e k).symm) (Sep.append a b d)
theorem Sep.all_of{M:Mem}{w:World}{L1 L2:List Res}{V:Nat→Prop}(h:Sep M w (L1++L2) V):Sep M w (Res.all L1::L2) V:=by
 obtain⟨A,B,a,b,d,e⟩:=Sep.split h
 exact⟨A,B,a,b,d,e⟩
theorem St.sep_to{F:Fr}{M:Mem}{w:World}{L L':List Res}(h:St F M w L)(f:∀V,Sep M w L V→Sep M w L' V):St F M w L':=
 {h with sep:=let⟨V,s,d⟩:=h.sep;⟨V,f V s,d⟩}
section
variable {F:Fr}{n:Nat}{E:Env}{L L1:List Res}{X:Act→World→Prop}
theorem ez(g:Go F n E (L1++L) X):Go F n E (Res.all L1::L) X:=λM a w c=>g M a w {c with st:=c.st.sep_to λ_=>Sep.all_to}
theorem Eg(g:Go F n E (Res.all L1::L) X):Go F n E (L1++L) X:=λM a w c=>g M a w {c with st:=c.st.sep_to λ_=>Sep.all_of}
theorem fK{γ:Type}{f:γ→Res}(g:∀x,Go F n E (f x::L) X):Go F n E (Res.ex f::L) X:=λM a w c=>by
 obtain⟨V,⟨S,V',⟨x,r⟩,s,d,e⟩,dd⟩:=c.st.sep
 exact g x M a w {c with st:={c.st with sep:=⟨V,⟨S,V',r,s,d,e⟩,dd⟩}}
theorem Hq{γ:Type}{f:γ→Res}(x:γ)(g:Go F n E (Res.ex f::L) X):Go F n E (f x::L) X:=λM a w c=>
 g M a w {c with st:=c.st.sep_to λ_ ⟨S,V',r,s,d,e⟩=>⟨S,V',⟨x,r⟩,s,d,e⟩}
theorem da{p:Prop}(g:p→Go F n E L X):Go F n E (Res.fact p::L) X:=λM a w c=>by
 obtain⟨V,⟨S,V',⟨hp,hS⟩,s,d,e⟩,dd⟩:=c.st.sep
 refine g hp M a w {c with st:={c.st with sep:=⟨V,?_,dd⟩}}
 exact Sep.eqv (λk=>by rw[e k];exact⟨.inr,λh=>h.elim (λx=>absurd x (hS k)) id⟩) s
theorem oZ{p:Prop}(hp:p)(g:Go F n E (Res.fact p::L) X):Go F n E L X:=λM a w c=>g M a w {c with st:=c.st.free ⟨hp,λ_ h=>h⟩}
theorem Eh{R R':Res}(h:∀M S w,R.sat M S w→R'.sat M S w)(g:Go F n E (R'::L) X):Go F n E (R::L) X:=λM a w c=>
 g M a w {c with st:=c.st.sep_to λ_ ⟨S,V',r,s,d,e⟩=>⟨S,V',h _ _ _ r,s,d,e⟩}
end
def Res.free(R:Res):Prop:=∀M M' S w,R.sat M S w→R.sat M' S w
theorem Res.free_all{L:List Res}(h:∀R∈L,R.free):(Res.all L).free:=by
 intro M M' S w
 show Sep M w L S→Sep M' w L S
 induction L generalizing S with
 |nil=>exact id
 |cons R L ih=>
  rintro⟨A,B,a,b,d,e⟩
  exact⟨A,B,h R (by simp) _ _ _ _ a,ih (λR hR=>h R (by simp[hR])) _ b,d,e⟩
theorem Res.free_own{v:Value}{e:Nat}{t:T}{xs:List t.D}(h:t.flat=true):(Res.own v e t xs).free:=λ_ _ _ _ g=>
 g.elim .inl λ⟨b,o,cap,h1,h2,c,fr,h3,h4,h5⟩=> .inr ⟨b,o,cap,h1,h2,c,fr,h3,RepL.mono (λ_ _ r=>r.any h) h4,h5⟩
end Sx
namespace Sx
open Go Go.Maps
def jo:(kt:T)→kt.D→Lit
 | .int k,n=> .int k n
 | .str,s=> .string ((show List Int from s).map λc=>UInt8.ofNat c.toNat)
 | .bool,_=> .bool false| .unit,_=> .bool false| .raw _,_=> .bool false| .pair _ _,_=> .bool false| .arr _ _,_=> .bool false| .sl _ _,_=> .bool false| .ifc _ _ _,_=> .bool false
def kok:(kt:T)→kt.D→Prop
 | .int k,n=>rng k n
 | .str,s=>aQ s∧List.length s≤most
 | .bool,_=>False| .unit,_=>False| .raw _,_=>False| .pair _ _,_=>False| .arr _ _,_=>False| .sl _ _,_=>False| .ifc _ _ _,_=>False
def sLt:List Int→List Int→Bool
 |[],[]=>false
 |[],_::_=>true
 |_::_,[]=>false
 |a::r,b::s=>decide (a<b)||(a==b&&sLt r s)
def klt:(kt:T)→kt.D→kt.D→Bool
 | .int _,a,b=>decide ((show Int from a)<b)
 | .str,a,b=>sLt a b
 | .bool,_,_=>false| .unit,_,_=>false| .raw _,_,_=>false| .pair _ _,_,_=>false| .arr _ _,_,_=>false| .sl _ _,_,_=>false| .ifc _ _ _,_,_=>false
def keq:(kt:T)→kt.D→kt.D→Bool
 | .int _,a,b=>(show Int from a)==b
 | .str,a,b=>(show List Int from a)==b
 | .bool,_,_=>false| .unit,_,_=>false| .raw _,_,_=>false| .pair _ _,_,_=>false| .arr _ _,_,_=>false| .sl _ _,_,_=>false| .ifc _ _ _,_,_=>false
theorem sf:∀{a b:List Int},aQ a→aQ b→bytesBefore (a.map λc=>UInt8.ofNat c.toNat) (b.map λc=>UInt8.ofNat c.toNat)=sLt a b
 |[],[],_,_=>rfl
 |[],_::_,_,_=>rfl
 |_::_,[],_,_=>rfl
 |x::a,y::b,ha,hb=>by
  have hx:=ha x (by simp)
  have hy:=hb y (by simp)
  simp only[List.map_cons,bytesBefore,sLt]
  rw[sf (a:=a) (b:=b) (λc hc=>ha c (by simp[hc])) (λc hc=>hb c (by simp[hc]))]
  have e1:decide (UInt8.ofNat x.toNat<UInt8.ofNat y.toNat)=decide (x<y):=by
   rw[decide_eq_decide,UInt8.lt_iff_toNat_lt]
   simp only[UInt8.toNat_ofNat']
   omega
  have e2:(UInt8.ofNat x.toNat==UInt8.ofNat y.toNat)=(x==y):=by
   rw[Bool.eq_iff_iff];simp only[beq_iff_eq]
   exact⟨xH hx hy,λh=>by rw[h]⟩
  rw[e1,e2]
theorem uG:∀{kt:T} {a b:kt.D},kok kt a→kok kt b→(jo kt a).before (jo kt b)=klt kt a b
 | .int k,_,_,_,_=>rfl
 | .str,a,b,ha,hb=>sf ha.1 hb.1
 | .bool,_,_,h,_=>h.elim
 | .unit,_,_,h,_=>h.elim
 | .raw _,_,_,h,_=>h.elim
 | .pair _ _,_,_,h,_=>h.elim
 | .arr _ _,_,_,h,_=>h.elim
 | .sl _ _,_,_,h,_=>h.elim
 | .ifc _ _ _,_,_,h,_=>h.elim
theorem qu:∀{kt:T} {a b:kt.D},kok kt a→kok kt b→(jo kt a).sameKey (jo kt b)=keq kt a b
 | .int k,a,b,_,_=>by
   show decide (k=k∧(show Int from a)=b)=((show Int from a)==b)
   rw[Bool.eq_iff_iff,decide_eq_true_iff,beq_iff_eq];simp
 | .str,a,b,ha,hb=>by
   show(_==_)=((show List Int from a)==b)
   rw[Bool.eq_iff_iff];simp only[beq_iff_eq]
   exact⟨xI ha.1 hb.1,λh=>by rw[h]⟩
 | .bool,_,_,h,_=>h.elim
 | .unit,_,_,h,_=>h.elim
 | .raw _,_,_,h,_=>h.elim
 | .pair _ _,_,_,h,_=>h.elim
 | .arr _ _,_,_,h,_=>h.elim
 | .sl _ _,_,_,h,_=>h.elim
 | .ifc _ _ _,_,_,h,_=>h.elim
theorem nh:∀{kt:T} {a b:kt.D},kok kt a→(keq kt a b=true↔a=b)
 | .int _,a,b,_=>beq_iff_eq (a:=(show Int from a)) (b:=b)
 | .str,a,b,_=>beq_iff_eq (a:=(show List Int from a)) (b:=b)
 | .bool,_,_,h=>h.elim
 | .unit,_,_,h=>h.elim
 | .raw _,_,_,h=>h.elim
 | .pair _ _,_,_,h=>h.elim
 | .arr _ _,_,_,h=>h.elim
 | .sl _ _,_,_,h=>h.elim
 | .ifc _ _ _,_,_,h=>h.elim
def dU(P:Program)(kt:T)(kid:TypeId):Bool:=match kt with
 | .int _=>aW P kt kid
 | .str=>aW P kt kid
 |_=>false
theorem gR{P:Program}{kt:T}{kid:TypeId}(h:dU P kt kid=true):Keyed P kid:=by
 cases kt<;>simp only[dU]at h<;>try cases h
 case int k=>
  obtain⟨i,d,_,_,hu,hd⟩:=bK h
  cases d<;>simp at hd
  obtain rfl:=nc hd
  exact int_keyed hu
 case str=>
  obtain⟨i,d,_,_,hu,hd⟩:=bK h
  cases d<;>simp at hd
  exact string_keyed hu
theorem n9{P:Program}{kt:T}{kid:TypeId}(h:dU P kt kid=true){M:Mem}{v:Value}{x:kt.D}(hv:Holds kt M v x):kok kt x∧keyOf P kid v=some (jo kt x):=by
 cases kt<;>simp only[dU]at h<;>try cases h
 case int k=>
  obtain⟨i,d,_,_,hu,hd⟩:=bK h
  cases d<;>simp at hd
  obtain rfl:=nc hd
  obtain⟨rfl,hr⟩:=holds_int.1 hv
  refine⟨hr,keyOf_int_mk hu ?_⟩
  simp only[rng]at hr
  cases k<;>simp[Lit.wf,IntKind.min,IntKind.max,IntKind.signed,IntKind.bits,lo,Sx.hi]at hr⊢<;>omega
 case str=>
  obtain⟨i,d,_,_,hu,hd⟩:=bK h
  cases d<;>simp at hd
  obtain⟨rfl,hb,hm⟩:=holds_str.1 hv
  refine⟨⟨hb,hm⟩,?_⟩
  have:=Go.WideMaps.keyOf_string_mk (P:=P) (k:=kid) hu (s:=bs x) (by rw[jY];simp only[most]at hm;unfold maxLen;omega)
  rw[this]
  simp only[jo,bs,List.toList_toArray]
def cP(kt:T){V:Type}(k:kt.D)(v:V):List (kt.D×V)→List (kt.D×V)
 |[]=>[(k,v)]
 |y::r=>if klt kt k y.1 then(k,v)::y::r else y::cP kt k v r
def cn(kt:T){V:Type}(k:kt.D)(l:List (kt.D×V)):List (kt.D×V):=l.filter λp=> !keq kt p.1 k
def dn(kt:T){V:Type}(k:kt.D)(v:V)(l:List (kt.D×V)):List (kt.D×V):=cP kt k v (cn kt k l)
def aA(kt:T){V:Type}(k:kt.D)(l:List (kt.D×V)):Option V:=(l.find? λp=>keq kt p.1 k).map (·.2)
abbrev dat(kt:T)(l:List (kt.D×Value)):DataW Value:= .map (l.map λp=>(jo kt p.1,.held p.2))
def koks(kt:T){V:Type}(l:List (kt.D×V)):Prop:=∀p∈l,kok kt p.1
theorem An{kt:T}{k:kt.D}{v:Value}(hk:kok kt k):∀{l:List (kt.D×Value)},koks kt l→DataW.insert (jo kt k,.held v) (l.map λp=>(jo kt p.1,DataW.held p.2))=(cP kt k v l).map λp=>(jo kt p.1,.held p.2)
 |[],_=>rfl
 |y::r,h=>by
  simp only[List.map_cons,DataW.insert,cP,uG hk (h y (by simp))]
  split
  ·rfl
  ·rw[An hk (λp hp=>h p (by simp[hp]))];rfl
theorem Ao{kt:T}{k:kt.D}(hk:kok kt k){l:List (kt.D×Value)}(h:koks kt l):(dat kt l).del (jo kt k)=dat kt (cn kt k l):=by
 simp only[DataW.del,cn,List.filter_map]
 congr 2
 apply List.filter_congr
 intro p hp
 simp only[Function.comp,qu (h p hp) hk]
theorem si{kt:T}{V:Type}{k:kt.D}{l:List (kt.D×V)}(h:koks kt l):koks kt (cn kt k l):=λp hp=>h p (List.mem_filter.1 hp).1
theorem xX{kt:T}{V:Type}{k:kt.D}{v:V}(hk:kok kt k):∀{l:List (kt.D×V)},koks kt l→koks kt (cP kt k v l)
 |[],_,p,hp=>by simp[cP]at hp;subst hp;exact hk
 |y::r,h,p,hp=>by
  simp only[cP]at hp
  split at hp
  ·rcases List.mem_cons.1 hp with rfl|hp
   ·exact hk
   ·exact h p hp
  ·rcases List.mem_cons.1 hp with rfl|hp
   ·exact h _ (by simp)
   ·exact xX hk (λq hq=>h q (by simp[hq])) p hp
theorem EN{kt:T}{k:kt.D}{v:Value}(hk:kok kt k){l:List (kt.D×Value)}(h:koks kt l):(dat kt l).put (jo kt k) (.held v)=dat kt (dn kt k v l):=by
 have:=Ao hk h
 simp only[DataW.del,DataW.map.injEq]at this
 simp only[DataW.put,this,An hk (si h),dn]
theorem mx{kt:T}{k:kt.D}{z:Value}(hk:kok kt k):∀{l:List (kt.D×Value)},koks kt l→(dat kt l).atKey (jo kt k) (.held z)= .held ((aA kt k l).getD z)
 |[],_=>rfl
 |y::r,h=>by
  have ih:=mx (z:=z) hk (l:=r) (λp hp=>h p (by simp[hp]))
  simp only[DataW.atKey,aA,List.map_cons,List.find?_cons,qu (h y (by simp)) hk]at ih⊢
  cases keq kt y.1 k with
  |true=>rfl
  |false=>exact ih
theorem wj{kt:T}{k:kt.D}(hk:kok kt k):∀{l:List (kt.D×Value)},koks kt l→Maps.has (dat kt l) (jo kt k)=(aA kt k l).isSome
 |[],_=>rfl
 |y::r,h=>by
  have ih:=wj hk (l:=r) (λp hp=>h p (by simp[hp]))
  simp only[Maps.has,aA,List.map_cons,List.any_cons,List.find?_cons,qu (h y (by simp)) hk]at ih⊢
  cases keq kt y.1 k with
  |true=>rfl
  |false=>simpa using ih
def RelKV{kt vt:T}(M:Mem):List (kt.D×Value)→List (kt.D×vt.D)→Prop
 |[],[]=>True
 |p::r,q::s=>p.1=q.1∧Holds vt M p.2 q.2∧RelKV M r s
 |_,_=>False
theorem RelKV.mono{kt vt:T}{M M':Mem}(h:M.le M'):∀{a:List (kt.D×Value)} {b:List (kt.D×vt.D)},RelKV M a b→RelKV M' a b
 |[],[],_=>trivial
 |_::_,_::_,⟨h1,h2,h3⟩=>⟨h1,h2.mono h,RelKV.mono h h3⟩
 |[],_::_,h=>h.elim
 |_::_,[],h=>h.elim
theorem RelKV.any{kt vt:T}{M M':Mem}(hf:vt.flat=true):∀{a:List (kt.D×Value)} {b:List (kt.D×vt.D)},RelKV M a b→RelKV M' a b
 |[],[],_=>trivial
 |_::_,_::_,⟨h1,h2,h3⟩=>⟨h1,h2.any hf,RelKV.any hf h3⟩
 |[],_::_,h=>h.elim
 |_::_,[],h=>h.elim
theorem RelKV.len{kt vt:T}{M:Mem}:∀{a:List (kt.D×Value)} {b:List (kt.D×vt.D)},RelKV M a b→a.length=b.length
 |[],[],_=>rfl
 |_::_,_::_,⟨_,_,h3⟩=>by simp[RelKV.len h3]
 |[],_::_,h=>h.elim
 |_::_,[],h=>h.elim
theorem RelKV.koks{kt vt:T}{M:Mem}:∀{a:List (kt.D×Value)} {b:List (kt.D×vt.D)},RelKV M a b→koks kt b→koks kt a
 |[],[],_,_=>λp hp=>by cases hp
 |p::r,q::s,⟨h1,_,h3⟩,h=>λx hx=>by
  rcases List.mem_cons.1 hx with rfl|hx
  ·rw[h1];exact h q (by simp)
  ·exact RelKV.koks h3 (λy hy=>h y (by simp[hy])) x hx
 |[],_::_,h,_=>h.elim
 |_::_,[],h,_=>h.elim
theorem RelKV.del{kt vt:T}{M:Mem}(k:kt.D):∀{a:List (kt.D×Value)} {b:List (kt.D×vt.D)},RelKV M a b→RelKV M (cn kt k a) (cn kt k b)
 |[],[],_=>trivial
 |p::r,q::s,⟨h1,h2,h3⟩=>by
  have ih:=RelKV.del k h3
  simp only[cn,List.filter_cons,h1]at ih⊢
  split
  ·exact⟨h1,h2,ih⟩
  ·exact ih
 |[],_::_,h=>h.elim
 |_::_,[],h=>h.elim
theorem RelKV.ins{kt vt:T}{M:Mem}(k:kt.D){v:Value}{x:vt.D}(hv:Holds vt M v x):∀{a:List (kt.D×Value)} {b:List (kt.D×vt.D)},RelKV M a b→RelKV M (cP kt k v a) (cP kt k x b)
 |[],[],_=>⟨rfl,hv,trivial⟩
 |p::r,q::s,⟨h1,h2,h3⟩=>by
  have ih:=RelKV.ins k hv h3
  simp only[cP,h1]
  split
  ·exact⟨rfl,hv,h1,h2,h3⟩
  ·exact⟨h1,h2,ih⟩
 |[],_::_,h=>h.elim
 |_::_,[],h=>h.elim
theorem RelKV.put{kt vt:T}{M:Mem}(k:kt.D){v:Value}{x:vt.D}(hv:Holds vt M v x){a:List (kt.D×Value)}{b:List (kt.D×vt.D)}(h:RelKV M a b):RelKV M (dn kt k v a) (dn kt k x b):=(h.del k).ins k hv
theorem RelKV.get{kt vt:T}{M:Mem}(k:kt.D):∀{a:List (kt.D×Value)} {b:List (kt.D×vt.D)},RelKV M a b→(aA kt k a=none∧aA kt k b=none)∨∃v x,aA kt k a=some v∧aA kt k b=some x∧Holds vt M v x
 |[],[],_=> .inl ⟨rfl,rfl⟩
 |p::r,q::s,⟨h1,h2,h3⟩=>by
  have ih:=RelKV.get k h3
  simp only[aA,List.find?_cons,h1]at ih⊢
  cases keq kt q.1 k with
  |true=>exact .inr ⟨p.2,q.2,rfl,rfl,h2⟩
  |false=>exact ih
 |[],_::_,h=>h.elim
 |_::_,[],h=>h.elim
def gS(v:Value):Option (DataW Value×List MemPlace):=some (.held v,[])
def Res.map(P:Program)(kid:TypeId)(kt vt:T)(v:Value)(l:List (kt.D×vt.D)):Res where
 sat M S w:=∃b lv,v= .map (some b)∧(∀k,S k↔k=b)∧w.ownsMap P kid gS b l.length (dat kt lv)∧RelKV M lv l∧koks kt l
 mono h:=λ⟨b,lv,h1,h2,h3,h4,h5⟩=>⟨b,lv,h1,h2,h3,h4.mono h,h5⟩
 loc h:=λ⟨b,lv,h1,h2,⟨es,clock,g1,g2⟩,h4⟩=>⟨b,lv,h1,h2,⟨es,clock,by rw[h b ((h2 b).2 rfl)];exact g1,g2⟩,h4⟩
 has:=λ⟨b,lv,_,h2,h3,_⟩ k hk=>by obtain rfl:=(h2 k).1 hk;exact h3.lt
end Sx
namespace Sx
open Go Go.Maps
section
variable {P:Program}{Tb:Tab}{F:Fr}{n:Nat}{E E':Env}{L:List Res}{ops:Array Oper}{Q:Exit→Act→World→Prop}{rest:List Oper}
theorem o1{mt d:Nat}{ty:TypeId}{pos:String}{after:Array Edge}(kid:TypeId)(kt vt:T)(hd:Nat.ble (d+1) n=true)
  (g:∀v,Go F n ((d,.one (.raw (.map none)) v)::E) (Res.map P kid kt vt v []::L) (wpList P ops Q rest)):Go F n E L (wpList P ops Q (⟨some d,.makeMap mt none,ty,pos,after,none⟩::rest)):=λM a w c=>by
 have hrun:(execOp a.eval ⟨some d,.makeMap mt none,ty,pos,after,none⟩).run P w= .ok (.value (.map (some w.heap.size))) {w with heap:=w.heap.push (.map #[] 0)}:=rfl
 refine dG (d:=d) rfl (by simp[Region.wanted]) hrun (g _ M _ _ (c.put (Mem.le.refl _) (c.st.new ?_) (Nat.le_of_ble_eq_true hd) (holds_raw.2 ⟨rfl,rfl⟩)))
 exact⟨w.heap.size,[],rfl,λk=>Iff.rfl,World.ownsMap_made w P kid gS,trivial,λp hp=>by cases hp⟩
theorem lT{M:Mem}{w:World}{kid:TypeId}{kt vt:T}{v:Value}{l:List (kt.D×vt.D)}{i:Nat}(h:St F M w L)(hi:L[i]? =some (Res.map P kid kt vt v l)):
  ∃b lv,v= .map (some b)∧w.ownsMap P kid gS b l.length (dat kt lv)∧RelKV M lv l∧koks kt l:=by
 obtain⟨S,b,lv,h1,_,h2,h3,h4⟩:=h.res hi
 exact⟨b,lv,h1,h2,h3,h4⟩
theorem sj{w:World}{t:T}{e:TypeId}(hz:(P.info? e).bind (·.zero)=some (mk t (zc t))):(zeroValue e).run P w= .ok (mk t (zc t)) w:=by
 cases hi:P.info? e with
 |none=>simp[hi]at hz
 |some i=>
  simp only[hi,Option.bind_some]at hz
  simp only[zeroValue,typeInfo,ao,program,Sem.run,hi,hz,aG]
theorem xY{m x:Operand}{z v:Value}{kid e mt:TypeId}{kt vt:T}{l:List (kt.D×vt.D)}{key:kt.D}(i:Nat)(hm:ev E m=some (.one (.raw z) v))(hx:ev E x=some (.one kt key))(hi:L[i]? =some (Res.map P kid kt vt v l))(hk:dU P kt kid=true)(ht:P.underlying mt=some (.map kid e))
  (hz:(P.info? e).bind (·.zero)=some (mk vt (zc vt))) (ho:zok vt=true):Yields Same P F n E L (.lookup mt m x true) (.tup [⟨vt,(aA kt key l).getD vt.zero⟩,⟨.bool,(aA kt key l).isSome⟩]):=λo hop M a w c=>by
 obtain⟨b,lv,rfl,hown,hrel,hok⟩:=lT c.st hi
 have hmv:=(holds_raw.1 (aJ c hm)).1
 have hxv:=aJ c hx
 obtain⟨hkok,hkey⟩:=n9 hk hxv
 have hlk:=hrel.koks hok
 have hh:∀w',Same w w'→∃es clock,w'.heap[b]? =some (.map es clock)∧WideElems.Fit P kid gS es clock∧dat kt lv= .map ((es.toList.map (WideElems.rg P kid gS)).foldr DataW.insert []):=λw' hs=>by
  have hlt:=hown.lt
  obtain⟨es,clock,hb,hF,_,hD⟩:=hown
  exact⟨es,clock,by rw[hs b hlt];exact hb,hF,hD⟩
 have key:∃u,TV.holds M u (.tup [⟨vt,(aA kt key l).getD vt.zero⟩,⟨.bool,(aA kt key l).isSome⟩])∧∀w',Same w w'→(Instr.lookup mt (.map (some b)) (a.eval x) true).run P w'= .ok u w':=by
  rcases hrel.get key with⟨g1,g2⟩|⟨v0,x0,g1,g2,g3⟩
  ·refine⟨.tuple #[mk vt (zc vt),.bool false],⟨[mk vt (zc vt),.bool false],rfl,.cons (by rw[g2];exact⟨_,rfl,jH ho⟩) (.cons (by rw[g2];exact holds_bool.2 rfl) .nil)⟩,λw' hs=>?_⟩
   obtain⟨es,clock,hb,hF,hD⟩:=hh w' hs
   rcases Maps.fit_look true (gR hk) ht (sj hz) hb hF hkey with⟨h1,_,_⟩|⟨e0,y,h0,h1,h2,h3,h4,_⟩
   ·exact h1
   ·exfalso
    have:=wj hkok hlk
    rw[g1,hD]at this
    have hmem:WideElems.rg P kid gS e0∈(es.toList.map (WideElems.rg P kid gS)).foldr DataW.insert []:=mem_sorted.2 (List.mem_map.2 ⟨e0,h0,rfl⟩)
    obtain⟨y0,hy0⟩:=hF.reads e0 h0
    have hk0:(WideElems.rg P kid gS e0).1=jo kt key:=by
     rw[WideElems.rg_of hy0]
     have:=WideElems.rd_key hy0
     rw[h1,hkey]at this
     exact(Option.some.inj this).symm
    have:Maps.has (DataW.map ((es.toList.map (WideElems.rg P kid gS)).foldr DataW.insert [])) (jo kt key)=true:=
     List.any_eq_true.2 ⟨_,hmem,by rw[hk0];exact WideAt.sameKey_self ((gR hk).key hkey)⟩
    simp_all
  ·refine⟨.tuple #[v0,.bool true],⟨[v0,.bool true],rfl,.cons (by rw[g2];exact g3) (.cons (by rw[g2];exact holds_bool.2 rfl) .nil)⟩,λw' hs=>?_⟩
   obtain⟨es,clock,hb,hF,hD⟩:=hh w' hs
   rcases Maps.fit_look true (gR hk) ht (sj hz) hb hF hkey with⟨_,_,h3⟩|⟨e0,y,h0,h1,h2,h3,h4,_⟩
   ·exfalso
    have:=mx (z:= .bool false) hkok hlk
    have h5:=mx (z:= .bool true) hkok hlk
    rw[g1,hD]at this h5
    rw[h3]at this h5
    simp only[Option.getD_some,DataW.held.injEq]at this h5
    rw[←this]at h5;cases h5
   ·rw[h2]
    have:=mx (z:= .bool false) hkok hlk
    rw[g1,hD,h4]at this
    cases h3
    simp only[Option.getD_some,DataW.held.injEq]at this
    simp[this]
 obtain⟨u,hu,hr⟩:=key
 refine⟨u,hu,λw' hs=>?_⟩
 obtain⟨dst,op,ty,pos,after,guard⟩:=o
 simp only at hop;subst hop
 exact bz (by rw[hmv];exact hr w' hs)
theorem xZ{m x:Operand}{z v:Value}{kid e mt:TypeId}{kt vt:T}{l:List (kt.D×vt.D)}{key:kt.D}(i:Nat)(hm:ev E m=some (.one (.raw z) v))(hx:ev E x=some (.one kt key))(hi:L[i]? =some (Res.map P kid kt vt v l))(hk:dU P kt kid=true)(ht:P.underlying mt=some (.map kid e))
  (hz:(P.info? e).bind (·.zero)=some (mk vt (zc vt))) (ho:zok vt=true):Yields Same P F n E L (.lookup mt m x false) (.one vt ((aA kt key l).getD vt.zero)):=λo hop M a w c=>by
 obtain⟨b,lv,rfl,hown,hrel,hok⟩:=lT c.st hi
 have hmv:=(holds_raw.1 (aJ c hm)).1
 have hxv:=aJ c hx
 obtain⟨hkok,hkey⟩:=n9 hk hxv
 have hlk:=hrel.koks hok
 have hh:∀w',Same w w'→∃es clock,w'.heap[b]? =some (.map es clock)∧WideElems.Fit P kid gS es clock∧dat kt lv= .map ((es.toList.map (WideElems.rg P kid gS)).foldr DataW.insert []):=λw' hs=>by
  have hlt:=hown.lt
  obtain⟨es,clock,hb,hF,_,hD⟩:=hown
  exact⟨es,clock,by rw[hs b hlt];exact hb,hF,hD⟩
 have key:∃u,Holds vt M u ((aA kt key l).getD vt.zero)∧∀w',Same w w'→(Instr.lookup mt (.map (some b)) (a.eval x) false).run P w'= .ok u w':=by
  rcases hrel.get key with⟨g1,g2⟩|⟨v0,x0,g1,g2,g3⟩
  ·refine⟨mk vt (zc vt),by rw[g2];exact⟨_,rfl,jH ho⟩,λw' hs=>?_⟩
   obtain⟨es,clock,hb,hF,hD⟩:=hh w' hs
   rcases Maps.fit_look false (gR hk) ht (sj hz) hb hF hkey with⟨h1,_,_⟩|⟨e0,y,h0,h1,h2,h3,h4,_⟩
   ·exact h1
   ·exfalso
    have h5:=mx (z:= .bool false) hkok hlk
    have h6:=mx (z:= .bool true) hkok hlk
    rw[g1,hD,h4]at h5 h6
    rw[h5]at h6
    cases h6
  ·refine⟨v0,by rw[g2];exact g3,λw' hs=>?_⟩
   obtain⟨es,clock,hb,hF,hD⟩:=hh w' hs
   rcases Maps.fit_look false (gR hk) ht (sj hz) hb hF hkey with⟨_,_,h3⟩|⟨e0,y,h0,h1,h2,h3,h4,_⟩
   ·exfalso
    have:=mx (z:= .bool false) hkok hlk
    have h5:=mx (z:= .bool true) hkok hlk
    rw[g1,hD]at this h5
    rw[h3]at this h5
    simp only[Option.getD_some,DataW.held.injEq]at this h5
    rw[←this]at h5;cases h5
   ·rw[h2]
    have:=mx (z:= .bool false) hkok hlk
    rw[g1,hD,h4]at this
    cases h3
    simp only[Option.getD_some,DataW.held.injEq]at this
    simp[this]
 obtain⟨u,hu,hr⟩:=key
 refine⟨u,hu,λw' hs=>?_⟩
 obtain⟨dst,op,ty,pos,after,guard⟩:=o
 simp only at hop;subst hop
 exact bz (by rw[hmv];exact hr w' hs)
theorem pl{w:World}{kid:TypeId}{b n':Nat}{kt:T}{lv:List (kt.D×Value)}(h:w.ownsMap P kid gS b n' (dat kt lv)):w.ownsMap P kid gS b lv.length (dat kt lv):=by
 obtain⟨es,clock,h1,h2,h3,h4⟩:=h
 refine⟨es,clock,h1,h2,?_,h4⟩
 have:=congrArg (λD=>match D with|DataW.map l=>l.length|_=>0) h4
 simp only[List.length_map,length_sorted,Array.length_toList]at this
 omega
theorem my{m x y:Operand}{z v:Value}{kid e mt:TypeId}{kt vt:T}{l:List (kt.D×vt.D)}{key:kt.D}{val:vt.D}{ty:TypeId}{pos:String}{after:Array Edge}(i:Nat)(hm:ev E m=some (.one (.raw z) v))(hx:ev E x=some (.one kt key))(hy:ev E y=some (.one vt val))(hi:L[i]? =some (Res.map P kid kt vt v l))(hk:dU P kt kid=true)(ht:P.underlying mt=some (.map kid e))
  (hroom:l.length<4611686018427387904) (g:Go F n E (L.set i (Res.map P kid kt vt v (dn kt key val l))) (wpList P ops Q rest)):Go F n E L (wpList P ops Q (⟨none,.mapUpdate mt m x y,ty,pos,after,none⟩::rest)):=λM a w c=>by
 obtain⟨b,lv,rfl,hown,hrel,hok⟩:=lT c.st hi
 have hmv:=(holds_raw.1 (aJ c hm)).1
 obtain⟨hkok,hkey⟩:=n9 hk (aJ c hx)
 have hlk:=hrel.koks hok
 have hrel':=hrel.put key (aJ c hy)
 obtain⟨es,clock,hb,hF,hsz,hD⟩:=hown
 obtain⟨es',clock',hrun,hF',hput,_⟩:=Maps.fit_store (R':=gS) (val:=a.eval y) (yv:=(.held (a.eval y),[])) (gR hk) ht hb hF (Nat.lt_of_le_of_lt hsz (by unfold maxLen;omega)) (λ_ _ _ _ hz=>hz) hkey rfl
 have hD':dat kt (dn kt key (a.eval y) lv)= .map ((es'.toList.map (WideElems.rg P kid gS)).foldr DataW.insert []):=by
  rw[←EN hkok hlk,hD,DataW.put_eq,hput]
 unfold wpList
 rw[if_pos (by simp[Region.wanted])]
 left
 unfold Oper.wp
 have he:(execOp a.eval ⟨none,.mapUpdate mt m x y,ty,pos,after,none⟩).run P w= .ok .skip (ChangeMaps.setBlock w b (.map es' clock')):=by
  simp only[execOp,ao,hmv,hrun,aG]
 rw[he,Oper.upon_skip]
 refine g M _ _ (c.same (Mem.le.refl _) (c.st.turn hi (B:=λk=>k=b) ?_ ?_ ?_ rfl rfl rfl (by simp[ChangeMaps.setBlock])))
 ·rintro S ⟨b',_,e1,hS,_⟩
  cases e1
  refine⟨b,dn kt key (a.eval y) lv,rfl,hS,?_,hrel',xX hkok (si hok)⟩
  have:(ChangeMaps.setBlock w b (.map es' clock')).ownsMap P kid gS b es'.size (dat kt (dn kt key (a.eval y) lv)):=⟨es',clock',ChangeMaps.heap_setBlock_same hb _,hF',Nat.le_refl _,hD'⟩
  have:=pl this
  rw[hrel'.len]at this;exact this
 ·rintro S ⟨b',_,e1,hS,_⟩ k rfl
  cases e1;exact(hS _).2 rfl
 ·intro k hk
  exact ChangeMaps.heap_setBlock_other hb _ hk
theorem ya{m x:Operand}{z v:Value}{kid e mt kx:TypeId}{kt vt:T}{l:List (kt.D×vt.D)}{key:kt.D}{ty:TypeId}{pos:String}{after:Array Edge}(i:Nat)(hm:ev E m=some (.one (.raw z) v))(hx:ev E x=some (.one kt key))(hi:L[i]? =some (Res.map P kid kt vt v l))(hk:dU P kt kid=true)(ht:P.underlying mt=some (.map kid e))
  (hkx:kx=kid) (g:Go F n E (L.set i (Res.map P kid kt vt v (cn kt key l))) (wpList P ops Q rest)):Go F n E L (wpList P ops Q (⟨none,.call ⟨.builtin .delete,#[m,x],#[mt,kx]⟩,ty,pos,after,none⟩::rest)):=λM a w c=>by
 subst hkx
 obtain⟨b,lv,rfl,hown,hrel,hok⟩:=lT c.st hi
 have hmv:=(holds_raw.1 (aJ c hm)).1
 obtain⟨hkok,hkey⟩:=n9 hk (aJ c hx)
 have hlk:=hrel.koks hok
 have hrel':=hrel.del key
 obtain⟨es,clock,hb,hF,hsz,hD⟩:=hown
 obtain⟨es',hrun,hF',hle,hdel,_⟩:=Maps.fit_drop (ty:=ty) (gR hk) ht hb hF hkey
 have hD':dat kt (cn kt key lv)= .map ((es'.toList.map (WideElems.rg P kx gS)).foldr DataW.insert []):=by
  rw[←Ao hkok hlk,hD,DataW.del_eq,hdel]
 unfold wpList
 rw[if_pos (by simp[Region.wanted])]
 left
 unfold Oper.wp
 have he:(execOp a.eval ⟨none,.call ⟨.builtin .delete,#[m,x],#[mt,kx]⟩,ty,pos,after,none⟩).run P w= .ok (.value (.tuple #[])) (ChangeMaps.setBlock w b (.map es' clock)):=by
  simp only[execOp,resolve,ao,aG,invoke,Go.builtin]
  have: #[m,x].map a.eval= #[a.eval m,a.eval x]:=by simp
  rw[this,hmv,hrun]
 rw[he,Oper.upon_value]
 refine g M _ _ (c.same (Mem.le.refl _) (c.st.turn hi (B:=λk=>k=b) ?_ ?_ ?_ rfl rfl rfl (by simp[ChangeMaps.setBlock])))
 ·rintro S ⟨b',_,e1,hS,_⟩
  cases e1
  refine⟨b,cn kt key lv,rfl,hS,?_,hrel',si hok⟩
  have:(ChangeMaps.setBlock w b (.map es' clock)).ownsMap P kx gS b es'.size (dat kt (cn kt key lv)):=⟨es',clock,ChangeMaps.heap_setBlock_same hb _,hF',Nat.le_refl _,hD'⟩
  have:=pl this
  rw[hrel'.len]at this;exact this
 ·rintro S ⟨b',_,e1,hS,_⟩ k rfl
  cases e1;exact(hS _).2 rfl
 ·intro k hk
  exact ChangeMaps.heap_setBlock_other hb _ hk
theorem yb(clock:Nat):MapKept.Stamped #[] clock:=by
 rw[MapKept.stamped_iff];simp
theorem Ap{m:Operand}{z v:Value}{kid e mt:TypeId}{kt vt:T}{l:List (kt.D×vt.D)}{ty:TypeId}{pos:String}{after:Array Edge}(i:Nat)(hm:ev E m=some (.one (.raw z) v))(hi:L[i]? =some (Res.map P kid kt vt v l))(ht:P.underlying mt=some (.map kid e))
  (g:Go F n E (L.set i (Res.map P kid kt vt v [])) (wpList P ops Q rest)):Go F n E L (wpList P ops Q (⟨none,.call ⟨.builtin .clear,#[m],#[mt]⟩,ty,pos,after,none⟩::rest)):=λM a w c=>by
 obtain⟨b,lv,rfl,hown,hrel,hok⟩:=lT c.st hi
 have hmv:=(holds_raw.1 (aJ c hm)).1
 obtain⟨es,clock,hb,hF,hsz,hD⟩:=hown
 unfold wpList
 rw[if_pos (by simp[Region.wanted])]
 left
 unfold Oper.wp
 have he:(execOp a.eval ⟨none,.call ⟨.builtin .clear,#[m],#[mt]⟩,ty,pos,after,none⟩).run P w= .ok (.value (.tuple #[])) (ChangeMaps.setBlock w b (.map #[] clock)):=by
  simp only[execOp,resolve,ao,aG,invoke,Go.builtin]
  have: #[m].map a.eval= #[a.eval m]:=by simp
  rw[this,hmv]
  simp[Builtin.clear_,ao,run_underlying ht,MapKept.run_getObj_map hb,MapKept.run_setObj_map _ hb,ChangeMaps.setBlock,aG]
 rw[he,Oper.upon_value]
 refine g M _ _ (c.same (Mem.le.refl _) (c.st.turn hi (B:=λk=>k=b) ?_ ?_ ?_ rfl rfl rfl (by simp[ChangeMaps.setBlock])))
 ·rintro S ⟨b',_,e1,hS,_⟩
  cases e1
  exact⟨b,[],rfl,hS,⟨#[],clock,ChangeMaps.heap_setBlock_same hb _,⟨by simp,yb clock,by simp⟩,Nat.le_refl _,rfl⟩,trivial,λp hp=>by cases hp⟩
 ·rintro S ⟨b',_,e1,hS,_⟩ k rfl
  cases e1;exact(hS _).2 rfl
 ·intro k hk
  exact ChangeMaps.heap_setBlock_other hb _ hk
theorem De{m:Operand}{z v:Value}{kid e mt:TypeId}{kt vt:T}{l:List (kt.D×vt.D)}(i:Nat)(hm:ev E m=some (.one (.raw z) v))(hi:L[i]? =some (Res.map P kid kt vt v l))(ht:P.underlying mt=some (.map kid e))(hl:l.length≤most):
  Yields Same P F n E L (.call ⟨.builtin .len,#[m],#[mt]⟩) (.one (.int .i64) l.length):=λo hop M a w c=>by
 obtain⟨b,lv,rfl,hown,hrel,hok⟩:=lT c.st hi
 have hmv:=(holds_raw.1 (aJ c hm)).1
 have hlt:=hown.lt
 obtain⟨es,clock,hb,hF,hsz,hD⟩:=hown
 have bU:es.size=l.length:=by
  have:=congrArg (λD=>match D with|DataW.map l=>l.length|_=>0) hD
  simp only[List.length_map,length_sorted,Array.length_toList,hrel.len]at this
  exact this.symm
 refine⟨.int .i64 l.length,holds_int.2 ⟨rfl,by simp only[rng,lo,Sx.hi,most]at*;omega⟩,λw' hs=>?_⟩
 obtain⟨dst,op,ty,pos,after,guard⟩:=o
 simp only at hop;subst hop
 simp only[execOp,resolve,ao,aG,invoke,Go.builtin]
 have: #[m].map a.eval= #[a.eval m]:=by simp
 have hb':w'.heap[b]? =some (.map es clock):=by rw[hs b hlt];exact hb
 rw[this,hmv]
 simp only[Builtin.len_,List.getElem?_toArray,List.getElem?_cons_zero,ao,run_underlying ht,MapKept.run_getObj_map hb',aG,goInt,bU]
end
end Sx
namespace Sx
open Go Go.Maps
def Res.iter(P:Program)(kid:TypeId)(kt vt:T)(v it:Value)(l:List (kt.D×vt.D))(todo:List kt.D)(cur:Option (kt.D×vt.D)):Res where
 sat M S w:=∃b r lv left cnt,v= .map (some b)∧it= .pointer (some ⟨r,0,none⟩)∧(∀k,S k↔(k=b∨k=r))∧w.ranges P kid gS b r l.length (dat kt lv) left cnt∧RelKV M lv l∧koks kt l∧
  todo.Nodup∧(∀k,kok kt k→(left (jo kt k)=true↔k∈todo))∧(∀k∈todo,kok kt k∧(aA kt k l).isSome)∧
  ∀p,cur=some p→∃kv xv,Holds kt M kv p.1∧Holds vt M xv p.2∧∀w':World,w'.heap[b]? =w.heap[b]?→w'.heap[r]? =w.heap[r]?→(Instr.entry it).run P w'= .ok (.tuple #[kv,xv]) w'
 mono h:=λ⟨b,r,lv,left,cnt,h1,h2,h3,h4,h5,h6,h7,h8,h9,h10⟩=>⟨b,r,lv,left,cnt,h1,h2,h3,h4,h5.mono h,h6,h7,h8,h9,λp hp=>let⟨kv,xv,a,c,d⟩:=h10 p hp;⟨kv,xv,a.mono h,c.mono h,d⟩⟩
 loc h:=λ⟨b,r,lv,left,cnt,h1,h2,h3,⟨es,clock,since,seen,c0,g1,g2,g3,g4,g5,g6⟩,h5,h6,h7,h8,h9,h10⟩=>by
  have eb:=h b ((h3 b).2 (.inl rfl))
  have er:=h r ((h3 r).2 (.inr rfl))
  exact⟨b,r,lv,left,cnt,h1,h2,h3,⟨es,clock,since,seen,c0,by rw[eb];exact g1,g2,g3,g4,by rw[er];exact g5,g6⟩,h5,h6,h7,h8,h9,λp hp=>
   let⟨kv,xv,a,c,d⟩:=h10 p hp;⟨kv,xv,a,c,λw' e1 e2=>d w' (by rw[e1,eb]) (by rw[e2,er])⟩⟩
 has:=λ⟨b,r,lv,left,cnt,_,_,h3,h4,_⟩ k hk=>by
  rcases(h3 k).1 hk with rfl|rfl
  ·exact h4.owns.lt
  ·exact h4.lt
theorem zG{P:Program}{b r:Nat}{since c0:Nat}{seen:Array Nat}{w w':World}{x:Value}(hr:w.heap[r]? =some (.mapIter (some b) since seen c0))(h:(Instr.entry (.pointer (some ⟨r,0,none⟩))).run P w= .ok x w)
  (e1:w'.heap[b]? =w.heap[b]?) (e2:w'.heap[r]? =w.heap[r]?):(Instr.entry (.pointer (some ⟨r,0,none⟩))).run P w'= .ok x w':=by
 unfold Instr.entry at h⊢
 simp only[ao,getObj,Sem.run,e2,hr]at h⊢
 cases hs:seen.back? with
 |none=>rw[hs]at h;simp only[stuck,Sem.run]at h;cases h
 |some stamp=>
  rw[hs]at h
  simp only[ao,Sem.run,e1]at h⊢
  cases hb:w.heap[b]? with
  |none=>rw[hb]at h;simp only at h;cases h
  |some o=>
   rw[hb]at h
   cases o<;>simp only at h⊢<;>first|(cases h;done)|skip
   rename_i es clock
   split at h
   ·simp only[unsupported,Sem.run,ao]at h;cases h
   ·rename_i hne
    rw[if_neg hne]
    cases hf:es.find? (λe=>e.born==stamp)with
    |none=>rw[hf]at h;simp only[unsupported,Sem.run,ao,aG]at h;cases h
    |some e=>
     rw[hf]at h
     simp only[aG,ao]at h⊢
     cases h
     rfl
theorem B3{P:Program}{kid:TypeId}{kt:T}{M:Mem}{key:Value}{x:kt.D}(hk:dU P kt kid=true)(hkok:kok kt x)(hkey:keyOf P kid key=some (jo kt x)):Holds kt M key x:=by
 cases kt
 case int q=>
  have h0:Holds (.int q) M (.int q x) x:=holds_int.2 ⟨rfl,hkok⟩
  rw[(gR hk).inj hkey (n9 hk h0).2];exact h0
 case str=>
  have h0:Holds .str M (.string (bs x)) x:=holds_str.2 ⟨rfl,hkok⟩
  rw[(gR hk).inj hkey (n9 hk h0).2];exact h0
 all_goals cases hk
theorem Sep.join2{M:Mem}{w:World}{R1 R2 R':Res}(h:∀S1 S2,R1.sat M S1 w→R2.sat M S2 w→R'.sat M (λk=>S1 k∨S2 k) w):∀{L:List Res} {i:Nat} {V:Nat→Prop},Sep M w (R1::L) V→L[i]? =some R2→Sep M w (L.set i R') V
 |[],i,_,_,hi=>by simp at hi
 |R::L,0,V,⟨S1,V1,r1,⟨S2,V2,r2,s,d2,e2⟩,d1,e1⟩,hi=>by
  simp only[List.getElem?_cons_zero,Option.some.injEq]at hi;subst hi
  refine⟨λk=>S1 k∨S2 k,V2,h _ _ r1 r2,s,?_,?_⟩
  ·rintro k (hk|hk)
   ·exactλhv=>d1 k hk ((e2 k).2 (.inr hv))
   ·exact d2 k hk
  ·intro k;rw[e1 k,e2 k];exact or_assoc.symm
 |R::L,i+1,V,hs,hi=>by
  have hs':Sep M w (R::R1::L) V:=Sep.perm (List.Perm.swap R R1 L) hs
  obtain⟨S,V',r,s,d,e⟩:=hs'
  exact⟨S,V',r,Sep.join2 h s (by simpa using hi),d,e⟩
def Res.block(b:Nat)(o:Obj):Res where
 sat _ S w:=(∀k,S k↔k=b)∧w.heap[b]? =some o
 mono _:=id
 loc h:=λ⟨h1,h2⟩=>⟨h1,by rw[h b ((h1 b).2 rfl)];exact h2⟩
 has:=λ⟨h1,h2⟩ k hk=>by obtain rfl:=(h1 k).1 hk;exact cH h2
section
variable {P:Program}{F:Fr}{n:Nat}{E E':Env}{L:List Res}{ops:Array Oper}{Q:Exit→Act→World→Prop}{rest:List Oper}
theorem qI{kt:T}{V:Type}{k:kt.D}:∀{l:List (kt.D×V)},(aA kt k l).isSome=l.any λp=>keq kt p.1 k
 |[]=>rfl
 |y::r=>by
  have:=qI (k:=k) (l:=r)
  simp only[aA,List.find?_cons,List.any_cons]at this⊢
  cases keq kt y.1 k with
  |true=>rfl
  |false=>simpa using this
theorem wQ{w:World}{kid:TypeId}{b n':Nat}{kt vt:T}{M:Mem}{lv:List (kt.D×Value)}{l:List (kt.D×vt.D)}(hk:dU P kt kid=true)(h:w.ownsMap P kid gS b n' (dat kt lv))(hr:RelKV M lv l)(ho:koks kt l):(l.map (·.1)).Nodup:=by
 obtain⟨es,he,hp,_⟩:=h.entries (gR hk)
 simp only[DataW.map.injEq]at he
 subst he
 rw[List.pairwise_map]at hp
 have:∀{lv:List (kt.D×Value)} {l:List (kt.D×vt.D)},RelKV M lv l→lv.Pairwise (λp q=>jo kt p.1≠jo kt q.1)→(l.map (·.1)).Nodup:=by
  intro lv
  induction lv with
  |nil=>intro l hr _;cases l with
   |nil=>exact List.nodup_nil
   |cons _ _=>exact hr.elim
  |cons p r ih=>
   intro l hr hp
   cases l with
   |nil=>exact hr.elim
   |cons q s=>
    obtain⟨h1,h2,h3⟩:=hr
    obtain⟨g1,g2⟩:=List.pairwise_cons.1 hp
    rw[List.map_cons,List.nodup_cons]
    refine⟨λhm=>?_,ih h3 g2⟩
    obtain⟨x,hx,e⟩:=List.mem_map.1 hm
    have:∀{r:List (kt.D×Value)} {s:List (kt.D×vt.D)},RelKV M r s→∀x∈s,∃y∈r,y.1=x.1:=by
     intro r
     induction r with
     |nil=>intro s hr x hx;cases s with
      |nil=>cases hx
      |cons _ _=>exact hr.elim
     |cons a r ih2=>
      intro s hr x hx
      cases s with
      |nil=>exact hr.elim
      |cons c s=>
       rcases List.mem_cons.1 hx with rfl|hx
       ·exact⟨a,by simp,hr.1⟩
       ·obtain⟨y,hy,e⟩:=ih2 hr.2.2 x hx
        exact⟨y,by simp[hy],e⟩
    obtain⟨y,hy,ey⟩:=this h3 x hx
    exact g1 y hy (by rw[h1,ey,e])
 exact this hr hp
theorem wk{m:Operand}{z v:Value}{kid e mt:TypeId}{kt vt:T}{l:List (kt.D×vt.D)}{d:Nat}{ty:TypeId}{pos:String}{after:Array Edge}(i:Nat)(hm:ev E m=some (.one (.raw z) v))(hi:L[i]? =some (Res.map P kid kt vt v l))(hk:dU P kt kid=true)(ht:P.underlying mt=some (.map kid e))(hd:Nat.ble (d+1) n=true)
  (g:∀it,(l.map (·.1)).Nodup→koks kt l→Go F n ((d,.one (.raw (.pointer none)) it)::E) (L.set i (Res.iter P kid kt vt v it l (l.map (·.1)) none)) (wpList P ops Q rest)):Go F n E L (wpList P ops Q (⟨some d,.range mt m,ty,pos,after,none⟩::rest)):=λM a w c=>by
 obtain⟨b,lv,rfl,hown,hrel,hok⟩:=lT c.st hi
 have hmv:=(holds_raw.1 (aJ c hm)).1
 have hnd:=wQ hk hown hrel hok
 have hlt:=hown.lt
 have hown0:=hown
 obtain⟨es,clock,hb,hF,hsz,hD⟩:=hown
 have hrange:=World.ownsMap.range (t:=mt) (e:=e) hown0 (gR hk) ht
 have hrun0:=run_range_map (P:=P) w mt kid e b es clock ht hb
 obtain⟨w',hrun,hranges,hg,hsize⟩:=hrange
 have hww:w'=w.alloc (.mapIter (some b) clock #[] clock):=by
  rw[hrun0]at hrun;cases hrun;rfl
 subst hww
 have he:(execOp a.eval ⟨some d,.range mt m,ty,pos,after,none⟩).run P w= .ok (.value (.pointer (some ⟨w.heap.size,0,none⟩))) (w.alloc (.mapIter (some b) clock #[] clock)):=by
  have:(Instr.range mt (a.eval m)).run P w= .ok (.pointer (some ⟨w.heap.size,0,none⟩)) (w.alloc (.mapIter (some b) clock #[] clock)):=by rw[hmv];exact hrun
  exact bz this
 have hfacts:(∀k,kok kt k→(Maps.has (dat kt lv) (jo kt k)=true↔k∈l.map (·.1)))∧∀k∈l.map (·.1),kok kt k∧(aA kt k l).isSome:=by
  have hlk:=hrel.koks hok
  have mem:∀k,kok kt k→((aA kt k l).isSome=true↔k∈l.map (·.1)):=λk hkk=>by
   rw[qI,List.any_eq_true]
   constructor
   ·rintro⟨p,hp,he⟩;exact List.mem_map.2 ⟨p,hp,(nh (hok p hp)).1 he⟩
   ·intro h;obtain⟨p,hp,e⟩:=List.mem_map.1 h;exact⟨p,hp,(nh (hok p hp)).2 e⟩
  have same:∀k,(aA kt k lv).isSome=(aA kt k l).isSome:=λk=>by
   rcases hrel.get k with⟨a1,a2⟩|⟨_,_,a1,a2,_⟩<;>rw[a1,a2]<;>rfl
  refine⟨λk hkk=>by rw[wj hkk hlk,same,mem k hkk],λk hk'=>?_⟩
  obtain⟨p,hp,rfl⟩:=List.mem_map.1 hk'
  exact⟨hok p hp,(mem _ (hok p hp)).2 (List.mem_map.2 ⟨p,hp,rfl⟩)⟩
 refine dG (d:=d) rfl (by simp[Region.wanted]) he (g _ hnd hok M _ _ (c.put (Mem.le.refl _) ?_ (Nat.le_of_ble_eq_true hd) (holds_raw.2 ⟨rfl,rfl⟩)))
 have hst:St F M (w.alloc (.mapIter (some b) clock #[] clock)) (Res.block w.heap.size (.mapIter (some b) clock #[] clock)::L):=c.st.new ⟨λk=>Iff.rfl,by simp⟩
 refine hst.sep_to λV hs=>Sep.join2 ?_ hs hi
 rintro S1 S2 ⟨hS1,_⟩ ⟨b',lv',e1,hS2,hown',hrel',hok'⟩
 cases e1
 refine⟨b,w.heap.size,lv,_,_,rfl,rfl,λk=>by show S1 k∨S2 k↔_;rw[hS1 k,hS2 k];exact or_comm,hranges,hrel,hok,hnd,hfacts.1,hfacts.2,λp hp=>by cases hp⟩
theorem Aq{α:Type}{A B:List α}{x k:α}(h:k∈A++B):k∈A++x::B:=by
 rcases List.mem_append.1 h with h|h
 ·exact List.mem_append_left _ h
 ·exact List.mem_append_right _ (List.mem_cons_of_mem _ h)
theorem A7{α:Type}{A B:List α}{x k:α}(h:k∈A++x::B)(hne:k≠x):k∈A++B:=by
 rcases List.mem_append.1 h with h|h
 ·exact List.mem_append_left _ h
 ·rcases List.mem_cons.1 h with h|h
  ·exact absurd h hne
  ·exact List.mem_append_right _ h
theorem B4{x:Operand}{z v it:Value}{kid:TypeId}{kt vt:T}{l:List (kt.D×vt.D)}{todo:List kt.D}{cur:Option (kt.D×vt.D)}{d:Nat}{ty:TypeId}{pos:String}{after:Array Edge}(i:Nat)(hx:ev E x=some (.one (.raw z) it))(hi:L[i]? =some (Res.iter P kid kt vt v it l todo cur))(hk:dU P kt kid=true)(hd:Nat.ble (d+1) n=true)
  (hend:todo=[]→Go F n ((d,.tup [⟨.bool,false⟩])::E) L (wpList P ops Q rest))
  (hone:∀k y A B,todo=A++k::B→aA kt k l=some y→kok kt k→Go F n ((d,.tup [⟨.bool,true⟩,⟨kt,k⟩,⟨vt,y⟩])::E) (L.set i (Res.iter P kid kt vt v it l (A++B) (some (k,y)))) (wpList P ops Q rest)):
  Go F n E L (wpList P ops Q (⟨some d,.next x false,ty,pos,after,none⟩::rest)):=λM a w c=>by
 obtain⟨S,b,r,lv,left,cnt,rfl,rfl,hS,hran,hrel,hok,hnd,hleft,htodo,hcur⟩:=c.st.res hi
 have hxv:=(holds_raw.1 (aJ c hx)).1
 have hlk:=hrel.koks hok
 have hne:=hran.ne
 have hrl:=hran.lt
 have hbl:=hran.owns.lt
 rcases hran.next (gR hk) ty with⟨_,hnone,hrun⟩|⟨key,val,kl,y,w',cnt',hkey,hl,hRv,hat,hrun,hran',hlt,hg,hsz,hentry⟩
 ·have he:(execOp a.eval ⟨some d,.next x false,ty,pos,after,none⟩).run P w= .ok (.value (.tuple #[.bool false])) w:=bz (by rw[hxv];exact hrun)
  have ht:todo=[]:=List.eq_nil_iff_forall_not_mem.2 λk hk'=>by
   have:=(hleft k (htodo k hk').1).2 hk'
   rw[hnone]at this;cases this
  exact dG (d:=d) rfl (by simp[Region.wanted]) he (hend ht M _ _ (c.put (Mem.le.refl _) c.st (Nat.le_of_ble_eq_true hd) ⟨[.bool false],rfl,.cons (holds_bool.2 rfl) .nil⟩))
 ·have he:(execOp a.eval ⟨some d,.next x false,ty,pos,after,none⟩).run P w= .ok (.value (.tuple #[.bool true,key,val])) w':=bz (by rw[hxv];exact hrun)
  cases hRv
  have hex:∃p∈l,jo kt p.1=kl∧∃q∈lv,q.1=p.1:=by
   obtain⟨es,clock,since,seen,c0,hb,hF,hs0,hD,hr,_,_,_,hl2,_⟩:=hran
   obtain⟨e0,he0,ek⟩:=hl2 kl hl
   have hm:WideElems.rg P kid gS e0∈lv.map λp=>(jo kt p.1,DataW.held p.2):=by
    have:WideElems.rg P kid gS e0∈(es.toList.map (WideElems.rg P kid gS)).foldr DataW.insert []:=mem_sorted.2 (List.mem_map.2 ⟨e0,he0,rfl⟩)
    simp only[DataW.map.injEq]at hD
    rw[←hD]at this;exact this
   obtain⟨q,hq,eq⟩:=List.mem_map.1 hm
   have key2:∀{lv:List (kt.D×Value)} {l:List (kt.D×vt.D)},RelKV M lv l→∀q∈lv,∃p∈l,p.1=q.1:=by
    intro lv
    induction lv with
    |nil=>intro l _ q hq;cases hq
    |cons a r ih=>
     intro l hr q hq
     cases l with
     |nil=>exact hr.elim
     |cons c s=>
      rcases List.mem_cons.1 hq with rfl|hq
      ·exact⟨c,by simp,hr.1.symm⟩
      ·obtain⟨p,hp,e⟩:=ih hr.2.2 q hq
       exact⟨p,by simp[hp],e⟩
   obtain⟨p,hp,e⟩:=key2 hrel q hq
   refine⟨p,hp,?_,q,hq,e.symm⟩
   rw[e,←ek,←eq]
  obtain⟨p,hp,hpk,_⟩:=hex
  have hkok:kok kt p.1:=hok p hp
  subst hpk
  have hin:p.1∈todo:=(hleft p.1 hkok).1 hl
  obtain⟨A,B,hAB⟩:=List.append_of_mem hin
  obtain⟨v0,x0,hg1,hg2,hh⟩:∃v x,aA kt p.1 lv=some v∧aA kt p.1 l=some x∧Holds vt M v x:=by
   rcases hrel.get p.1 with⟨_,g2⟩|h
   ·have:=(htodo p.1 hin).2
    rw[g2]at this;cases this
   ·exact h
  have hv0:v0=val:=by
   have h1:=hat (.held (.bool false))
   rw[mx hkok hlk,hg1]at h1
   simpa using h1
  subst hv0
  have hkv:Holds kt M key p.1:=B3 hk hkok hkey
  have hst':St F M w' (L.set i (Res.iter P kid kt vt (.map (some b)) (.pointer (some ⟨r,0,none⟩)) l (A++B) (some (p.1,x0)))):=by
   refine c.st.turn hi (B:=λk=>k=r) ?_ ?_ ?_ hg.os hg.tape hg.output hg.size
   ·rintro S' ⟨b',r',lv',left',cnt2,e1,e2,hS',_⟩
    cases e1;cases e2
    have hnd2:(A++p.1::B).Nodup:=hAB▸hnd
    have hnd3:(p.1::(A++B)).Nodup:=(List.perm_middle.nodup_iff).1 hnd2
    refine⟨b,r,lv,_,cnt',rfl,rfl,hS',hran',hrel,hok,(List.nodup_cons.1 hnd3).2,λk hkk=>?_,λk hk'=>htodo k (by rw[hAB];exact Aq hk'),?_⟩
    ·simp only[Bool.and_eq_true,Bool.not_eq_true',hleft k hkk,qu hkk hkok]
     rw[hAB]
     constructor
     ·rintro⟨h1,h2⟩
      have hne2:k≠p.1:=λe=>by rw[(nh hkk).2 e]at h2;cases h2
      exact A7 h1 hne2
     ·intro h1
      refine⟨Aq h1,?_⟩
      cases hq:keq kt k p.1 with
      |false=>rfl
      |true=>
       have:=(nh hkk).1 hq
       subst this
       exact absurd h1 (List.nodup_cons.1 hnd3).1
    ·rintro q hq
     cases hq
     obtain⟨_,_,since,seen,c0,_,_,_,_,hr',_⟩:=hran'
     exact⟨key,v0,hkv,hh,λw2 f1 f2=>zG hr' hentry f1 f2⟩
   ·rintro S' ⟨b',r',lv',left',cnt2,e1,e2,hS',_⟩ k rfl
    cases e1;cases e2;exact(hS' _).2 (.inr rfl)
   ·intro k hk'
    rcases Nat.lt_or_ge k w.heap.size with h|h
    ·exact hg.block k h (λe1=>hk' (by cases e1;rfl))
    ·rw[Array.getElem?_eq_none (by omega),Array.getElem?_eq_none h]
  exact dG (d:=d) rfl (by simp[Region.wanted]) he (hone p.1 x0 A B hAB hg2 hkok M _ _ (c.put (Mem.le.refl _) hst' (Nat.le_of_ble_eq_true hd) ⟨[.bool true,key,v0],rfl,.cons (holds_bool.2 rfl) (.cons hkv (.cons hh .nil))⟩))
theorem Ar{x:Operand}{z v it:Value}{kid:TypeId}{kt vt:T}{l:List (kt.D×vt.D)}{todo:List kt.D}{k:kt.D}{y:vt.D}(i:Nat)(hx:ev E x=some (.one (.raw z) it))(hi:L[i]? =some (Res.iter P kid kt vt v it l todo (some (k,y)))):
  Yields Same P F n E L (.entry x) (.tup [⟨kt,k⟩,⟨vt,y⟩]):=λo hop M a w c=>by
 obtain⟨S,b,r,lv,left,cnt,rfl,rfl,hS,hran,hrel,hok,hnd,hleft,htodo,hcur⟩:=c.st.res hi
 have hxv:=(holds_raw.1 (aJ c hx)).1
 obtain⟨kv,xv,h1,h2,h3⟩:=hcur _ rfl
 refine⟨.tuple #[kv,xv],⟨[kv,xv],rfl,.cons h1 (.cons h2 .nil)⟩,λw' hs=>?_⟩
 obtain⟨dst,op,ty,pos,after,guard⟩:=o
 simp only at hop;subst hop
 exact bz (by rw[hxv];exact h3 w' (hs b hran.owns.lt) (hs r hran.lt))
theorem tB{X:Act→World→Prop}{v it:Value}{kid:TypeId}{kt vt:T}{l:List (kt.D×vt.D)}{todo:List kt.D}{cur:Option (kt.D×vt.D)}(i:Nat)(hi:L[i]? =some (Res.iter P kid kt vt v it l todo cur))(g:Go F n E (L.set i (Res.map P kid kt vt v l)) X):Go F n E L X:=λM a w c=>by
 have key:∀{L:List Res} {i:Nat} {V:Nat→Prop},Sep M w L V→L[i]? =some (Res.iter P kid kt vt v it l todo cur)→∃V',Sep M w (L.set i (Res.map P kid kt vt v l)) V'∧∀k,V' k→V k:=by
  intro L
  induction L with
  |nil=>intro i V _ hi;simp at hi
  |cons R L ih=>
   rintro i V ⟨S,V',r0,s,d,e⟩ hi
   cases i with
   |zero=>
    simp only[List.getElem?_cons_zero,Option.some.injEq]at hi;subst hi
    obtain⟨b,r,lv,left,cnt,rfl,rfl,hS,hran,hrel,hok,_⟩:=r0
    refine⟨λk=>k=b∨V' k,⟨λk=>k=b,V',⟨b,lv,rfl,λk=>Iff.rfl,hran.owns,hrel,hok⟩,s,?_,λ_=>Iff.rfl⟩,?_⟩
    ·rintro k rfl;exact d _ ((hS _).2 (.inl rfl))
    ·rintro k (rfl|h)
     ·exact(e _).2 (.inl ((hS _).2 (.inl rfl)))
     ·exact(e k).2 (.inr h)
   |succ i=>
    obtain⟨W,s',hW⟩:=ih s (by simpa using hi)
    exact⟨λk=>S k∨W k,⟨S,W,r0,s',λk hk hw=>d k hk (hW k hw),λ_=>Iff.rfl⟩,λk hk=>(e k).2 (hk.imp id (hW k))⟩
 obtain⟨V,s,d⟩:=c.st.sep
 obtain⟨W,s',hW⟩:=key s hi
 exact g M a w {c with st:={c.st with sep:=⟨W,s',λk hk=>d k (hW k hk)⟩}}
def Ei(F:Fr)(n:Nat){σ:Type}(S:σ→Env)(R:σ→List Res)(μ:σ→Nat)(m:Nat)(a:Act)(w:World):Prop:=∃s' M,μ s'<m∧Cfg F M n (S s') (R s') a w
theorem EO{σ:Type}{c1:Code}(S:σ→Env)(R:σ→List Res)(μ:σ→Nat)(s:σ)(hE:E=S s)(hL:L=R s)
  (round:∀s,Go F n (S s) (R s) (c1.wp P (Exit.then (Ei F n S R μ (μ s)) Q))):Go F n E L ((Code.loop c1).wp P Q):=by
 intro M a w c
 refine nv (λm a w=>∃s' M,μ s'=m∧Cfg F M n (S s') (R s') a w) ?_ (m:=μ s) ⟨s,M,rfl,by subst hE;subst hL;exact c⟩
 rintro m a w ⟨s',M',rfl,c'⟩
 refine wp_mono (round s' M' a w c') ?_
 intro e a w q
 cases e<;>first|exact q|skip
 obtain⟨s'',M'',h1,h2⟩:=q
 exact⟨μ s'',h1,s'',M'',rfl,h2⟩
theorem EP{σ:Type}{S:σ→Env}{R:σ→List Res}{μ:σ→Nat}{m:Nat}(s:σ)(hlt:μ s<m)(hE:E=S s)(hL:L=R s):Go F n E L (Ei F n S R μ m):=λM a w c=>⟨s,M,hlt,by subst hE;subst hL;exact c⟩
end
def cu{K V W:Type}(f:V→W)(l:List (K×V)):List (K×W):=l.map λe=>(e.1,f e.2)
theorem yc{kt:T}{V W:Type}(f:V→W)(k:kt.D)(v:V):∀(l:List (kt.D×V)),cu f (cP kt k v l)=cP kt k (f v) (cu f l)
 |[]=>rfl
 |y::r=>by
  have ih:=yc f k v r
  simp only[cu,cP,List.map_cons]at ih⊢
  split
  ·rfl
  ·rw[List.map_cons,ih]
theorem pW{kt:T}{V W:Type}(f:V→W)(k:kt.D)(l:List (kt.D×V)):cu f (cn kt k l)=cn kt k (cu f l):=by
 simp only[cu,cn,List.filter_map];rfl
theorem uU{kt:T}{V W:Type}(f:V→W)(k:kt.D)(v:V)(l:List (kt.D×V)):cu f (dn kt k v l)=dn kt k (f v) (cu f l):=by
 rw[dn,dn,yc,pW]
theorem gu{kt:T}{V W:Type}(f:V→W)(k:kt.D):∀(l:List (kt.D×V)),aA kt k (cu f l)=(aA kt k l).map f
 |[]=>rfl
 |y::r=>by
  have ih:=gu f k r
  simp only[cu,aA,List.map_cons,List.find?_cons]at ih⊢
  cases keq kt y.1 k with
  |true=>rfl
  |false=>exact ih
theorem jf{K V W:Type}(f:V→W)(l:List (K×V)):(cu f l).map (·.1)=l.map (·.1):=by simp[cu]
theorem pmap_koks{kt:T}{V W:Type}{f:V→W}{l:List (kt.D×V)}:koks kt (cu f l)↔koks kt l:=by
 simp only[koks,cu,List.mem_map]
 exact⟨λh p hp=>h _ ⟨p,hp,rfl⟩,λh p ⟨q,hq,e⟩=>by rw[←e];exact h q hq⟩
theorem nz{kt:T}{V:Type}{k:kt.D}{y:V}:∀{l:List (kt.D×V)},koks kt l→(l.map (·.1)).Nodup→aA kt k l=some y→∃A B,l=A++(k,y)::B∧cn kt k l=A++B
 |[],_,_,h=>by simp[aA]at h
 |p::r,ho,hn,h=>by
  have hp:=ho p (by simp)
  rw[List.map_cons,List.nodup_cons]at hn
  simp only[aA,List.find?_cons]at h
  cases hq:keq kt p.1 k with
  |true=>
   rw[hq]at h
   simp only[Option.map_some,Option.some.injEq]at h
   have e:=(nh hp).1 hq
   refine⟨[],r,by rw[←e,←h];rfl,?_⟩
   have:cn kt k r=r:=by
    simp only[cn,List.filter_eq_self]
    intro q hq2
    cases hk:keq kt q.1 k with
    |false=>rfl
    |true=>
     have:=(nh (ho q (by simp[hq2]))).1 hk
     exact absurd (List.mem_map.2 ⟨q,hq2,this.trans e.symm⟩) hn.1
   simp only[cn,List.filter_cons,hq,Bool.not_true,Bool.false_eq_true,if_false,List.nil_append]at this⊢
   exact this
  |false=>
   rw[hq]at h
   obtain⟨A,B,e1,e2⟩:=nz (k:=k) (l:=r) (λq hq=>ho q (by simp[hq])) hn.2 h
   refine⟨p::A,B,by rw[e1];rfl,?_⟩
   simp only[cn,List.filter_cons,hq,Bool.not_false,if_true]at e2⊢
   rw[e2];rfl
def cm(kt:T){V:Type}(k:kt.D)(v:V)(l:List (kt.D×V)):List (kt.D×V):=l.map λp=>if keq kt p.1 k=true then(p.1,v)else p
theorem ye{kt:T}{V W:Type}(f:V→W)(k:kt.D)(v:V)(l:List (kt.D×V)):cu f (cm kt k v l)=cm kt k (f v) (cu f l):=by
 simp only[cu,cm,List.map_map]
 apply List.map_congr_left
 intro p _
 simp only[Function.comp]
 split<;>rfl
theorem wR{kt:T}{V:Type}{k:kt.D}{y:V}{A B l:List (kt.D×V)}(ho:koks kt l)(hn:(l.map (·.1)).Nodup)(h:l=A++(k,y)::B):(∀p∈A,keq kt p.1 k=false)∧∀p∈B,keq kt p.1 k=false:=by
 subst h
 rw[List.map_append,List.map_cons]at hn
 have hn':=(List.perm_middle.nodup_iff).1 hn
 rw[List.nodup_cons,←List.map_append]at hn'
 have key:∀p∈A++B,keq kt p.1 k=false:=λp hp=>by
  cases hk:keq kt p.1 k with
  |false=>rfl
  |true=>
   have hpo:kok kt p.1:=ho p (by rcases List.mem_append.1 hp with h|h<;>simp[h])
   exact absurd (List.mem_map.2 ⟨p,hp,(nh hpo).1 hk⟩) hn'.1
 exact⟨λp hp=>key p (by simp[hp]),λp hp=>key p (by simp[hp])⟩
theorem sk{kt:T}{k:kt.D}(h:kok kt k):keq kt k k=true:=(nh h).2 rfl
theorem sn{kt:T}{V:Type}{k:kt.D}{y v:V}{A B l:List (kt.D×V)}(ho:koks kt l)(hn:(l.map (·.1)).Nodup)(h:l=A++(k,y)::B):cm kt k v l=A++(k,v)::B:=by
 obtain⟨h1,h2⟩:=wR ho hn h
 have hk:kok kt k:=ho (k,y) (by rw[h];simp)
 subst h
 simp only[cm,List.map_append,List.map_cons,sk hk,if_true]
 congr 1
 ·conv=>rhs;rw[←List.map_id A]
  exact List.map_congr_left λp hp=>by simp[h1 p hp]
 ·congr 1
  conv=>rhs;rw[←List.map_id B]
  exact List.map_congr_left λp hp=>by simp[h2 p hp]
theorem Df{kt:T}{V:Type}{k:kt.D}{y v:V}{A B l:List (kt.D×V)}(ho:koks kt l)(hn:(l.map (·.1)).Nodup)(h:l=A++(k,y)::B):aA kt k (A++(k,v)::B)=some v:=by
 obtain⟨h1,h2⟩:=wR ho hn h
 have hk:kok kt k:=ho (k,y) (by rw[h];simp)
 unfold aA
 rw[List.find?_append,List.find?_eq_none.2 (λp hp=>by simp[h1 p hp]),Option.none_or,List.find?_cons,sk hk]
 rfl
theorem wS{kt:T}{V:Type}(k:kt.D)(v:V):∀(l:List (kt.D×V)),(cP kt k v l).Perm ((k,v)::l)
 |[]=> .refl _
 |y::r=>by
  simp only[cP]
  split
  ·exact .refl _
  ·exact((wS k v r).cons y).trans (.swap _ _ _)
theorem B5{kt:T}{V:Type}(k:kt.D)(v:V)(l:List (kt.D×V)):(dn kt k v l).Perm ((k,v)::cn kt k l):=wS k v _
theorem yf{kt:T}{V:Type}{k:kt.D}{v:V}(hk:kok kt k):∀{l:List (kt.D×V)},koks kt l→aA kt k l=none→aA kt k (cP kt k v l)=some v
 |[],_,_=>by simp[aA,cP,sk hk]
 |p::r,ho,h=>by
  have hp:keq kt p.1 k=false:=by
   cases hq:keq kt p.1 k with
   |false=>rfl
   |true=>simp[aA,List.find?_cons,hq]at h
  have h2:aA kt k r=none:=by simpa [aA,List.find?_cons,hp]using h
  simp only[cP]
  split
  ·simp[aA,sk hk]
  ·have:=yf (v:=v) hk (l:=r) (λq hq=>ho q (by simp[hq])) h2
   simpa [aA,List.find?_cons,hp]using this
theorem pm{kt:T}{V:Type}{k:kt.D}(l:List (kt.D×V)):aA kt k (cn kt k l)=none:=by
 unfold aA cn
 rw[List.find?_eq_none.2 (λp hp=>by simpa using (List.mem_filter.1 hp).2)];rfl
theorem Dg{kt:T}{V:Type}{k:kt.D}{v:V}{l:List (kt.D×V)}(hk:kok kt k)(ho:koks kt (cn kt k l)):aA kt k (dn kt k v l)=some v:=yf hk ho (pm l)
theorem tC{kt:T}{V:Type}{k:kt.D}:∀{l:List (kt.D×V)},aA kt k l=none→cn kt k l=l
 |[],_=>rfl
 |p::r,h=>by
  simp only[aA,List.find?_cons]at h
  cases hq:keq kt p.1 k with
  |true=>rw[hq]at h;simp at h
  |false=>
   rw[hq]at h
   have:=tC (k:=k) (l:=r) h
   simp only[cn,List.filter_cons,hq,Bool.not_false,if_true]at this⊢
   rw[this]
abbrev aF:=List Int×List Int×List Int
abbrev aB:=Int×List (List Int×aF)×Int×Int×Int×Bool×Bool
structure DI where
 disk:TypeId
 file:TypeId
 str:TypeId
 int:TypeId
 byte:TypeId
@[reducible] def FT:T:= .pair (.raw (.slice none 0 0)) (.pair (.raw (.slice none 0 0)) (.pair (.raw (.map none)) .unit))
@[reducible] def DT:T:= .pair (.int .i64) (.pair (.raw (.map none)) (.pair (.int .i64) (.pair (.int .i64) (.pair (.int .i64) (.pair .bool (.pair .bool .unit))))))
abbrev NV:Value:= .pointer none
section
variable (P:Program)(I:DI)
def Res.dirty(v:Value)(keys:List Int):Res:=Res.ex λ(l:List (Int×Int))=>Res.all [Res.fact (l.map (·.1)=keys),Res.map P I.int (.int .i64) (.int .i64) v l]
def Res.file(p:Value)(f:aF):Res:=Res.ex λ(g:Nat×Value×Value×Value)=>Res.all [Res.fact (p= .pointer (some ⟨g.1,0,none⟩)),Res.var g.1 I.file FT (g.2.1,g.2.2.1,g.2.2.2,()),
 Res.own g.2.1 I.byte (.int .u8) f.1,Res.own g.2.2.1 I.byte (.int .u8) f.2.1,Res.dirty P I g.2.2.2 f.2.2]
def Res.files(es:List (List Int×Value×aF)):Res:=Res.all (es.map λe=>Res.file P I e.2.1 e.2.2)
def Res.dmap(mv:Value)(es:List (List Int×Value×aF)):Res:=Res.map P I.str .str (.raw NV) mv (cu (λy=>y.1) es)
end
section
variable {P:Program}{I:DI}{F:Fr}{n:Nat}{E:Env}{L:List Res}{X:Act→World→Prop}
theorem vA{mv:Value}{es:List (List Int×Value×aF)}(hk:dU P .str I.str=true)(i:Nat)(hi:L[i]? =some (Res.dmap P I mv es))(g:koks .str es→(es.map (·.1)).Nodup→Go F n E L X):Go F n E L X:=λM a w c=>by
 obtain⟨b,lv,rfl,hown,hrel,hok⟩:=lT c.st hi
 have hnd:=wQ hk hown hrel hok
 rw[jf]at hnd
 exact g (pmap_koks.1 hok) hnd M a w c
theorem Sep.all_perm{M:Mem}{w:World}{A B:List Res}(p:A.Perm B){S:Nat→Prop}(h:(Res.all A).sat M S w):(Res.all B).sat M S w:=Sep.perm p h
theorem wl{es:List (List Int×Value×aF)}{name:List Int}{p:Value}{f:aF}(ho:koks .str es)(hn:(es.map (·.1)).Nodup)(hg:aA .str name es=some (p,f))
  (g:Go F n E (Res.file P I p f::Res.files P I (cn .str name es)::L) X):Go F n E (Res.files P I es::L) X:=by
 obtain⟨A,B,e1,e2⟩:=nz ho hn hg
 refine Eh (R':=Res.all (Res.file P I p f::(cn .str name es).map λe=>Res.file P I e.2.1 e.2.2)) (λM S w h=>?_) ?_
 ·have h':(Res.all (es.map λe=>Res.file P I e.2.1 e.2.2)).sat M S w:=h
  refine Sep.all_perm ?_ h'
  rw[e2]
  rw[e1]
  simp only[List.map_append,List.map_cons]
  exact List.perm_middle
 ·refine ez ?_
  show Go F n E (Res.file P I p f::((cn .str name es).map (λe=>Res.file P I e.2.1 e.2.2)++L)) X
  intro M a w c
  refine g M a w {c with st:=c.st.sep_to λV ⟨S,V',r,s,d,e⟩=>⟨S,V',r,Sep.all_of s,d,e⟩}
end
def oc(es:List (List Int×Value×aF))(name:List Int):Value:=(aA .str name (cu (λy=>y.1) es)).getD NV
section
variable (P:Program)(I:DI)
def Res.dfiles(mv:Value)(fs:List (List Int×aF)):Res:=Res.ex λ(es:List (List Int×Value×aF))=>Res.all [Res.fact (fs=cu (λy=>y.2) es),Res.dmap P I mv es,Res.files P I es]
def Res.dat(mv:Value)(fs:List (List Int×aF))(name:List Int)(q:Value):Res:=Res.ex λ(es:List (List Int×Value×aF))=>
 Res.all [Res.fact (fs=cu (λy=>y.2) es∧oc es name=q),Res.dmap P I mv es,Res.files P I es]
def Res.dhole(mv:Value)(fs:List (List Int×aF))(name:List Int)(q:Value):Res:=Res.ex λ(es:List (List Int×Value×aF))=>
 Res.all [Res.fact (fs=cu (λy=>y.2) es∧oc es name=q∧(aA .str name es).isSome),Res.dmap P I mv es,Res.files P I (cn .str name es)]
def Res.dfound(mv:Value)(fs:List (List Int×aF))(name:List Int)(q:Value)(e:Int):Res:=if e=0 then Res.dat P I mv fs name q else Res.dfiles P I mv fs
end
section
variable {P:Program}{I:DI}{Tb:Tab}{F:Fr}{n:Nat}{E E':Env}{L:List Res}{X:Act→World→Prop}{ops:Array Oper}{Q:Exit→Act→World→Prop}{rest:List Oper}
theorem cp{mv:Value}{fs:List (List Int×aF)}{name:List Int}{q:Value}:∀M S w,(Res.dat P I mv fs name q).sat M S w→(Res.dfiles P I mv fs).sat M S w:=λM S w ⟨es,A,B,⟨⟨h1,_⟩,h2⟩,h3⟩=>⟨es,A,B,⟨h1,h2⟩,h3⟩
theorem fp{mv:Value}{fs:List (List Int×aF)}{name:List Int}{q:Value}{e:Int}:∀M S w,(Res.dfound P I mv fs name q e).sat M S w→(Res.dfiles P I mv fs).sat M S w:=λM S w h=>by
 unfold Res.dfound at h
 split at h
 ·exact cp M S w h
 ·exact h
theorem Sep.imp_at{M:Mem}{w:World}{R R':Res}(h:∀S,R.sat M S w→R'.sat M S w):∀{L:List Res} {i:Nat} {V:Nat→Prop},Sep M w L V→L[i]? =some R→Sep M w (L.set i R') V
 |[],i,_,_,hi=>by simp at hi
 |R0::L,0,V,⟨S,V',r,s,d,e⟩,hi=>by
  simp only[List.getElem?_cons_zero,Option.some.injEq]at hi;subst hi
  exact⟨S,V',h S r,s,d,e⟩
 |R0::L,i+1,V,⟨S,V',r,s,d,e⟩,hi=>⟨S,V',r,Sep.imp_at h s (by simpa using hi),d,e⟩
theorem aw{R R':Res}(i:Nat)(hi:L[i]? =some R)(h:∀M S w,R.sat M S w→R'.sat M S w)(g:Go F n E (L.set i R') X):Go F n E L X:=λM a w c=>
 g M a w {c with st:=c.st.sep_to λ_ hs=>Sep.imp_at (λS=>h M S w) hs hi}
theorem FC{A:List Res}{R:Res}{L:List Res}(h:∀M S w,Sep M w A S→R.sat M S w)(g:Go F n E (R::L) X):Go F n E (A++L) X:=Eg (Eh h g)
theorem uV{mv q:Value}{fs:List (List Int×aF)}{name:List Int}{L:List Res}(hk:dU P .str I.str=true)(g:∀es,fs=cu (λy=>y.2) es→oc es name=q→koks .str es→(es.map (·.1)).Nodup→Go F n E (Res.dmap P I mv es::Res.files P I es::L) X):Go F n E (Res.dat P I mv fs name q::L) X:=
 fK λes=>ez (da λh=>vA hk 0 rfl λh1 h2=>g es h.1 h.2 h1 h2)
theorem oI{mv:Value}{fs:List (List Int×aF)}{L:List Res}(hk:dU P .str I.str=true)(g:∀es,fs=cu (λy=>y.2) es→koks .str es→(es.map (·.1)).Nodup→Go F n E (Res.dmap P I mv es::Res.files P I es::L) X):Go F n E (Res.dfiles P I mv fs::L) X:=
 fK λes=>ez (da λh=>vA hk 0 rfl λh1 h2=>g es h h1 h2)
theorem lF{A B:Res}(g:Go F n E (B::A::L) X):Go F n E (A::B::L) X:=ny (List.Perm.swap _ _ _) g
theorem As{m x:Operand}{z mv:Value}{e mt:TypeId}{fs:List (List Int×aF)}{name:List Int}{d:Nat}{ty:TypeId}{pos:String}{after:Array Edge}{L:List Res}(hk:dU P .str I.str=true)(hm:ev E m=some (.one (.raw z) mv))(hx:ev E x=some (.one .str name))(ht:P.underlying mt=some (.map I.str e))
  (hz:(P.info? e).bind (·.zero)=some NV) (hd:Nat.ble (d+1) n=true)
  (g:∀q,Go F n ((d,.tup [⟨.raw NV,q⟩,⟨.bool,(aA .str name fs).isSome⟩])::E) (Res.dat P I mv fs name q::L) (wpList P ops Q rest)):Go F n E (Res.dfiles P I mv fs::L) (wpList P ops Q (⟨some d,.lookup mt m x true,ty,pos,after,none⟩::rest)):=by
 refine oI hk λes h1 h2 h3=>?_
 refine y (xY (vt:= .raw NV) 0 hm hx rfl hk ht hz rfl) hd ?_
 have hs:(aA .str name (cu (λy=>y.1) es)).isSome=(aA .str name fs).isSome:=by
  rw[h1,gu,gu,Option.isSome_map,Option.isSome_map]
 rw[hs]
 have:=g (oc es name)
 intro M a w c
 refine this M a w {c with st:=c.st.sep_to λV ⟨S,V',r,⟨S2,V2,r2,s2,d2,e2⟩,d,e⟩=>?_}
 refine⟨λk=>S k∨S2 k,V2,⟨es,λ_=>False,λk=>S k∨S2 k,⟨⟨h1,rfl⟩,λ_ h=>h⟩,⟨S,S2,r,⟨S2,λ_=>False,r2,λ_ h=>h,λ_ _ h=>h,λk=>⟨.inl,λh=>h.elim id False.elim⟩⟩,λk hk h=>d k hk ((e2 k).2 (.inl h)),λ_=>Iff.rfl⟩,λ_ h=>h.elim,λk=>⟨.inr,λh=>h.elim False.elim id⟩⟩,s2,?_,?_⟩
 ·rintro k (h|h)
  ·exactλhv=>d k h ((e2 k).2 (.inr hv))
  ·exact d2 k h
 ·intro k;rw[e k,e2 k];exact or_assoc.symm
theorem ni{M:Mem}{w:World}{R:Res}{S:Nat→Prop}(h:R.sat M S w):Sep M w [R] S:=⟨S,λ_=>False,h,λ_ h=>h,λ_ _ h=>h,λk=>⟨.inl,λh=>h.elim id False.elim⟩⟩
theorem iA{M:Mem}{w:World}{p:Prop}(hp:p){L:List Res}{S:Nat→Prop}(h:Sep M w L S):Sep M w (Res.fact p::L) S:=
 ⟨λ_=>False,S,⟨hp,λ_ h=>h⟩,h,λ_ h=>h.elim,λk=>⟨.inr,λh=>h.elim False.elim id⟩⟩
theorem iB{mv q:Value}{fs:List (List Int×aF)}{name:List Int}{f:aF}{L:List Res}(hk:dU P .str I.str=true)(hf:aA .str name fs=some f)
  (g:∀fb sv tv dv,q= .pointer (some ⟨fb,0,none⟩)→Go F n E (Res.var fb I.file FT (sv,tv,dv,())::Res.own sv I.byte (.int .u8) f.1::Res.own tv I.byte (.int .u8) f.2.1::Res.dirty P I dv f.2.2::Res.dhole P I mv fs name q::L) X):
  Go F n E (Res.dat P I mv fs name q::L) X:=by
 refine uV hk λes h1 h2 h3 h4=>?_
 have hg:∃p,aA .str name es=some (p,f):=by
  rw[h1,gu]at hf
  cases hp:aA .str name es with
  |none=>rw[hp]at hf;cases hf
  |some y=>rw[hp]at hf;simp only[Option.map_some,Option.some.injEq]at hf;exact⟨y.1,by rw[←hf]⟩
 obtain⟨p,hp⟩:=hg
 have hq:q=p:=by rw[←h2];unfold oc;rw[gu,hp];rfl
 refine lF (wl h3 h4 hp ?_)
 refine fK λ⟨fb,sv,tv,dv⟩=>ez (da λh5=>?_)
 have:=g fb sv tv dv (hq.trans h5)
 intro M a w c
 refine this M a w {c with st:=c.st.sep_to λV hs=>?_}
 have key:∀{A:List Res} {V:Nat→Prop},Sep M w (A++Res.files P I (cn .str name es)::Res.dmap P I mv es::L) V→Sep M w (A++Res.dhole P I mv fs name q::L) V:=by
  intro A
  induction A with
  |nil=>
   rintro V ⟨S,V',r,⟨S2,V2,r2,s2,d2,e2⟩,d,e⟩
   refine⟨λk=>S2 k∨S k,V2,⟨es,iA ⟨h1,h2,by rw[hp];rfl⟩ ⟨S2,S,r2,ni r,λk h2 h1=>d k h1 ((e2 k).2 (.inl h2)),λ_=>Iff.rfl⟩⟩,s2,?_,?_⟩
   ·rintro k (h|h)
    ·exact d2 k h
    ·exactλhv=>d k h ((e2 k).2 (.inr hv))
   ·intro k;rw[e k,e2 k,or_left_comm];exact or_assoc.symm
  |cons R A ih=>rintro V ⟨S,V',r,s,d,e⟩;exact⟨S,V',r,ih s,d,e⟩
 exact key (A:=[_,_,_,_]) hs
theorem uc{M:Mem}{w:World}{fb:Nat}{sv tv dv:Value}{f1 f2 f3:List Int}{S:Nat→Prop}(h:Sep M w [Res.var fb I.file FT (sv,tv,dv,()),Res.own sv I.byte (.int .u8) f1,Res.own tv I.byte (.int .u8) f2,Res.dirty P I dv f3] S):
  (Res.file P I (.pointer (some ⟨fb,0,none⟩)) (f1,f2,f3)).sat M S w:=⟨(fb,sv,tv,dv),iA rfl h⟩
theorem uW{M:Mem}{w:World}{es es':List (List Int×Value×aF)}{name:List Int}{q:Value}{f:aF}{S:Nat→Prop}(hp:es'.Perm ((name,q,f)::cn .str name es))(h:Sep M w [Res.files P I (cn .str name es),Res.file P I q f] S):
  (Res.files P I es').sat M S w:=by
 obtain⟨A,V,a,⟨B,V2,b,hn,_,e2⟩,d,e⟩:=h
 have:Sep M w (Res.file P I q f::(cn .str name es).map λe=>Res.file P I e.2.1 e.2.2) S:=
  ⟨B,A,b,a,λk hb ha=>d k ha ((e2 k).2 (.inl hb)),λk=>by
    rw[e k,e2 k]
    constructor
    ·rintro(h|h|h)
     ·exact .inr h
     ·exact .inl h
     ·exact absurd h (hn k)
    ·rintro(h|h)
     ·exact .inr (.inl h)
     ·exact .inl h⟩
 exact Sep.perm ((hp.map (λe=>Res.file P I e.2.1 e.2.2)).symm) this
theorem ia{mv:Value}{fs:List (List Int×aF)}{name:List Int}{f1 f2 f3:List Int}{fb:Nat}{sv tv dv:Value}{L:List Res}(hk:dU P .str I.str=true)
  (g:Go F n E (Res.dat P I mv (cm .str name (f1,f2,f3) fs) name (.pointer (some ⟨fb,0,none⟩))::L) X):
  Go F n E (Res.var fb I.file FT (sv,tv,dv,())::Res.own sv I.byte (.int .u8) f1::Res.own tv I.byte (.int .u8) f2::Res.dirty P I dv f3::Res.dhole P I mv fs name (.pointer (some ⟨fb,0,none⟩))::L) X:=by
 refine ny (L':=Res.dhole P I mv fs name (.pointer (some ⟨fb,0,none⟩))::Res.var fb I.file FT (sv,tv,dv,())::Res.own sv I.byte (.int .u8) f1::Res.own tv I.byte (.int .u8) f2::Res.dirty P I dv f3::L) (List.perm_middle (l₁:=[_,_,_,_]) (l₂:=L)) ?_
 refine fK λes=>ez (da λ⟨h1,h2,h5⟩=>vA hk 0 rfl λh3 h4=>?_)
 obtain⟨⟨p,f⟩,hp⟩:=Option.isSome_iff_exists.1 h5
 obtain⟨A,B,e1,e2⟩:=nz h3 h4 hp
 have hq:p= .pointer (some ⟨fb,0,none⟩):=by rw[←h2];unfold oc;rw[gu,hp];rfl
 have e3:=sn (v:=((.pointer (some ⟨fb,0,none⟩):Value),((f1,f2,f3):aF))) h3 h4 e1
 intro M a w c
 refine g M a w {c with st:=c.st.sep_to λV hs=>?_}
 have hs':Sep M w ([Res.dmap P I mv es,Res.files P I (cn .str name es),Res.var fb I.file FT (sv,tv,dv,()),Res.own sv I.byte (.int .u8) f1,Res.own tv I.byte (.int .u8) f2,Res.dirty P I dv f3]++L) V:=hs
 obtain⟨SA,SB,sa,sb,sd,se⟩:=Sep.split hs'
 refine⟨SA,SB,⟨cm .str name (.pointer (some ⟨fb,0,none⟩),(f1,f2,f3)) es,iA ?_ ?_⟩,sb,sd,se⟩
 ·refine⟨by rw[ye,h1],?_⟩
  unfold oc
  rw[gu,e3,Df (A:=A) h3 h4 e1];rfl
 ·obtain⟨S1,V1,r1,s1,d1,e4⟩:=sa
  have s1':Sep M w ([Res.files P I (cn .str name es)]++[Res.var fb I.file FT (sv,tv,dv,()),Res.own sv I.byte (.int .u8) f1,Res.own tv I.byte (.int .u8) f2,Res.dirty P I dv f3]) V1:=s1
  obtain⟨SC,SD,sc,sdd,dd,ee⟩:=Sep.split s1'
  refine⟨S1,V1,?_,ni (uW (name:=name) (q:= .pointer (some ⟨fb,0,none⟩)) (f:=(f1,f2,f3)) (es:=es) ?_ ?_),d1,e4⟩
  ·have:cu (λy:Value×aF=>y.1) (cm .str name (.pointer (some ⟨fb,0,none⟩),(f1,f2,f3)) es)=cu (λy=>y.1) es:=by
    rw[e3,e1,hq];simp[cu]
   unfold Res.dmap
   rw[this];exact r1
  ·rw[e3,e2];exact List.perm_middle
  ·exact Sep.eqv (λk=>(ee k).symm) (Sep.append sc (ni (uc sdd)) dd)
theorem nA{mv:Value}{fs:List (List Int×aF)}{es:List (List Int×Value×aF)}{L:List Res}(h:fs=cu (λy=>y.2) es)(g:Go F n E (Res.dfiles P I mv fs::L) X):Go F n E (Res.dmap P I mv es::Res.files P I es::L) X:=λM a w c=>by
 refine g M a w {c with st:=c.st.sep_to λV hs=>?_}
 have hs':Sep M w ([Res.dmap P I mv es,Res.files P I es]++L) V:=hs
 obtain⟨A,B,sa,sb,d,e⟩:=Sep.split hs'
 exact⟨A,B,⟨es,iA h sa⟩,sb,d,e⟩
theorem wT{mv q:Value}{name:List Int}{fs:List (List Int×aF)}{es:List (List Int×Value×aF)}{L:List Res}(h:fs=cu (λy=>y.2) es)(hq:oc es name=q)(g:Go F n E (Res.dat P I mv fs name q::L) X):Go F n E (Res.dmap P I mv es::Res.files P I es::L) X:=λM a w c=>by
 refine g M a w {c with st:=c.st.sep_to λV hs=>?_}
 have hs':Sep M w ([Res.dmap P I mv es,Res.files P I es]++L) V:=hs
 obtain⟨A,B,sa,sb,d,e⟩:=Sep.split hs'
 exact⟨A,B,⟨es,iA ⟨h,hq⟩ sa⟩,sb,d,e⟩
theorem At{es:List (List Int×Value×aF)}{name:List Int}{L:List Res}(ho:koks .str es)(hn:(es.map (·.1)).Nodup)(g:Go F n E (Res.files P I (cn .str name es)::L) X):Go F n E (Res.files P I es::L) X:=by
 cases hp:aA .str name es with
 |none=>rw[tC hp]at g;exact g
 |some y=>exact wl (p:=y.1) (f:=y.2) ho hn hp (xP (.cons _ (List.Sublist.refl _)) g)
theorem B6{m x:Operand}{z mv:Value}{e mt kx:TypeId}{fs:List (List Int×aF)}{name:List Int}{ty:TypeId}{pos:String}{after:Array Edge}{L:List Res}(hk:dU P .str I.str=true)(hm:ev E m=some (.one (.raw z) mv))(hx:ev E x=some (.one .str name))(ht:P.underlying mt=some (.map I.str e))
  (hkx:kx=I.str) (g:Go F n E (Res.dfiles P I mv (cn .str name fs)::L) (wpList P ops Q rest)):Go F n E (Res.dfiles P I mv fs::L) (wpList P ops Q (⟨none,.call ⟨.builtin .delete,#[m,x],#[mt,kx]⟩,ty,pos,after,none⟩::rest)):=by
 refine oI hk λes h1 h2 h3=>?_
 refine ya (vt:= .raw NV) 0 hm hx rfl hk ht hkx ?_
 refine lF (At (name:=name) h2 h3 (lF ?_))
 have e:cn .str name (cu (λy:Value×aF=>y.1) es)=cu (λy=>y.1) (cn .str name es):=(pW _ _ _).symm
 rw[e]
 exact nA (es:=cn .str name es) (by rw[h1,pW]) g
theorem wm{m x:Operand}{z mv q:Value}{e mt kx:TypeId}{fs:List (List Int×aF)}{name:List Int}{ty:TypeId}{pos:String}{after:Array Edge}{L:List Res}(hk:dU P .str I.str=true)(hm:ev E m=some (.one (.raw z) mv))(hx:ev E x=some (.one .str name))(ht:P.underlying mt=some (.map I.str e))
  (hkx:kx=I.str) (g:Go F n E (Res.dfiles P I mv (cn .str name fs)::L) (wpList P ops Q rest)):Go F n E (Res.dhole P I mv fs name q::L) (wpList P ops Q (⟨none,.call ⟨.builtin .delete,#[m,x],#[mt,kx]⟩,ty,pos,after,none⟩::rest)):=by
 refine fK λes=>ez (da λ⟨h1,h2,h5⟩=>?_)
 refine ya (vt:= .raw NV) 0 hm hx rfl hk ht hkx ?_
 have e:cn .str name (cu (λy:Value×aF=>y.1) es)=cu (λy=>y.1) (cn .str name es):=(pW _ _ _).symm
 rw[e]
 exact nA (es:=cn .str name es) (by rw[h1,pW]) g
theorem A8{M:Mem}{w:World}{R:Res}{es es':List (List Int×Value×aF)}{name:List Int}{f1 f2 f3:List Int}{fb:Nat}{sv tv dv:Value}{L:List Res}{V:Nat→Prop}(hp:es'.Perm ((name,(.pointer (some ⟨fb,0,none⟩):Value),((f1,f2,f3):aF))::cn .str name es))
  (h:Sep M w (R::Res.files P I (cn .str name es)::Res.var fb I.file FT (sv,tv,dv,())::Res.own sv I.byte (.int .u8) f1::Res.own tv I.byte (.int .u8) f2::Res.dirty P I dv f3::L) V):Sep M w (R::Res.files P I es'::L) V:=by
 obtain⟨S1,V1,r1,s1,d1,e4⟩:=h
 have s1':Sep M w (([Res.files P I (cn .str name es)]++[Res.var fb I.file FT (sv,tv,dv,()),Res.own sv I.byte (.int .u8) f1,Res.own tv I.byte (.int .u8) f2,Res.dirty P I dv f3])++L) V1:=s1
 obtain⟨SA,SB,sa,sb,sd,se⟩:=Sep.split s1'
 obtain⟨SC,SD,sc,sdd,dd,ee⟩:=Sep.split sa
 refine⟨S1,V1,r1,⟨SA,SB,uW (name:=name) (q:= .pointer (some ⟨fb,0,none⟩)) (f:=(f1,f2,f3)) (es:=es) hp ?_,sb,sd,se⟩,d1,e4⟩
 exact Sep.eqv (λk=>(ee k).symm) (Sep.append sc (ni (uc sdd)) dd)
theorem qv{m x y:Operand}{z mv:Value}{e mt:TypeId}{fs:List (List Int×aF)}{name:List Int}{f1 f2 f3:List Int}{fb:Nat}{sv tv dv:Value}{ty:TypeId}{pos:String}{after:Array Edge}{L:List Res}(hk:dU P .str I.str=true)(hm:ev E m=some (.one (.raw z) mv))(hx:ev E x=some (.one .str name))(hy:ev E y=some (.one (.raw NV) (.pointer (some ⟨fb,0,none⟩))))(ht:P.underlying mt=some (.map I.str e))
  (hroom:fs.length<4611686018427387904) (g:Go F n E (Res.dat P I mv (dn .str name (f1,f2,f3) fs) name (.pointer (some ⟨fb,0,none⟩))::L) (wpList P ops Q rest)):
  Go F n E (Res.var fb I.file FT (sv,tv,dv,())::Res.own sv I.byte (.int .u8) f1::Res.own tv I.byte (.int .u8) f2::Res.dirty P I dv f3::Res.dfiles P I mv fs::L) (wpList P ops Q (⟨none,.mapUpdate mt m x y,ty,pos,after,none⟩::rest)):=by
 refine ny (L':=Res.dfiles P I mv fs::Res.var fb I.file FT (sv,tv,dv,())::Res.own sv I.byte (.int .u8) f1::Res.own tv I.byte (.int .u8) f2::Res.dirty P I dv f3::L) (List.perm_middle (l₁:=[_,_,_,_]) (l₂:=L)) ?_
 refine oI hk λes h1 h2 h3=>?_
 refine my (vt:= .raw NV) 0 hm hx hy rfl hk ht (by rw[h1]at hroom;simpa [cu]using hroom) ?_
 refine lF (At (name:=name) h2 h3 (lF ?_))
 have e:dn .str name (.pointer (some ⟨fb,0,none⟩)) (cu (λy:Value×aF=>y.1) es)=cu (λy=>y.1) (dn .str name ((.pointer (some ⟨fb,0,none⟩):Value),((f1,f2,f3):aF)) es):=(uU (kt:= .str) (λy:Value×aF=>y.1) name ((.pointer (some ⟨fb,0,none⟩):Value),((f1,f2,f3):aF)) es).symm
 rw[e]
 have hkk:∀M a w,Cfg F M n E (Res.dmap P I mv (dn .str name ((.pointer (some ⟨fb,0,none⟩):Value),((f1,f2,f3):aF)) es)::Res.files P I (cn .str name es)::Res.var fb I.file FT (sv,tv,dv,())::Res.own sv I.byte (.int .u8) f1::Res.own tv I.byte (.int .u8) f2::Res.dirty P I dv f3::L) a w→Cfg F M n E (Res.dmap P I mv (dn .str name ((.pointer (some ⟨fb,0,none⟩):Value),((f1,f2,f3):aF)) es)::Res.files P I (dn .str name ((.pointer (some ⟨fb,0,none⟩):Value),((f1,f2,f3):aF)) es)::L) a w:=λM a w c=>
  {c with st:=c.st.sep_to λV hs=>A8 (B5 _ _ _) hs}
 intro M a w c
 refine wT (name:=name) (q:= .pointer (some ⟨fb,0,none⟩)) (by rw[h1,uU]) ?_ g M a w (hkk M a w c)
 unfold oc
 rw[gu]
 have hok:kok .str name:=by
  obtain⟨hb,hm2⟩:=(holds_str.1 (aJ c hx)).2
  exact⟨hb,hm2⟩
 rw[Dg hok (si h2)]
 rfl
end
theorem s5(v:Value)(n:Nat):Builtin.zeroCells #[v] n=(List.replicate n v).toArray:=by
 apply Array.ext
 ·simp[Builtin.zeroCells]
 ·intro i h1 h2
  have:i % 1=0:=Nat.mod_one i
  simp[Builtin.zeroCells,this]
theorem Au:∀m:Nat,(List.replicate m (zc (.int .u8))).flatten=List.replicate m (Value.int .u8 0)
 |0=>rfl
 |m+1=>by rw[List.replicate_succ,List.flatten_cons,Au m,List.replicate_succ];rfl
section
variable {P:Program}{Tb:Tab}{F:Fr}{n:Nat}{E E':Env}{L:List Res}{ops:Array Oper}{Q:Exit→Act→World→Prop}{rest:List Oper}{X:Act→World→Prop}
theorem zI{tz:Nat}(htz:tz=1){sT xT elem:TypeId}{s:Value}{base:Option Addr}{sLen sCap m:Nat}{w:World}{olds:List Value}{ty:TypeId}{i:TypeInfo}
  (hu:P.underlying sT=some (.slice elem)) (ht:aW P (.int .u8) elem=true) (hx:P.underlying xT=some (.int .i64)) (hi:P.info? elem=some i) (hB:i.bytes=1) (hz:i.zero=some (.int .u8 0))
  (hs:s= .slice base sLen sCap) (ho:∀w',w'.heap=w.heap→(Builtin.firstCells tz sLen s).run P w'= .ok olds.toArray w') (bU:sLen+m≤140737488355328):
  (sLen+m≤sCap→∀w',(match base with|some a=>storeCells (a.add (sLen*tz)) (List.replicate m (.int .u8 0))|none=>pure ()).run P w= .ok () w'→
    (Builtin.append_ #[sT,xT] ty #[s,.int .i64 m]).run P w= .ok (.slice base (sLen+m) sCap) w')∧
  (sCap<sLen+m→∃(newCap:Nat) (zs:List Value) (d:Nat),sLen+m≤newCap∧zs.length=newCap - (sLen+m)∧
    (Builtin.append_ #[sT,xT] ty #[s,.int .i64 m]).run P w= .ok (.slice (some ⟨w.heap.size,0,none⟩) (sLen+m) newCap) {w with drawn:=d,heap:=w.heap.push (.cells (olds++List.replicate m (Value.int .u8 0)++zs).toArray elem)}):=by
 subst hs
 subst htz
 have hsz:∀w',(Go.sizeOf elem).run P w'= .ok 1 w':=λw'=>dL ht
 have hw:IntKind.i64.wrap (m:Int)=(m:Int):=by simp[IntKind.wrap,IntKind.bits,IntKind.signed];omega
 have hzv:∀w',(zeroValue elem).run P w'= .ok (.int .u8 0) w':=λw'=>by simp only[zeroValue,ao,eH hi,hz];rfl
 have hai:∀w',(asInt (.int .i64 (m:Int))).run P w'= .ok (m:Int) w':=λw'=>rfl
 have h0:¬((m:Int)<0):=by omega
 have h1:¬((m:Int)*(i.bytes:Int)>2^48):=by rw[hB];omega
 have hap:∀w',(if m*1=0 then(pure #[]:Sem (Array Value))else do pure (Builtin.zeroCells (←zeroValue elem).cells m)).run P w'= .ok (List.replicate m (Value.int .u8 0)).toArray w':=λw'=>by
  split
  ·rename_i h
   have:m=0:=by omega
   subst this;rfl
  ·rw[ao,hzv]
   show Result.ok (Builtin.zeroCells #[.int .u8 0] m) w'=_
   rw[s5]
 constructor
 ·intro hle w' hst
  have key:(match base with|some a=>storeCells (a.add (sLen*1)) (List.replicate m (.int .u8 0))|none=>pure PUnit.unit).run P w= .ok PUnit.unit w':=hst
  simp only[Builtin.append_,List.getElem?_toArray,List.getElem?_cons_zero,List.getElem?_cons_succ,ao,run_underlying hu,hsz,run_underlying hx,aG,if_true,hai,hw,h0,if_false,eH hi,h1,Int.toNat_natCast,hle,Bool.not_true,Bool.false_eq_true,hap]
  cases base with
  |none=>simp only at key⊢;cases key;rfl
  |some ad=>simp only at key⊢;rw[ao,key];rfl
 ·intro hlt
  have hnl:¬(sLen+m≤sCap):=by omega
  have hb0:¬i.bytes=0:=by omega
  have hcap:=vw hlt
  have hn2:¬(Builtin.nextslicecap (sLen+m) sCap*i.bytes>2^48):=by rw[hB];omega
  have hn3:¬(((sLen+m:Nat):Int)>IntKind.max .i64):=by
   have:IntKind.max .i64=9223372036854775807:=by decide
   rw[this];omega
  simp only[Builtin.append_,List.getElem?_toArray,List.getElem?_cons_zero,List.getElem?_cons_succ,ao,run_underlying hu,hsz,run_underlying hx,aG,if_true,hai,hw,h0,if_false,eH hi,h1,Int.toNat_natCast,hnl,hn3,false_and,hn2,choose,Sem.run,Question.forced,Question.cut,Bool.not_true,Bool.false_eq_true]
  generalize hnc:sLen+m+w.tape w.drawn (.appendCap (sLen+m) sCap elem) % (2^63 - (sLen+m))=newCap
  have ho':=ho {w with drawn:=w.drawn+1} rfl
  refine⟨newCap,List.replicate (newCap - (sLen+m)) (.int .u8 0),w.drawn+1,by omega,by simp,?_⟩
  have harr:olds.toArray++(List.replicate m (Value.int .u8 0)).toArray++Builtin.zeroCells (Value.int .u8 0).cells (newCap - (sLen+m))=(olds++List.replicate m (Value.int .u8 0)++List.replicate (newCap - (sLen+m)) (Value.int .u8 0)).toArray:=by
   have:(Value.int .u8 0).cells= #[.int .u8 0]:=rfl
   rw[this,s5]
   apply Array.toList_inj.1;simp
  simp only[ao,oD,ho',hap,hzv,newRow,newObj,aG,Sem.run,harr]
theorem Ba(hT:Tb.chk P=true){s x:Operand}{z v:Value}{elem:Nat}{t:T}(htt:t= .int .u8){xs:List t.D}{k:Int}(zf:(P.info? elem).bind (·.zero)=some (.int .u8 0)){sT xT:TypeId}{d:Nat}{ty:TypeId}{pos:String}{after:Array Edge}(i:Nat)
  (hs:ev E s=some (.one (.raw z) v)) (hi:L[i]? =some (Res.own v elem t xs)) (hxv:ev E x=some (.one (.int .i64) k)) (hk:0≤k) (hsT:lk Tb.slices sT=some elem) (he:fG P t elem 1=true) (hx:P.underlying xT=some (.int .i64))
  (bU:(xs.length+k.toNat)*1≤140737488355328) (hd:Nat.ble (d+1) n=true)
  (g:∀v',Go F n ((d,.one (.raw (.slice none 0 0)) v')::E) (L.set i (Res.own v' elem t (xs++List.replicate k.toNat t.zero))) (wpList P ops Q rest)):
  Go F n E L (wpList P ops Q (⟨some d,.call ⟨.builtin .append,#[s,x],#[sT,xT]⟩,ty,pos,after,none⟩::rest)):=λM a w c=>by
 obtain⟨ht,inf,hinf,hbytes,hzero⟩:=pz he
 obtain⟨m,rfl⟩:=Int.eq_ofNat_of_zero_le hk
 simp only[Int.toNat_natCast]at g bU
 have hxe:a.eval x= .int .i64 m:=(holds_int.1 (aJ c hxv)).1
 generalize hys:List.replicate m t.zero=ys at g
 have hyl:ys.length=m:=by rw[←hys];simp
 generalize hdd:List.replicate m (Value.int .u8 0)=ds
 have hds:RepL (Rep t M) ds ys:=by
  rw[←hdd,←hys]
  clear hys g hdd
  subst htt
  have:=uS (t:= .int .u8) (M:=M) rfl m
  rw[Au m]at this;exact this
 have htz:t.size=1:=by rw[htt]
 subst hyl
 have hdl:=RepL.length (s:=t.size) (λc x h=>Rep.size h) hds
 have hv:=(holds_raw.1 (aJ c hs)).1
 obtain⟨S,hsat⟩:=c.st.res hi
 have hred:∀{v':Value} {w':World},(Builtin.append_ #[sT,xT] ty #[v,a.eval x]).run P w= .ok v' w'→
   (execOp a.eval ⟨some d,.call ⟨.builtin .append,#[s,x],#[sT,xT]⟩,ty,pos,after,none⟩).run P w= .ok (.value v') w':=by
  intro v' w' h
  have: #[s,x].map a.eval= #[v,a.eval x]:=by simp[hv]
  simp only[execOp,resolve,ao,aG,invoke,Go.builtin,this,h]
 have hmost:xs.length+ys.length≤most:=by
  simp only[most];omega
 have hnd:Nat.le (d+1) n:=Nat.le_of_ble_eq_true hd
 have hform:∃base sCap olds,v= .slice base xs.length sCap∧RepL (Rep t M) olds xs∧(∀w':World,w'.heap=w.heap→(Builtin.firstCells t.size xs.length v).run P w'= .ok olds.toArray w'):=by
  rcases hsat with⟨⟨a0,rfl⟩,rfl,_⟩|⟨b,o,cap,rfl,h2,cc,fr,h3,h4,h5,h6,h7,h8⟩
  ·exact⟨a0,0,[],rfl,rfl,λw' _=>tw⟩
  ·refine⟨_,_,_,rfl,h4,λw' hw=>?_⟩
   have hm:=Nat.mul_le_mul_right t.size h6
   have:=gH (P:=P) (w:=w') (b:=b) (off:=o) (c:=cc) (el:=elem) (fr:=fr) (by rw[hw];exact h3) (xs.length*t.size) 0 #[] (by omega)
   simp only[Builtin.firstCells,loadCells,this]
   simp
 obtain⟨base,sCap,olds,hvf,holds,hol⟩:=hform
 have hol':=RepL.length (s:=t.size) (λc x h=>Rep.size h) holds
 have hz0:inf.zero=some (.int .u8 0):=by rw[hinf]at zf;exact zf
 obtain⟨hroom,hgrow⟩:=zI (P:=P) (ty:=ty) (w:=w) (m:=ys.length) (olds:=olds) htz (Tab.slice hT hsT) (by rw[←htt];exact ht) hx hinf hbytes hz0 hvf hol (by omega)
 rw[hdd]at hroom hgrow
 rw[hxe]at hred
 by_cases hle:xs.length+ys.length≤sCap
 ·
  by_cases hcz:sCap=0
  ·subst hcz
   have hx0:xs=[]:=List.eq_nil_of_length_eq_zero (by omega)
   have hy:ys=[]:=List.eq_nil_of_length_eq_zero (by omega)
   subst hx0
   subst hy
   subst hvf
   have hd0:ds=[]:=List.eq_nil_of_length_eq_zero (by simpa using hdl)
   have hr:=hroom hle w (by subst hd0;cases base<;>rfl)
   refine dG (d:=d) rfl (by simp[Region.wanted]) (hred hr) (g _ M _ _ (c.put (Mem.le.refl _) ?_ hnd (holds_raw.2 ⟨rfl,rfl⟩)))
   have:L.set i (Res.own (.slice base 0 0) elem t ([]++[]))=L:=by
    apply List.ext_getElem?
    intro j
    by_cases hj:i=j
    ·subst hj
     rw[List.getElem?_set_self (by
      rcases Nat.lt_or_ge i L.length with h|h
      ·exact h
      ·simp[List.getElem?_eq_none h]at hi),hi]
     rfl
    ·rw[List.getElem?_set_ne hj]
   show St F M w (L.set i (Res.own (.slice base 0 0) elem t ([]++[])))
   rw[this];exact c.st
  rcases hsat with⟨⟨a0,rfl⟩,rfl,hS⟩|⟨b,o,cap,rfl,h2,cc,fr,h3,h4,h5,h6,h7,h8⟩
  ·cases hvf;exact absurd rfl hcz
  ·cases hvf
   have hm:=Nat.mul_le_mul_right t.size hle
   rw[Nat.add_mul]at hm
   have hst:=ji (P:=P) (el:=elem) (fr:=fr) (off:=o+xs.length*t.size) ds 0 cc w h3 (by rw[hdl];omega) (by simpa using h8) (uR hds)
   have hr:=hroom hle _ (by simp only[kU,Nat.zero_add];exact hst)
   refine dG (d:=d) rfl (by simp[Region.wanted]) (hred hr) (g _ M _ _ (c.put (Mem.le.refl _) ?_ hnd (holds_raw.2 ⟨rfl,rfl⟩)))
   refine c.st.turn hi (B:=λk=>k=b) ?_ ?_ ?_ rfl rfl rfl (by simp[fg])
   ·rintro S' hS'
    rcases hS' with⟨⟨_,h⟩,_,_⟩|⟨b',o',cap',h,h2',cc',fr',h3',_⟩
    ·injection h with _ _ h;exact absurd h hcz
    ·cases h
     refine .inr ⟨b,o,sCap,by simp,h2',(cc.toList.take (o+xs.length*t.size+0)++ds++cc.toList.drop (o+xs.length*t.size+0+ds.length)).toArray,fr,by rw[eA (cH h3)];simp,?_,?_,by simpa using hle,by simpa using hmost,?_⟩
     ·have e1:(xs++ys).length*t.size=xs.length*t.size+ds.length:=by rw[hdl,List.length_append,Nat.add_mul]
      rw[e1]
      have hcl:o+xs.length*t.size+ds.length≤cc.toList.length:=by simp;omega
      rw[Nat.add_zero,List.toList_toArray,wK hcl]
      exact RepL.append h4 hds
     ·simp;omega
     ·have hsz:(cc.toList.take (o+xs.length*t.size+0)++ds++cc.toList.drop (o+xs.length*t.size+0+ds.length)).toArray.size=cc.size:=by simp;omega
      rw[hsz];exact h8
   ·rintro S' hS' k rfl
    rcases hS' with⟨⟨_,h⟩,_,_⟩|⟨b',o',cap',h,h2',_⟩
    ·injection h with _ _ h;exact absurd h hcz
    ·cases h;exact(h2' _).2 rfl
   ·intro k hk;rw[eA (cH h3),if_neg (λh=>hk h.symm)]
 ·obtain⟨newCap,zs,dr,hnc,hzs,hr⟩:=hgrow (by omega)
  refine dG (d:=d) rfl (by simp[Region.wanted]) (hred hr) (g _ M _ _ (c.put (Mem.le.refl _) ?_ hnd (holds_raw.2 ⟨rfl,rfl⟩)))
  have hst:=St.drewTo dr c.st
  refine hst.renew (R':=Res.own (.slice (some ⟨w.heap.size,0,none⟩) (xs.length+ys.length) newCap) elem t (xs++ys)) (o:= .cells (olds++ds++zs).toArray elem) hi ?_
  intro S' _
  refine .inr ⟨w.heap.size,0,newCap,by simp,λk=>Iff.rfl,(olds++ds++zs).toArray,(0,0),by simp,?_,?_,by simpa using hnc,by simpa using hmost,iz _⟩
  ·have e1:(xs++ys).length*t.size=(olds++ds).length:=by rw[List.length_append,Nat.add_mul,List.length_append,hol',hdl]
   rw[e1]
   have e2:((olds++ds++zs).toArray.toList.drop 0).take (olds++ds).length=olds++ds:=by rw[List.drop_zero];exact List.take_left
   rw[e2]
   exact RepL.append holds hds
  ·simp only[List.size_toArray,List.length_append,hol',hdl,hzs,htz];omega
theorem tD(hT:Tb.chk P=true){s x:Operand}{z v:Value}{elem:Nat}{xs:List Int}{k:Int}(zf:(P.info? elem).bind (·.zero)=some (.int .u8 0)){sT xT:TypeId}{d:Nat}{ty:TypeId}{pos:String}{after:Array Edge}(i:Nat)
  (hs:ev E s=some (.one (.raw z) v)) (hi:L[i]? =some (Res.own v elem (.int .u8) xs)) (hxv:ev E x=some (.one (.int .i64) k)) (hk:0≤k) (hsT:lk Tb.slices sT=some elem) (he:fG P (.int .u8) elem 1=true) (hx:P.underlying xT=some (.int .i64))
  (bU:(xs.length+k.toNat)*1≤140737488355328) (hd:Nat.ble (d+1) n=true)
  (g:∀v',Go F n ((d,.one (.raw (.slice none 0 0)) v')::E) (L.set i (Res.own v' elem (.int .u8) (xs++List.replicate k.toNat 0))) (wpList P ops Q rest)):
  Go F n E L (wpList P ops Q (⟨some d,.call ⟨.builtin .append,#[s,x],#[sT,xT]⟩,ty,pos,after,none⟩::rest)):=
 Ba hT (t:= .int .u8) rfl zf i hs hi hxv hk hsT he hx bU hd g
end
def ij(s:Nat)(v:Value)(i j:Nat):Value:=match v with
 | .slice ad _ cap=> .slice (if cap=i then ad else ad.map (·.add (i*s))) (j - i) (cap - i)
 |v=>v
def Sub(L:List Res)(v:Value)(e:TypeId)(t:T)(xs:List t.D):Prop:=∀F M w,St F M w L→Rep (.sl e t) (dt w) [v] xs
theorem eM{L:List Res}{v:Value}{e:TypeId}{t:T}{xs:List t.D}(i:Nat)(hi:L[i]? =some (Res.own v e t xs)):Sub L v e t xs:=λ_ _ _ st=>Am st hi
theorem B7{M:Mem}{v:Value}{e:TypeId}{t:T}{xs:List t.D}(h:Rep (.sl e t) M [v] xs){i j:Int}(h0:0≤i)(h1:i≤j)(h2:j≤xs.length):Rep (.sl e t) M [ij t.size v i.toNat j.toNat] ((xs.take j.toNat).drop i.toNat):=by
 obtain⟨ad,cap,e2,hm,hcap,h4⟩:=h
 obtain rfl:v= .slice ad (List.length xs) cap:=by simpa using e2
 have bU:((xs.take j.toNat).drop i.toNat).length=j.toNat - i.toNat:=by simp;omega
 have hi:i.toNat≤j.toNat:=by omega
 have hj:j.toNat≤xs.length:=by omega
 refine⟨_,_,by simp only[ij];rw[bU],by rw[bU];simp only[most]at*;omega,by rw[bU];omega,?_⟩
 rw[bU]
 cases ad with
 |none=>
  simp only at h4
  have:(if cap=i.toNat then(none:Option Addr)else none)=none:=by split<;>rfl
  simp only[Option.map_none,this]
  omega
 |some ad=>
  by_cases hz:j.toNat - i.toNat=0
  ·split
   ·rename_i hh
    exact hz
   ·exact .inl hz
  ·have hne:¬cap=i.toNat:=by omega
   obtain⟨b,off,sp⟩:=ad
   obtain⟨e3,cc,el,fr,hmm,hs,hr⟩:=h4.resolve_left (by omega)
   simp only at e3;subst e3
   simp only at hmm hs hr
   simp only[if_neg hne,Option.map_some,kU]
   refine .inr ⟨trivial,cc,el,fr,hmm,?_,?_⟩
   ·have h5:j.toNat*t.size≤xs.length*t.size:=Nat.mul_le_mul_right t.size hj
    have e4:i.toNat*t.size+(j.toNat - i.toNat)*t.size=j.toNat*t.size:=by rw[←Nat.add_mul,Nat.add_sub_cancel' hi]
    clear h4 hr
    show off+i.toNat*t.size+(j.toNat - i.toNat)*t.size≤cc.size
    omega
   ·have s1:=(RepL.split (s:=t.size) (λc x h=>Rep.size h) j.toNat hr).1
    have s2:=(RepL.split (s:=t.size) (λc x h=>Rep.size h) i.toNat s1).2
    have hle:j.toNat*t.size≤xs.length*t.size:=Nat.mul_le_mul_right _ hj
    rw[List.take_take,Nat.min_eq_left hle,List.drop_take,List.drop_drop]at s2
    have e4:j.toNat*t.size - i.toNat*t.size=(j.toNat - i.toNat)*t.size:=(Nat.sub_mul _ _ _).symm
    rw[e4]at s2
    exact s2
theorem oe{L:List Res}{v:Value}{e:TypeId}{t:T}{xs:List t.D}(h:Sub L v e t xs){i j:Int}(h0:0≤i)(h1:i≤j)(h2:j≤xs.length):Sub L (ij t.size v i.toNat j.toNat) e t ((xs.take j.toNat).drop i.toNat):=λF M w st=>B7 (h F M w st) h0 h1 h2
section
variable {P:Program}{Tb:Tab}{F:Fr}{n:Nat}{E E':Env}{L:List Res}{ops:Array Oper}{Q:Exit→Act→World→Prop}{rest:List Oper}{X:Act→World→Prop}
theorem B8(hT:Tb.chk P=true){tid e:TypeId}{t:T}{xs:List t.D}{M:Mem}{v:Value}(hv:Rep (.sl e t) M [v] xs){lo hi:Option Value}{i j:Int}(hl:(lo=none∧i=0)∨∃k,lo=some (.int k i))(hh:(hi=none∧j=xs.length)∨∃k,hi=some (.int k j))
  (h0:0≤i) (h1:i≤j) (h2:j≤xs.length) (ht:lk Tb.slices tid=some e) (hc:aW P t e=true) (w:World):(Instr.sliceAt tid v lo hi none).run P w= .ok (ij t.size v i.toNat j.toNat) w:=by
 obtain⟨ad,cap,e2,hm,hcap,h4⟩:=hv
 obtain rfl:v= .slice ad (List.length xs) cap:=by simpa using e2
 unfold Instr.sliceAt
 simp only[ao,run_underlying (Tab.slice hT ht)]
 unfold Instr.slice
 have hbd:=rX (P:=P) (w:=w) (isS:=true) (len:=xs.length) (cap:=cap) hl hh h0 h1 (by omega)
 simp only[ao,run_underlying (Tab.slice hT ht),hbd,dL hc]
 rfl
theorem kb(hT:Tb.chk P=true){x:Operand}{z v:Value}{e:TypeId}{t:T}{xs:List t.D}{tid:TypeId}{l h:Option Operand}{i j:Int}(hx:ev E x=some (.one (.raw z) v))(hs:Sub L v e t xs)(hl:nw E 0 l=some i)(hh:nw E xs.length h=some j)
  (h0:0≤i) (h1:i≤j) (h2:j≤xs.length) (ht:lk Tb.slices tid=some e) (hc:aW P t e=true):Yields Same P F n E L (.slice tid x l h none) (.one (.raw (.slice none 0 0)) (ij t.size v i.toNat j.toNat)):=λo ho M a w c=>by
 have hv:=(holds_raw.1 (aJ c hx)).1
 have hrep:=hs F M w c.st
 refine⟨_,holds_raw.2 ⟨rfl,?_⟩,λw' _=>?_⟩
 ·obtain⟨ad,cap,e2,_⟩:=hrep
  obtain rfl:v= .slice ad (List.length xs) cap:=by simpa using e2
  rfl
 ·obtain⟨dst,op,ty,pos,after,guard⟩:=o
  simp only at ho;subst ho
  exact bz (by rw[hv];exact B8 hT hrep (nf c hl) (nf c hh) h0 h1 h2 ht hc w')
theorem Dh{R:World→World→Prop}(hT:Tb.chk P=true){x:Operand}{z v:Value}{e:TypeId}{t:T}{xs:List t.D}{tid el:TypeId}(hx:ev E x=some (.one (.raw z) v))(hs:Sub L v e t xs)(hl:lk Tb.slices tid=some el):
  Yields R P F n E L (.call ⟨.builtin .len,#[x],#[tid]⟩) (.one (.int .i64) xs.length):=λo ho M a w c=>by
 have hv:=(holds_raw.1 (aJ c hx)).1
 obtain⟨ad,cap,e2,hm,hcap,h4⟩:=hs F M w c.st
 obtain rfl:v= .slice ad (List.length xs) cap:=by simpa using e2
 refine⟨.int .i64 xs.length,holds_int.2 ⟨rfl,by simp only[rng,lo,Sx.hi,most]at*;omega⟩,λw' _=>?_⟩
 obtain⟨dst,op,ty,pos,after,guard⟩:=o
 simp only at ho;subst ho
 simp only[execOp,resolve,ao,aG,invoke,Go.builtin]
 have: #[x].map a.eval= #[a.eval x]:=by simp
 rw[this,hv]
 simp only[Builtin.len_,List.getElem?_toArray,List.getElem?_cons_zero,ao,run_underlying (Tab.slice hT hl)]
 rfl
theorem yg{M:Mem}{v:Value}{e:TypeId}{ys:List Int}(h:Rep (.sl e (.int .u8)) M [v] ys){w:World}(hM:∀k o,M k=some o→w.heap[k]? =some o):aQ ys∧ys.length≤most∧(Conv.bytesToString v).run P w= .ok (.string (bs ys)) w:=by
 obtain⟨ad,cap,e2,hm,hcap,h4⟩:=h
 obtain rfl:v= .slice ad (List.length ys) cap:=by simpa using e2
 have empty:∀(a0:Option Addr) (cap:Nat),(Conv.bytesToString (.slice a0 0 cap)).run P w= .ok (.string (bs [])) w:=λa0 cap=>by
  cases a0<;>simp[Conv.bytesToString,loadCells,loadCellsFrom,aG,ao]<;>rfl
 cases ad with
 |none=>
  simp only at h4
  have:ys=[]:=List.eq_nil_of_length_eq_zero h4
  subst this
  exact⟨λc hc=>by simp at hc,by simp[most],empty _ _⟩
 |some ad=>
  rcases h4 with h4|⟨e3,cc,el,fr,hmm,hs,hr⟩
  ·have:ys=[]:=List.eq_nil_of_length_eq_zero h4
   subst this
   exact⟨λc hc=>by simp at hc,by simp[most],empty _ _⟩
  ·obtain⟨b,off,sp⟩:=ad
   simp only at e3;subst e3
   simp only[T.size,Nat.mul_one]at hmm hs hr
   obtain⟨e1,hb⟩:=lS hr
   exact⟨hb,hm,jO (hM _ _ hmm) hs e1⟩
theorem B9(hT:Tb.chk P=true){sT dT elem:TypeId}{x:Operand}{z v:Value}{e:TypeId}{ys:List Int}(hx:ev E x=some (.one (.raw z) v))(hsb:Sub L v e (.int .u8) ys)(hs:lk Tb.slices sT=some elem)(hd:lk Tb.strs dT=some ())(he:lk Tb.ints elem=some .u8):
  Yields Same P F n E L (.convert sT dT x) (.one .str ys):=λo ho M a w c=>by
 have hv:=(holds_raw.1 (aJ c hx)).1
 have hrep:=hsb F M w c.st
 have key:=λw' (hsm:Same w w')=>yg (P:=P) hrep (w:=w') (λk o e=>by
  have hlt:=cH e
  rw[hsm k hlt];exact e)
 have k0:=key w (Same.refl w)
 refine⟨_,holds_str.2 ⟨rfl,k0.1,k0.2.1⟩,λw' hsm=>?_⟩
 obtain⟨dst,op,ty,pos,after,guard⟩:=o
 simp only at ho;subst ho
 refine bz ?_
 rw[hv]
 have hk:=(key w' hsm).2.2
 obtain⟨ad,cap,e2,_⟩:=hrep
 obtain rfl:v= .slice ad (List.length ys) cap:=by simpa using e2
 simp only[Go.convert,ao,run_underlying (Tab.slice hT hs),run_underlying (Tab.str hT hd)]
 cases ad<;>simp only[run_underlying (Tab.int hT he)]<;>exact hk
inductive LendAll(E:Env)(L:List Res):List Operand→List TV→Prop
 |nil:LendAll E L [] []
 |val {x:Operand} {t:TV} {l:List Operand} {ts:List TV} (h:ev E x=some t) (r:LendAll E L l ts):LendAll E L (x::l) (t::ts)
 |sub {x:Operand} {z v:Value} {e:TypeId} {t:T} {xs:List t.D} {l:List Operand} {ts:List TV} (h:ev E x=some (.one (.raw z) v)) (hs:Sub L v e t xs) (r:LendAll E L l ts):LendAll E L (x::l) (.one (.sl e t) xs::ts)
theorem mN{a:Act}{w:World}{M:Mem}(c:Cfg F M n E L a w):∀{xs:List Operand} {ts:List TV},LendAll E L xs ts→HoldAll (dt w) ts (xs.map a.eval)
 |_,_,.nil=> .nil
 |_,_,.val h r=> .cons (TV.mono (λk o e=>c.st.mem k o e) (aJ c h)) (mN c r)
 |_,_,.sub h hs r=> .cons ⟨_,by rw[(holds_raw.1 (aJ c h)).1];rfl,hs _ _ _ c.st⟩ (mN c r)
theorem pX{k:FuncId}{args:List TV}{res:Value→TV}{R:Value→List Res}(hc:Fn P k args [] res R)(hk:dQ P k=true)(hf:∀v,(res v).flat=true)(hR:∀v,∀r∈R v,r.free){xs:List Operand}{tys:Array TypeId}{d:Nat}{ty:TypeId}{pos:String}{after:Array Edge}
  (hx:LendAll E L xs args) (hd:Nat.ble (d+1) n=true) (g:∀v,Go F n ((d,res v)::E) (R v++L) (wpList P ops Q rest)):
  Go F n E L (wpList P ops Q (⟨some d,.call ⟨.value (.func k),xs.toArray,tys⟩,ty,pos,after,none⟩::rest)):=λM a w c=>by
 unfold wpList
 rw[if_pos (by simp[Region.wanted])]
 left
 unfold Oper.wp
 rw[oY hk,Oper.upon_enter]
 obtain⟨F',hb,hs,hmem,st',hos,htape,hout⟩:=c.st.lent'
 have:=hc F' w (xs.map a.eval) (by rw[hb];exact st') hs (by rw[hb];exact mN c hx)
 refine this.mono ?_
 rintro e w' ⟨v,M',rfl,st2,hv⟩
 have hsame:Same w w':=λk hk=>by
  have:=st2.frame k w.heap[k] (by rw[hmem];simp[dt,hk])
  rw[this];simp[hk]
 obtain⟨V,s,dj⟩:=c.st.sep
 obtain⟨V2,s2,d2⟩:=st2.sep
 have s2':Sep M w' (R v) V2:=by
  have:(Res.all (R v)).free:=Res.free_all (hR v)
  exact this M' M V2 w' s2
 have s':Sep M w' L V:=Sep.loc (λk hk=>hsame k (s.has k hk)) s
 have hd12:∀k,V2 k→¬V k:=λk h2 h1=>by
  have hlt:=s.has k h1
  have:=(d2 k h2).2
  rw[hmem]at this
  simp[dt,hlt]at this
 have st3:St F M w' (R v++L):={
  os:=st2.os.trans hos,tape:=st2.tape.trans htape,output:=st2.output.trans hout
  size:=Nat.le_trans c.st.size (by have:=st2.size;rw[hs]at this;exact this)
  elder:=c.st.elder,fresh:=c.st.fresh
  frame:=λk o e=>by rw[hsame k (c.st.flt e)];exact c.st.frame k o e
  mem:=λk o e=>by rw[hsame k (c.st.lt e)];exact c.st.mem k o e
  sep:=⟨λk=>V2 k∨V k,Sep.append s2' s' hd12,λk hk=>by
   rcases hk with h|h
   ·have:=(d2 k h).2
    rw[hmem]at this
    have hge:w.heap.size≤k:=by
     rcases Nat.lt_or_ge k w.heap.size with g|g
     ·simp[dt,g]at this
     ·exact g
    constructor
    ·cases hm:M k with
     |none=>rfl
     |some o=>exact absurd (c.st.lt hm) (by omega)
    ·cases hm:F.mem k with
     |none=>rfl
     |some o=>exact absurd (c.st.flt hm) (by omega)
   ·exact dj k h⟩}
 exact g v M _ _ (c.put (Mem.le.refl _) st3 (Nat.le_of_ble_eq_true hd) (TV.any (hf v) hv))
end
section
variable {P:Program}{F:Fr}{n:Nat}{E:Env}{L:List Res}{ops:Array Oper}{rest:List Oper}{K:Mem→World→Act→Prop}
theorem Av{k:FuncId}{args:List TV}{res:TV}(hc:bm P k args res)(hk:dQ P k=true)(hf:res.flat=true){xs:List Operand}{tys:Array TypeId}{d:Nat}{ty:TypeId}{pos:String}{after:Array Edge}
  (hx:LendArgs E L xs args) (hd:Nat.ble (d+1) n=true) (g:QGo P ops F n ((d,res)::E) L K rest):
  QGo P ops F n E L K (⟨some d,.call ⟨.value (.func k),xs.toArray,tys⟩,ty,pos,after,none⟩::rest):=λM a w c=>by
 have key:∀w',Cls F M L w w'→Calls P k (xs.map a.eval).toArray w' λe w''=>∃v M',e= .returned v∧res.holds M' v∧Cls F M L w w'':=by
  intro w' hC
  have c':Cfg F M n E L a w':={c with st:=hC.1}
  obtain⟨F',hb,hs,st',hback⟩:=hC.1.lent
  have:=hc F' w' (xs.map a.eval) (by rw[hb];exact st') hs (by rw[hb];exact pA c' hx)
  refine this.mono ?_
  rintro e w'' ⟨v,M',rfl,st2,hv⟩
  obtain⟨st3,sm⟩:=hback _ _ st2
  refine⟨v,M',rfl,hv,st3,λk hk=>?_⟩
  rw[sm k (Nat.lt_of_lt_of_le hk ?_),hC.2 k hk]
  rcases Nat.lt_or_ge w'.heap.size w.heap.size with h|h
  ·have h1:=hC.2 w'.heap.size h
   rw[Array.getElem?_eq_none (Nat.le_refl _),Array.getElem?_eq_getElem h]at h1
   cases h1
  ·exact h
 obtain⟨e0,w0,_,⟨v,M0,rfl,hv,_⟩,_⟩:=key w ⟨c.st,Same.refl w⟩ []
 unfold wpQuiet
 rw[if_pos (by simp[Region.wanted])]
 refine⟨v,λw' hC=>?_,g M _ w (c.put (Mem.le.refl _) c.st (Nat.le_of_ble_eq_true hd) (TV.any hf hv))⟩
 unfold Oper.quietAt
 rw[oY hk]
 refine⟨rfl,(key w' hC).mono ?_⟩
 rintro e w'' ⟨v',M',rfl,hv',hC'⟩
 rw[TV.unique hf hv' hv]
 exact⟨rfl,hC'⟩
end
def bq(xs:List Int)(i:Nat)(ys:List Int):List Int:=xs.take i++ys.take (xs.length - i)++xs.drop (i+ys.length)
section
variable {P:Program}{I:DI}{Tb:Tab}{F:Fr}{n:Nat}{E E':Env}{L:List Res}{ops:Array Oper}{Q:Exit→Act→World→Prop}{rest:List Oper}{X:Act→World→Prop}
theorem uX{sT yT elem:TypeId}{dst:Value}{ys:List Int}{m:Nat}{w w':World}{ty:TypeId}{base:Option Addr}{len cap:Nat}(hu:P.underlying sT=some (.slice elem))(ht:aW P (.int .u8) elem=true)(hd:dst= .slice base len cap)(hm:m=min len ys.length)(hy:aQ ys)
  (hst:(match base with|some a=>storeCells a ((ys.take m).map λy=>Value.int .u8 y)|none=>pure ()).run P w= .ok () w'):(Builtin.copy_ #[sT,yT] ty #[dst,.string (bs ys)]).run P w= .ok (.int .i64 m) w':=by
 subst hd
 have hsz:∀w',(Go.sizeOf elem).run P w'= .ok 1 w':=λw'=>dL ht
 have hl:Nat.min (bs ys).size len=m:=by rw[jY];exact(Nat.min_comm _ _).trans hm.symm
 have hc:(((bs ys).extract 0 m).data.map λb=>Value.int .u8 b.toNat)=((ys.take m).map λy=>Value.int .u8 y).toArray:=by
  rw[rW]
  simp only[List.drop_zero,bs,List.map_toArray,List.map_map]
  congr 1
  apply List.map_congr_left
  intro c hc
  have:=hy c (List.mem_of_mem_take hc)
  simp only[Function.comp]
  rw[UInt8.toNat_ofNat']
  congr 1
  omega
 have key:(match base with|some a=>storeCells a ((ys.take m).map λy=>Value.int .u8 y)|none=>pure PUnit.unit).run P w= .ok PUnit.unit w':=hst
 simp only[Builtin.copy_,List.getElem?_toArray,List.getElem?_cons_zero,List.getElem?_cons_succ,ao,run_underlying hu,Builtin.lenOf,aG,hsz,Builtin.firstCells,hl,hc]
 cases base with
 |none=>simp only at key⊢;cases key;rfl
 |some ad=>simp only at key⊢;rw[ao,key];rfl
theorem wn(hT:Tb.chk P=true){x y:Operand}{z v:Value}{elem:Nat}{xs ys:List Int}{sT yT:TypeId}{d:Nat}{ty:TypeId}{pos:String}{after:Array Edge}(k:Nat){i:Nat}
  (hx:ev E x=some (.one (.raw z) (ij 1 v i xs.length))) (hi:L[k]? =some (Res.own v elem (.int .u8) xs)) (hy:ev E y=some (.one .str ys)) (hle:i≤xs.length) (hsT:lk Tb.slices sT=some elem) (he:aW P (.int .u8) elem=true) (hd:Nat.ble (d+1) n=true)
  (g:∀m:Int,Go F n ((d,.one (.int .i64) m)::E) (L.set k (Res.own v elem (.int .u8) (bq xs i ys))) (wpList P ops Q rest)):
  Go F n E L (wpList P ops Q (⟨some d,.call ⟨.builtin .copy,#[x,y],#[sT,yT]⟩,ty,pos,after,none⟩::rest)):=λM a w c=>by
 have hxv:=(holds_raw.1 (aJ c hx)).1
 obtain⟨hyv,hyb,hym⟩:=holds_str.1 (aJ c hy)
 have hnd:Nat.le (d+1) n:=Nat.le_of_ble_eq_true hd
 obtain⟨S,hsat⟩:=c.st.res hi
 have hred:∀{m:Nat} {w':World},(Builtin.copy_ #[sT,yT] ty #[ij 1 v i xs.length,.string (bs ys)]).run P w= .ok (.int .i64 m) w'→
   (execOp a.eval ⟨some d,.call ⟨.builtin .copy,#[x,y],#[sT,yT]⟩,ty,pos,after,none⟩).run P w= .ok (.value (.int .i64 m)) w':=by
  intro m w' h
  have: #[x,y].map a.eval= #[ij 1 v i xs.length,.string (bs ys)]:=by simp[hxv,hyv]
  simp only[execOp,resolve,ao,aG,invoke,Go.builtin,this,h]
 have hmr:rng .i64 ((min (xs.length - i) ys.length:Nat):Int):=by
  have:=hym
  simp only[most]at this
  constructor
  ·simp only[lo];omega
  ·simp only[Sx.hi];omega
 by_cases hm:min (xs.length - i) ys.length=0
 ·
  have hsame:bq xs i ys=xs:=by
   unfold bq
   have e1:ys.take (xs.length - i)=[]:=List.eq_nil_of_length_eq_zero (by rw[List.length_take];exact hm)
   rcases Nat.eq_zero_or_pos ys.length with h0|h0
   ·rw[e1,h0];simp
   ·have:xs.length≤i:=by omega
    rw[e1,List.drop_of_length_le (by omega),List.take_of_length_le this];simp
  have hform:∃base len cap,ij 1 v i xs.length= .slice base len cap∧len=xs.length - i:=by
   rcases hsat with⟨⟨a0,rfl⟩,rfl,_⟩|⟨b,o,cap,rfl,_⟩<;>exact⟨_,_,_,rfl,rfl⟩
  obtain⟨base,len,cap,e1,e2⟩:=hform
  have hrun:=uX (P:=P) (w:=w) (w':=w) (yT:=yT) (ty:=ty) (m:=0) (Tab.slice hT hsT) he e1 (by rw[e2];exact hm.symm) hyb (by cases base<;>rfl)
  have hL:L.set k (Res.own v elem (.int .u8) (bq xs i ys))=L:=by
   rw[hsame]
   apply List.ext_getElem?
   intro j
   by_cases hj:k=j
   ·subst hj
    rw[List.getElem?_set_self (by
     rcases Nat.lt_or_ge k L.length with h|h
     ·exact h
     ·simp[List.getElem?_eq_none h]at hi),hi]
   ·rw[List.getElem?_set_ne hj]
  have:=g 0
  rw[hL]at this
  exact dG (d:=d) rfl (by simp[Region.wanted]) (hred hrun) (this M _ _ (c.put (Mem.le.refl _) c.st hnd (holds_int.2 ⟨rfl,by simp[rng,lo,Sx.hi]⟩)))
 ·rcases hsat with⟨_,rfl,_⟩|⟨b,o,cap,rfl,h2,cc,fr,h3,h4,h5,h6,h7,h8⟩
  ·simp at hm
  ·simp only[T.size,Nat.mul_one]at h4 h5
   obtain⟨hcells,hxb⟩:=lS h4
   have hne:¬cap=i:=by omega
   have hv:ij 1 (.slice (some ⟨b,o,none⟩) xs.length cap) i xs.length= .slice (some ⟨b,o+i,none⟩) (xs.length - i) (cap - i):=by
    simp only[ij,if_neg hne,Option.map_some,kU,Nat.mul_one]
   generalize hmm:min (xs.length - i) ys.length=m at*
   have hds:((ys.take m).map λy=>Value.int .u8 y).length=m:=by simp;omega
   have hst:=ji (P:=P) (el:=elem) (fr:=fr) (off:=o+i) ((ys.take m).map λy=>Value.int .u8 y) 0 cc w h3 (by rw[hds];omega) (by simpa using h8) (by intro u hu;obtain⟨q,_,rfl⟩:=List.mem_map.1 hu;rfl)
   rw[hds]at hst
   simp only[Nat.add_zero]at hst
   have hrun:=uX (P:=P) (w:=w) (yT:=yT) (ty:=ty) (m:=m) (Tab.slice hT hsT) he hv hmm.symm hyb hst
   have hlo:bq xs i ys=xs.take i++ys.take m++xs.drop (i+m):=by
    unfold bq
    rcases Nat.le_total ys.length (xs.length - i)with h|h
    ·have:m=ys.length:=by omega
     rw[this,List.take_of_length_le h,List.take_of_length_le (Nat.le_refl _)]
    ·have:m=xs.length - i:=by omega
     rw[this,List.drop_of_length_le (by omega:xs.length≤i+ys.length),List.drop_of_length_le (by omega)]
   have hll:(bq xs i ys).length=xs.length:=by rw[hlo];simp;omega
   refine dG (d:=d) rfl (by simp[Region.wanted]) (hred hrun) (g m M _ _ (c.put (Mem.le.refl _) ?_ hnd (holds_int.2 ⟨rfl,by rw[←hmm];exact hmm▸hmr⟩)))
   refine c.st.turn hi (B:=λk=>k=b) ?_ ?_ ?_ rfl rfl rfl (by simp[fg])
   ·rintro S' hS'
    rcases hS' with⟨⟨_,h⟩,_,_⟩|⟨b',o',cap',h,h2',_⟩
    ·injection h with _ h _;omega
    ·cases h
     refine .inr ⟨b,o,cap,by rw[hll],h2',(cc.toList.take (o+i)++(ys.take m).map (λy=>Value.int .u8 y)++cc.toList.drop (o+i+m)).toArray,fr,by rw[eA (cH h3)];simp,?_,?_,by rw[hll];exact h6,by rw[hll];exact h7,?_⟩
     ·simp only[T.size,Nat.mul_one,hll]
      have hcl:cc.toList.length=o+cap:=by simpa using h5
      have hcl2:(cc.toList.drop o).length=cap:=by rw[List.length_drop,hcl];omega
      have e1:((cc.toList.take (o+i)++(ys.take m).map (λy=>Value.int .u8 y)++cc.toList.drop (o+i+m)).drop o).take xs.length=(bq xs i ys).map (λy=>Value.int .u8 y):=by
       rw[wO (by omega),hlo]
       have hti:(cc.toList.drop o).take i=(xs.take i).map λy=>Value.int .u8 y:=by
        rw[List.map_take,←hcells,List.take_take,Nat.min_eq_left hle]
       have hdr:((cc.toList.drop o).drop (i+m)).take (xs.length - (i+m))=(xs.drop (i+m)).map λy=>Value.int .u8 y:=by
        rw[List.map_drop,←hcells,List.drop_take]
       have hN:xs.length=((cc.toList.drop o).take i++(ys.take m).map (λy=>Value.int .u8 y)).length+(xs.length - (i+m)):=by
        rw[List.length_append,List.length_map,List.length_take,List.length_take,hcl2];omega
       conv=>lhs;rw[hN]
       rw[List.take_length_add_append,hdr,hti,List.map_append,List.map_append]
      show RepL (Rep (.int .u8) M) (((cc.toList.take (o+i)++(ys.take m).map (λy=>Value.int .u8 y)++cc.toList.drop (o+i+m)).drop o).take xs.length) (bq xs i ys)
      rw[e1]
      refine py ?_
      intro q hq
      rw[hlo]at hq
      rcases List.mem_append.1 hq with hq|hq
      ·rcases List.mem_append.1 hq with hq|hq
       ·exact hxb q (List.mem_of_mem_take hq)
       ·exact hyb q (List.mem_of_mem_take hq)
      ·exact hxb q (List.mem_of_mem_drop hq)
     ·have hcl:cc.toList.length=o+cap:=by simpa using h5
      simp only[T.size,Nat.mul_one,List.size_toArray,List.length_append,List.length_take,List.length_map,List.length_drop,hcl]
      omega
     ·have hsz:(cc.toList.take (o+i)++(ys.take m).map (λy=>Value.int .u8 y)++cc.toList.drop (o+i+m)).toArray.size=cc.size:=by
       have hcl:cc.toList.length=o+cap:=by simpa using h5
       simp only[List.size_toArray,List.length_append,List.length_take,List.length_map,List.length_drop,hcl]
       omega
      rw[hsz];exact h8
   ·rintro S' hS' k rfl
    rcases hS' with⟨⟨_,h⟩,_,_⟩|⟨b',o',cap',h,h2',_⟩
    ·injection h with _ h _;omega
    ·cases h;exact(h2' _).2 rfl
   ·intro k hk;rw[eA (cH h3),if_neg (λh=>hk h.symm)]
end
def nB(k:Int)(ks:List Int):List Int:=(dn (.int .i64) k () (ks.map λx=>(x,()))).map (·.1)
theorem tE{V:Type}(k:Int)(c:V)(l:List (Int×V)):(dn (.int .i64) k c l).map (·.1)=nB k (l.map (·.1)):=by
 have h:=uU (kt:= .int .i64) (λ_:V=>()) k c l
 have e:cu (λ_:V=>()) l=(l.map (·.1)).map λx=>(x,()):=by simp[cu]
 unfold nB
 rw[←e,←h,jf]
section
variable (P:Program)(I:DI)
def Res.disk(p:Value)(D:aB):Res:=Res.ex λ(g:Nat×Value)=>Res.all [Res.fact (p= .pointer (some ⟨g.1,0,none⟩)),
 Res.var g.1 I.disk DT (D.1,g.2,D.2.2.1,D.2.2.2.1,D.2.2.2.2.1,D.2.2.2.2.2.1,D.2.2.2.2.2.2,()),Res.dfiles P I g.2 D.2.1]
end
section
variable {P:Program}{I:DI}{Tb:Tab}{F:Fr}{n:Nat}{E E':Env}{L:List Res}{ops:Array Oper}{Q:Exit→Act→World→Prop}{rest:List Oper}{X:Act→World→Prop}
theorem gT{p:Value}{D:aB}(g:∀b mv,p= .pointer (some ⟨b,0,none⟩)→Go F n E (Res.var b I.disk DT (D.1,mv,D.2.2.1,D.2.2.2.1,D.2.2.2.2.1,D.2.2.2.2.2.1,D.2.2.2.2.2.2,())::Res.dfiles P I mv D.2.1::L) X):Go F n E (Res.disk P I p D::L) X:=
 fK λ⟨b,mv⟩=>ez (da λh=>g b mv h)
theorem ct{b:Nat}{mv:Value}{D:aB}(g:Go F n E (Res.disk P I (.pointer (some ⟨b,0,none⟩)) D::L) X):Go F n E (Res.var b I.disk DT (D.1,mv,D.2.2.1,D.2.2.2.1,D.2.2.2.2.1,D.2.2.2.2.2.1,D.2.2.2.2.2.2,())::Res.dfiles P I mv D.2.1::L) X:=λM a w c=>by
 refine g M a w {c with st:=c.st.sep_to λV hs=>?_}
 have hs':Sep M w ([Res.var b I.disk DT (D.1,mv,D.2.2.1,D.2.2.2.1,D.2.2.2.2.1,D.2.2.2.2.2.1,D.2.2.2.2.2.2,()),Res.dfiles P I mv D.2.1]++L) V:=hs
 obtain⟨A,B,sa,sb,d,e⟩:=Sep.split hs'
 exact⟨A,B,⟨(b,mv),iA rfl sa⟩,sb,d,e⟩
theorem nj{v:Value}{keys:List Int}(i:Nat)(hi:L[i]? =some (Res.dirty P I v keys))(g:∀l:List (Int×Int),l.map (·.1)=keys→Go F n E (L.set i (Res.map P I.int (.int .i64) (.int .i64) v l)) X):Go F n E L X:=λM a w c=>by
 have key:∀{L:List Res} {i:Nat} {V:Nat→Prop},Sep M w L V→L[i]? =some (Res.dirty P I v keys)→∃l:List (Int×Int),l.map (·.1)=keys∧Sep M w (L.set i (Res.map P I.int (.int .i64) (.int .i64) v l)) V:=by
  intro L
  induction L with
  |nil=>intro i V _ hi;simp at hi
  |cons R L ih=>
   rintro i V ⟨S,V',r,s,d,e⟩ hi
   cases i with
   |zero=>
    simp only[List.getElem?_cons_zero,Option.some.injEq]at hi;subst hi
    obtain⟨l,A,B,⟨hl,hA⟩,⟨C,D,r2,hD,_,e2⟩,_,e3⟩:=r
    refine⟨l,hl,S,V',?_,s,d,e⟩
    have:S=C:=by
     funext k
     apply propext
     rw[e3 k,e2 k]
     exact⟨λh=>h.elim (λh=>absurd h (hA k)) (λh=>h.elim id (λh=>absurd h (hD k))),λh=> .inr (.inl h)⟩
    rw[this];exact r2
   |succ i=>
    obtain⟨l,hl,s'⟩:=ih s (by simpa using hi)
    exact⟨l,hl,S,V',r,s',d,e⟩
 obtain⟨V,s,d⟩:=c.st.sep
 obtain⟨l,hl,s'⟩:=key s hi
 exact g l hl M a w {c with st:={c.st with sep:=⟨V,s',d⟩}}
theorem jg{v:Value}{l:List (Int×Int)}{keys:List Int}(i:Nat)(hi:L[i]? =some (Res.map P I.int (.int .i64) (.int .i64) v l))(hk:l.map (·.1)=keys)(g:Go F n E (L.set i (Res.dirty P I v keys)) X):Go F n E L X:=
 aw (R':=Res.dirty P I v keys) i hi (λ_ _ _ h=>⟨l,iA hk (ni h)⟩) g
theorem vB{v:Value}{e:TypeId}{t:T}{xs:List t.D}{k j:Nat}(i:Nat)(hi:L[i]? =some (Res.own v e t xs))(hk:k≤j)(hj:j≤xs.length)(g:Go F n E (L.set i (Res.own (ij t.size v k j) e t ((xs.take j).drop k))) X):Go F n E L X:=
 aw (R':=Res.own (ij t.size v k j) e t ((xs.take j).drop k)) i hi (λM S w h=>by
  rcases h with⟨⟨a0,rfl⟩,rfl,hS⟩|⟨b,o,cap,rfl,h2,cc,fr,h3,h4,h5,h6,h7,h8⟩
  ·left
   simp only[List.length_nil]at hj
   have hj:j=0:=by omega
   subst hj
   have hk:k=0:=by omega
   subst hk
   exact⟨⟨_,rfl⟩,by simp,hS⟩
  ·have hl:((xs.take j).drop k).length=j - k:=by simp;omega
   have r1:=(RepL.split (s:=t.size) (λc x h=>Rep.size h) j h4).1
   rw[List.take_take,Nat.min_eq_left (Nat.mul_le_mul_right _ hj)]at r1
   have r2:=(RepL.split (s:=t.size) (λc x h=>Rep.size h) k r1).2
   rw[List.drop_take,List.drop_drop,←Nat.sub_mul]at r2
   have hkc:k*t.size≤cap*t.size:=Nat.mul_le_mul_right _ (by omega)
   by_cases hck:cap=k
   ·
    have hz:j - k=0:=by omega
    left
    refine⟨⟨some ⟨b,o,none⟩,?_⟩,List.eq_nil_of_length_eq_zero (by omega),λq hq=>by rw[(h2 q).1 hq];exact cH h3⟩
    simp only[ij,if_pos hck,hz]
    rw[show cap - k=0 by omega]
   ·right
    refine⟨b,o+k*t.size,cap - k,?_,h2,cc,fr,h3,?_,?_,by rw[hl];omega,by rw[hl];simp only[most]at*;omega,h8⟩
    ·rw[hl]
     simp only[ij,if_neg hck,Option.map_some,Addr.add]
     by_cases hk0:k*t.size=0
     ·rw[if_pos hk0,hk0,Nat.add_zero]
     ·rw[if_neg hk0]
    ·rw[hl];exact r2
    ·rw[Nat.sub_mul];omega) g
theorem so{v:Value}{e:TypeId}{t:T}{xs:List t.D}{j:Nat}(i:Nat)(hi:L[i]? =some (Res.own v e t xs))(hj:j≤xs.length)(g:Go F n E (L.set i (Res.own (ij t.size v 0 j) e t (xs.take j))) X):Go F n E L X:=
 vB i hi (Nat.zero_le _) hj (by rw[List.drop_zero];exact g)
theorem ud{x:Operand}{e:TypeId}{t:T}{xs:List t.D}{tid tid':TypeId}{d:Nat}{ty:TypeId}{pos:String}{after:Array Edge}(hx:ev E x=some (.one (.sl e t) xs))(hu:P.underlying tid=some (.slice e))(hd:Nat.ble (d+1) n=true)
  (g:∀b,(b=true→xs=[])→Go F n ((d,.one .bool b)::E) L (wpList P ops Q rest)):Go F n E L (wpList P ops Q (⟨some d,.binOp .eql tid x (.const (.slice none 0 0)) tid',ty,pos,after,none⟩::rest)):=λM a w c=>by
 obtain⟨cs,e1,ad,cap,e2,hm,hcap,h4⟩:=aJ c hx
 have hv:a.eval x= .slice ad (List.length xs) cap:=by rw[e1,e2];rfl
 have hrun:∃b:Bool,(b=true→xs=[])∧(execOp a.eval ⟨some d,.binOp .eql tid x (.const (.slice none 0 0)) tid',ty,pos,after,none⟩).run P w= .ok (.value (.bool b)) w:=by
  refine⟨ad.isNone,λh=>?_,?_⟩
  ·cases ad with
   |none=>exact List.eq_nil_of_length_eq_zero h4
   |some _=>cases h
  ·refine bz ?_
   have hg:(eqGuard .eql tid x (.const (.slice none 0 0)) (a.eval x) (.slice none 0 0)).run P w= .ok () w:=by rw[hv];unfold eqGuard;rfl
   have hq:(Op.equal tid (a.eval x) (.slice none 0 0)).run P w= .ok ad.isNone w:=by
    rw[hv]
    show(Op.equalIn (9999+1) tid _ _).run P w=_
    rw[Op.equalIn,ao,run_underlying hu]
    cases ad<;>rfl
   show((do eqGuard .eql tid x (.const (.slice none 0 0)) (a.eval x) (.slice none 0 0);binOp .eql tid (a.eval x) (.slice none 0 0)):Sem Value).run P w=_
   rw[ao,hg]
   show(binOp .eql tid (a.eval x) (.slice none 0 0)).run P w=_
   rw[hv]at hq⊢
   simp only[binOp,ao,hq];rfl
 obtain⟨b,hb,he⟩:=hrun
 exact dG (d:=d) rfl (by simp[Region.wanted]) he (g b hb M _ _ (c.put (Mem.le.refl _) c.st (Nat.le_of_ble_eq_true hd) (holds_bool.2 rfl)))
end
theorem wU{kt:T}{V:Type}{k:kt.D}{y:V}{l:List (kt.D×V)}(ho:koks kt l)(hn:(l.map (·.1)).Nodup)(h:aA kt k l=some y):cm kt k y l=l:=by
 obtain⟨A,B,e1,_⟩:=nz ho hn h
 rw[sn (v:=y) ho hn e1,e1]
section
variable (P:Program)(I:DI)
def Res.diskif(p:Value)(D:aB)(e:Int):Res:=if e=0 then Res.disk P I p D else Res.fact (p=NV)
end
section
variable {P:Program}{I:DI}{Tb:Tab}{F:Fr}{n:Nat}{E E':Env}{L:List Res}{ops:Array Oper}{Q:Exit→Act→World→Prop}{rest:List Oper}{X:Act→World→Prop}
theorem nC{mv:Value}{fs:List (List Int×aF)}{name:List Int}{q:Value}{e:Int}(h:e=0):∀M S w,(Res.dfound P I mv fs name q e).sat M S w→(Res.dat P I mv fs name q).sat M S w:=λM S w g=>by
 unfold Res.dfound at g
 rwa [if_pos h]at g
theorem uH{p:Value}{D:aB}{e:Int}(h:e=0):∀M S w,(Res.diskif P I p D e).sat M S w→(Res.disk P I p D).sat M S w:=λM S w g=>by
 unfold Res.diskif at g
 rwa [if_pos h]at g
theorem zJ{mv:Value}{fs fs':List (List Int×aF)}{name:List Int}{f1 f2 f3:List Int}{fb:Nat}{sv tv dv:Value}{L:List Res}(hk:dU P .str I.str=true)
  (hfs:koks .str fs→(fs.map (·.1)).Nodup→cm .str name (f1,f2,f3) fs=fs')
  (g:Go F n E (Res.dat P I mv fs' name (.pointer (some ⟨fb,0,none⟩))::L) X):
  Go F n E (Res.var fb I.file FT (sv,tv,dv,())::Res.own sv I.byte (.int .u8) f1::Res.own tv I.byte (.int .u8) f2::Res.dirty P I dv f3::Res.dhole P I mv fs name (.pointer (some ⟨fb,0,none⟩))::L) X:=by
 intro M a w c
 have hkn:koks .str fs∧(fs.map (·.1)).Nodup:=by
  have c':Cfg F M n E (Res.dhole P I mv fs name (.pointer (some ⟨fb,0,none⟩))::Res.var fb I.file FT (sv,tv,dv,())::Res.own sv I.byte (.int .u8) f1::Res.own tv I.byte (.int .u8) f2::Res.dirty P I dv f3::L) a w:=
   {c with st:=c.st.sep_to λV hs=>Sep.perm (List.perm_middle (l₁:=[_,_,_,_]) (l₂:=L)) hs}
  have:Go F n E (Res.dhole P I mv fs name (.pointer (some ⟨fb,0,none⟩))::Res.var fb I.file FT (sv,tv,dv,())::Res.own sv I.byte (.int .u8) f1::Res.own tv I.byte (.int .u8) f2::Res.dirty P I dv f3::L) (λ_ _=>koks .str fs∧(fs.map (·.1)).Nodup):=by
   refine fK λes=>ez (da λ⟨h1,h2,h5⟩=>vA hk 0 rfl λh3 h4=>?_)
   intro M a w _
   rw[h1]
   exact⟨pmap_koks.2 h3,by rw[jf];exact h4⟩
  exact this M a w c'
 refine ia hk ?_ M a w c
 rw[hfs hkn.1 hkn.2]
 exact g
theorem jC{mv:Value}{fs:List (List Int×aF)}{name:List Int}{f:aF}{fb:Nat}{sv tv dv:Value}{L:List Res}(hk:dU P .str I.str=true)
  (hf:aA .str name fs=some f)
  (g:Go F n E (Res.dat P I mv fs name (.pointer (some ⟨fb,0,none⟩))::L) X):
  Go F n E (Res.var fb I.file FT (sv,tv,dv,())::Res.own sv I.byte (.int .u8) f.1::Res.own tv I.byte (.int .u8) f.2.1::Res.dirty P I dv f.2.2::Res.dhole P I mv fs name (.pointer (some ⟨fb,0,none⟩))::L) X:=
 zJ hk (λho hn=>wU ho hn hf) g
theorem Ca{b0:Nat}{D:aB}(g:∀mv,Go F n E (Res.var b0 I.disk DT (D.1,mv,D.2.2.1,D.2.2.2.1,D.2.2.2.2.1,D.2.2.2.2.2.1,D.2.2.2.2.2.2,())::Res.dfiles P I mv D.2.1::L) X):Go F n E (Res.disk P I (.pointer (some ⟨b0,0,none⟩)) D::L) X:=
 gT λb mv h=>by
  have:b0=b:=by simpa using h
  subst this;exact g mv
theorem Cb{mv:Value}{fs:List (List Int×aF)}{name:List Int}{q:Value}(g:Go F n E (Res.dfound P I mv fs name q 0::L) X):Go F n E (Res.dat P I mv fs name q::L) X:=g
theorem vC{mv:Value}{fs:List (List Int×aF)}{name:List Int}{q:Value}{e:Int}(he:e≠0)(g:Go F n E (Res.dfound P I mv fs name q e::L) X):Go F n E (Res.dfiles P I mv fs::L) X:=by
 have:Res.dfound P I mv fs name q e=Res.dfiles P I mv fs:=by unfold Res.dfound;rw[if_neg he]
 rw[this]at g
 exact g
end
section
variable {P:Program}{ops:Array Oper}{C:World→Prop}{K:Act→Prop}{is:List Nat}{fin:Array Bool}
def vD(P:Program)(ops:Array Oper)(C:World→Prop)(is:List Nat)(fin:Array Bool)(K:Act→Prop):Nat→Array Bool→Act→Prop
 |0,listed,a=>listed=fin∧K a
 |m+1,listed,a=>(∃i∈is,i∈Region.ready .any ops listed)∧∀i∈is,i∈Region.ready .any ops listed→qOp P ops C i (vD P ops C is fin K m (listed.setIfInBounds i true)) a
theorem Cc{i:Nat}{oi:Oper}{v:Value}(hi:ops[i]? =some oi)(hsel:∀(j:Nat) (o:Oper) cs b,ops[j]? =some o→o.op≠.select cs b)(hfin:∀j∈is,j∉Region.ready .any ops fin)(hmem:i∈is):
  ∀(m:Nat) (listed:Array Bool) (a:Act),
   (∀j oj,ops[j]? =some oj→j≠i→listed.getD j true=false→(∀e∈oj.after,Region.binds .any e=true→e.on≠i)→oi.apart ops oj=true)→
   i∈Region.ready .any ops listed→YieldsIn P ops C oi v a→
   vD P ops C is fin K m (listed.setIfInBounds i true) (a.put oi.dst v)→vD P ops C is fin K (m+1) listed a:=by
 intro m
 induction m with
 |zero=>
  intro listed a _ hr hy H
  refine⟨⟨i,hmem,hr⟩,λj hj hjr=>?_⟩
  by_cases hji:j=i
  ·subst hji;exact hy.qOp hi H
  ·have:=ready_mono hjr hji
   rw[H.1]at this
   exact absurd this (hfin j hj)
 |succ m ih=>
  intro listed a hfree hr hy H
  refine⟨⟨i,hmem,hr⟩,λj hj hjr=>?_⟩
  by_cases hji:j=i
  ·subst hji;exact hy.qOp hi H
  ·have h1:=H.2 j hj (ready_mono hjr hji)
   obtain⟨hjun,oj,hoj,hall⟩:=mem_ready.1 hjr
   have hnot:∀e∈oj.after,Region.binds .any e=true→e.on≠i:=λe he hb heq=>by
    have h1:=hall e he hb
    have h0:=(mem_ready.1 hr).1
    rw[heq]at h1
    rcases Nat.lt_or_ge i listed.size with h'|h'
    ·simp[h']at h0 h1;rw[h0]at h1;cases h1
    ·simp[Array.getElem?_eq_none h']at h1
   have h2:=qOp_put hoj (hfree j oj hoj hji hjun hnot) (λcs b=>hsel i oi cs b hi) (λcs b=>hsel j oj cs b hoj) hy h1
   have hfree':∀k ok,ops[k]? =some ok→k≠i→(listed.setIfInBounds j true).getD k true=false→
     (∀e∈ok.after,Region.binds .any e=true→e.on≠i)→oi.apart ops ok=true:=λk ok hk hki hun hno=>by
    refine hfree k ok hk hki ?_ hno
    by_cases hjk:j=k
    ·subst hjk;exact hjun
    ·rw[getD_set_ne true hjk]at hun;exact hun
   refine qOp_mono (λa' h3=>ih (listed.setIfInBounds j true) a' hfree' (ready_mono hr (Ne.symm hji)) h3.1 ?_) h2
   rw[Array.setIfInBounds_comm _ _ hji]
   exact h3.2
def vE(ops:Array Oper)(fin:Array Bool):List Nat→Array Bool→Bool
 |[],listed=>listed==fin
 |i::is,listed=>(Region.ready .any ops listed).contains i&&Region.free .any ops listed i&&vE ops fin is (listed.setIfInBounds i true)
theorem Aw(hs:Region.noSelect ops=true)(hfin:∀j∈is,j∉Region.ready .any ops fin):∀(l:List Nat) (listed:Array Bool) (a:Act),(∀i∈l,i∈is)→vE ops fin l listed=true→
  wpQuiet P ops C K (l.filterMap (ops[·]?)) a→vD P ops C is fin K l.length listed a
 |[],listed,a,_,hB,h=>⟨by simpa [vE]using hB,h⟩
 |i::l,listed,a,hl,hB,h=>by
  simp only[vE,Bool.and_eq_true]at hB
  obtain⟨⟨hr,hf⟩,hB'⟩:=hB
  have hr':i∈Region.ready .any ops listed:=by simpa using hr
  obtain⟨_,o,h0,_⟩:=mem_ready.1 hr'
  have h':wpQuiet P ops C K (o::l.filterMap (ops[·]?)) a:=by simpa [List.filterMap_cons,h0]using h
  have hst:qOp P ops C i (wpQuiet P ops C K (l.filterMap (ops[·]?))) a:=by unfold qOp;simp only[h0];exact h'
  obtain⟨v,hy,hK⟩:=yieldsIn_of_qOp h0 hst
  exact Cc h0 (Region.noSelect_spec hs) hfin (hl i (by simp)) l.length listed a (Region.free_spec h0 hf) hr' hy
   (Aw hs hfin l _ _ (λj hj=>hl j (by simp[hj])) hB' hK)
def full(is:List Nat)(listed:Array Bool):Array Bool:=is.foldl (λl i=>l.setIfInBounds i true) listed
theorem Cd(l:Array Bool)(i:Nat):(l.setIfInBounds i true).setIfInBounds i true=l.setIfInBounds i true:=by simp
theorem yh:∀(is:List Nat) (listed:Array Bool) (i:Nat),i∈is→full is (listed.setIfInBounds i true)=full is listed
 |k::is,listed,i,h=>by
  by_cases hk:i=k
  ·subst hk
   show full is ((listed.setIfInBounds i true).setIfInBounds i true)=full is (listed.setIfInBounds i true)
   rw[Cd]
  ·have:i∈is:=(List.mem_cons.1 h).elim (λh=>absurd h hk) id
   show full is ((listed.setIfInBounds i true).setIfInBounds k true)=full is (listed.setIfInBounds k true)
   rw[Array.setIfInBounds_comm _ _ hk,yh is _ _ this]
theorem vF{j:Nat}:∀(is:List Nat) (listed:Array Bool),j∉is→j∈Region.ready .any ops listed→j∈Region.ready .any ops (full is listed)
 |[],_,_,h=>h
 |k::is,listed,hn,h=>vF is _ (λh'=>hn (by simp[h'])) (ready_mono h (λe=>hn (by simp[e])))
theorem Ax{Q':Exit→Act→World→Prop}{fuel:Nat}{listed0:Array Bool}(hbar:∀i∈is,∀j∈Region.ready .any ops (full (is.filter (·!=i)) listed0),j∈is)(hQ:∀a w,C w→K a→wpAny P .any ops Q' fuel fin a w):
  ∀(m:Nat) (listed:Array Bool) (a:Act) (w:World),C w→(∀i∈is,listed.getD i true=false→full (is.filter (·!=i)) listed=full (is.filter (·!=i)) listed0)→
  vD P ops C is fin K m listed a→wpAny P .any ops Q' (fuel+m) listed a w
 |0,listed,a,w,hw,_,⟨h1,h2⟩=>by subst h1;exact hQ a w hw h2
 |m+1,listed,a,w,hw,hinv,⟨⟨i,hi,hir⟩,h⟩=>by
  have hmem:∀j∈Region.ready .any ops listed,j∈is:=λj hj=>by
   by_cases hji:j∈is
   ·exact hji
   ·have:=vF (is.filter (·!=i)) listed (λh=>hji (List.mem_filter.1 h).1) hj
    rw[hinv i hi (mem_ready.1 hir).1]at this
    exact hbar i hi j this
  refine⟨λh0=>(by rw[h0]at hir;cases hir),λj hj=>?_⟩
  refine wpOp_of_qOp hw (λa' w' hw' hs=>Ax hbar hQ m _ a' w' hw' (λk hk hun=>?_) hs) (h j (hmem j hj) hj)
  have hkj:j≠k:=λe=>by
   subst e
   have h0:=(mem_ready.1 hj).1
   rcases Nat.lt_or_ge j listed.size with h'|h'
   ·simp[h']at hun
   ·simp[Array.getElem?_eq_none h']at h0
  rw[yh _ _ _ (List.mem_filter.2 ⟨hmem j hj,by simp[hkj]⟩)]
  exact hinv k hk (by rwa [getD_set_ne true hkj]at hun)
def Ay(ops:Array Oper)(is:List Nat)(listed fin:Array Bool):Bool:=
 Region.noSelect ops&&vE ops fin is listed&&is.all (λj=> !(Region.ready .any ops fin).contains j)&&is.all λi=>(Region.ready .any ops (full (is.filter (·!=i)) listed)).all λj=>is.contains j
end
section
variable {P:Program}{Tb:Tab}{F:Fr}{n:Nat}{E E':Env}{L:List Res}{ops:Array Oper}{Q:Exit→Act→World→Prop}
theorem o4{fuel:Nat}{listed:Array Bool}(is:List Nat)(fin:Array Bool)(hc:Ay ops is listed fin=true)(g:QGo P ops F n E L (xO F L (wpAny P .any ops Q fuel fin)) (is.filterMap (ops[·]?))):Go F n E L (wpAny P .any ops Q (fuel+is.length) listed):=λM a w c=>by
 simp only[Ay,Bool.and_eq_true,List.all_eq_true,Bool.not_eq_true',List.contains_eq_mem,decide_eq_false_iff_not,decide_eq_true_eq]at hc
 obtain⟨⟨⟨h1,h2⟩,h3⟩,h4⟩:=hc
 exact Ax (C:=Cls F M L w) (K:=xO F L (wpAny P .any ops Q fuel fin) M w) h4 (λa' w' hw' hk=>hk w' hw') is.length listed a w ⟨c.st,λ_ _=>rfl⟩ (λi hi _=>rfl)
  (Aw h1 h3 is listed a (λi hi=>hi) h2 (g M a w c))
end
end Sx
namespace Sx
open Go Go.RowKit
def nD(B:TypeId→Nat):(t:T)→t.D→Prop
 | .int k,x=>rng k x
 | .str,x=>aQ x∧List.length x≤140737488351232
 | .pair a b,x=>nD B a x.1∧nD B b x.2
 | .arr n t,x=>List.length x=n∧∀y∈(show List t.D from x),nD B t y
 | .sl e t,x=>List.length x*B e≤140737488351232∧∀y∈(show List t.D from x),nD B t y
 | .bool,_=>True
 | .unit,_=>True
 | .raw _,_=>True
 | .ifc _ _ _,_=>True
def lc:(t:T)→t.D→Nat
 | .str,x=>List.length x+1
 | .pair a b,x=>lc a x.1+lc b x.2
 | .arr _ t,x=>((show List t.D from x).map (lc t)).sum
 | .sl _ t,x=>((show List t.D from x).map (lc t)).sum+1
 | .int _,_=>1
 | .bool,_=>1
 | .unit,_=>0
 | .raw _,_=>0
 | .ifc _ _ _,_=>0
structure BulkFn{H:Type}(bk:DataW H→Nat)(bka:List (DataW H)→Nat):Prop where
 one:∀d,1≤bk d
 str:∀l,bk (.lit (.string l))=l.length+1
 sl:∀e s,bka e+1≤bk (.slice e s)
 agg:∀p,bka p≤bk (.agg p)
 nil:bka []=0
 cons:∀d l,bka (d::l)=bk d+bka l
theorem BulkFn.sum_le{H α:Type}{bk:DataW H→Nat}{bka:List (DataW H)→Nat}(h:BulkFn bk bka){B:α→Nat}:∀{ys:List α} {xs:List (DataW H×List MemPlace)},ys.length=xs.length→
  (∀(i:Nat) y x,ys[i]? =some y→xs[i]? =some x→B y≤bk x.1)→(ys.map B).sum≤bka (xs.map (·.1))
 |[],[],_,_=>by simp
 |y::ys,x::xs,hl,hh=>by
  simp only[List.map_cons,List.sum_cons,h.cons]
  have h0:=hh 0 y x rfl rfl
  have h1:=h.sum_le (B:=B) (ys:=ys) (xs:=xs) (by simpa using hl) (λi a b ha hb=>hh (i+1) a b (by simpa using ha) (by simpa using hb))
  omega
 |[],_::_,hl,_=>by simp at hl
 |_::_,[],hl,_=>by simp at hl
def kC(P:Program):T→Bool
 | .raw _=>false
 | .ifc _ _ _=>false
 | .pair a b=>kC P a&&kC P b
 | .arr _ t=>kC P t
 | .sl e t=>Nat.ble 1 (P.bytesOf e)&&Nat.ble 1 t.size&&kC P t
 | .int _=>true
 | .bool=>true
 | .str=>true
 | .unit=>true
def jD(W:World):Mem:=λk=>W.heap[k]?
theorem EQ(b:ByteArray):bs (b.data.toList.map λc=>(c.toNat:Int))=b∧aQ (b.data.toList.map λc=>(c.toNat:Int)):=by
 constructor
 ·unfold bs
  simp
  have:(b.data.toList.map ((λc:Int=>UInt8.ofNat c.toNat)∘λc:UInt8=>(c.toNat:Int)))=b.data.toList:=by
   conv=>rhs;rw[←List.map_id b.data.toList]
   apply List.map_congr_left
   intro c _
   simp
  first|rw[this]|skip
 ·intro c hc
  simp only[List.mem_map]at hc
  obtain⟨d,_,rfl⟩:=hc
  have:=d.toNat_lt
  omega
theorem yi{α:Type}{R:List Value→α→Prop}{S:Nat→α→Prop}{s:Nat}:∀(n:Nat) {L:List Value},L.length=n*s→∀k,(∀i,i<n→∃v,R ((L.drop (i*s)).take s) v∧S (k+i) v)→
  ∃xs:List α,xs.length=n∧RepL R L xs∧∀(i:Nat) y,xs[i]? =some y→S (k+i) y
 |0,L,hL,_,_=>⟨[],rfl,by simpa [RepL]using hL,by simp⟩
 |n+1,L,hL,k,h=>by
  obtain⟨v,hv,sv⟩:=h 0 (by omega)
  have hL':L.length=n*s+s:=by rw[hL,Nat.add_mul];omega
  obtain⟨xs,h1,h2,h3⟩:=yi (R:=R) (S:=S) (s:=s) n (L:=L.drop s) (by simp;omega) (k+1) (λi hi=>by
   obtain⟨u,hu,su⟩:=h (i+1) (by omega)
   refine⟨u,?_,by rw[Nat.add_right_comm,Nat.add_assoc];exact su⟩
   rw[List.drop_drop]
   have:s+i*s=(i+1)*s:=by rw[Nat.add_mul];omega
   rw[this];exact hu)
  refine⟨v::xs,by simp[h1],⟨L.take s,L.drop s,(List.take_append_drop s L).symm,by simpa using hv,h2⟩,?_⟩
  intro i y hy
  cases i with
  |zero=>simp at hy;subst hy;exact sv
  |succ i=>
   have:=h3 i y (by simpa using hy)
   rw[Nat.add_right_comm,Nat.add_assoc]at this;exact this
theorem vG{α:Type}{xs:List α}{p:α→Prop}(h:∀(i:Nat) y,xs[i]? =some y→p y):∀y∈xs,p y:=λy hy=>by
 obtain⟨i,hi⟩:=List.getElem?_of_mem hy
 exact h i y hi
theorem cells?_some{w:World}{a:Addr}{n:Nat}{cs:List Value}(h:w.cells? 0 a n=some cs)(hn:1≤n):
  a.spot=none∧∃c el fr,w.heap[a.block]? =some (.cells c el fr)∧a.off+n≤c.size∧cs=(c.toList.drop a.off).take n:=by
 unfold World.cells? at h
 rw[if_pos (Nat.zero_le _)]at h
 have hl:=mapM_some_length h
 have hg:∀i,i<n→w.cell? (a.add i)=cs[i]? :=λi hi=>mapM_some_get h i i (by simp[hi])
 have bU:cs.length=n:=by simpa using hl
 have h0:=hg 0 (by omega)
 have hcs0:cs[0]? =some cs[0]:=by simp[bU,show 0<n by omega]
 rw[hcs0]at h0
 have ha:a.add 0=a:=by simp[Addr.add]
 rw[ha]at h0
 unfold World.cell? at h0
 split at h0
 ·rename_i c el fr hm
  split at h0
  ·cases h0
  ·rename_i hs
   have hs:a.spot=none:=by simpa using hs
   have each:∀i,i<n→c[a.off+i]? =cs[i]? :=by
    intro i hi
    have:=hg i hi
    by_cases h0:i=0
    ·subst h0
     rw[ha]at this
     unfold World.cell? at this
     rw[hm]at this
     simp only[hs]at this
     simpa using this
    ·simp only[Addr.add,if_neg h0,World.cell?,hm]at this
     simpa using this
   refine⟨hs,c,el,fr,hm,?_,?_⟩
   ·have h1:=each (n - 1) (by omega)
    have h2:cs[n - 1]? =some cs[n - 1]:=by simp[bU,show n - 1<n by omega]
    rw[h2]at h1
    have:=(Array.getElem?_eq_some_iff.1 h1).1
    omega
   ·apply List.ext_getElem?
    intro i
    by_cases hi:i<n
    ·rw[←each i hi,List.getElem?_take,if_pos hi,List.getElem?_drop]
     simp
    ·rw[List.getElem?_eq_none (by omega),List.getElem?_eq_none (by simp;omega)]
 ·cases h0
theorem nE{P:Program}{t:T}{tid:TypeId}(h:aW P t tid=true):P.cellsOf tid=t.size:=by
 obtain⟨i,_,hi,hs,_⟩:=lR h
 simp[Program.cellsOf,hi,hs]
theorem oh{H:Type}{P:Program}{e:TypeId}{n:Nat}:∀{l:List (DataW H)} {d:DataW H},d∈l→n∈d.weights P e→n∈DataW.weightsAll P e l
 |a::l,d,hd,hn=>by
  simp only[DataW.weightsAll,List.mem_append]
  rcases List.mem_cons.1 hd with rfl|hd
  ·exact .inl hn
  ·exact .inr (oh hd hn)
theorem Ce{k:IntKind}{n:Int}(h:(Lit.int k n).wf=true):rng k n:=by
 cases k<;>simp[Lit.wf,IntKind.min,IntKind.max,IntKind.signed,IntKind.bits]at h<;>simp only[rng,lo,hi]<;>omega
section
variable {H:Type}{enc:TypeId×Value→H}{P:Program}{W:World}{sp:Nat→Bool}{held:Bool}
def Gx(enc:TypeId×Value→H)(P:Program)(W:World)(sp:Nat→Bool)(held:Bool)(t:T):Prop:=∀{tid:TypeId},aW P t tid=true→kC P t=true→∀{fuel:Nat} {cs:List Value} {x:DataW H×List MemPlace},
 DataW.trod enc P W 0 sp held fuel tid cs=some x→(∀n∈x.1.weights P tid,n≤reachBytes)→∃v:t.D,Rep t (jD W) cs v∧nD P.bytesOf t v∧∀bk bka,BulkFn (H:=H) bk bka→lc t v≤bk x.1
def Ej(enc:TypeId×Value→H)(P:Program)(W:World)(sp:Nat→Bool)(held:Bool)(t:T):Prop:=∀{r:List Field} {off:Nat},dp P t r off=true→kC P t=true→∀{fuel:Nat} {cs:List Value} {xs:List (DataW H×List MemPlace)},
 cs.length=t.size→xs.length=r.length→(∀(i:Nat) (f:Field),r[i]? =some f→off≤f.offset∧DataW.trod enc P W 0 sp held fuel f.type ((cs.drop (f.offset - off)).take (P.cellsOf f.type))=xs[i]?)→
 (∀n∈DataW.weightsEach P (r.map (·.type)) (xs.map (·.1)),n≤reachBytes)→∃v:t.D,Rep t (jD W) cs v∧nD P.bytesOf t v∧∀bk bka,BulkFn (H:=H) bk bka→lc t v≤bka (xs.map (·.1))
theorem wo:∀{t:T} {r:List Field} {off:Nat},dp P t r off=true→∀(i:Nat) (f:Field),r[i]? =some f→off≤f.offset
 | .pair a b,f::r,off,h,i,g,hg=>by
   simp only[dp,Bool.and_eq_true]at h
   have:=Nat.eq_of_beq_eq_true h.1.1
   cases i with
   |zero=>simp at hg;subst hg;omega
   |succ i=>have:=wo h.2 i g (by simpa using hg);omega
 | .unit,[],_,_,_,_,hg=>by simp at hg
 | .pair _ _,[],_,h,_,_,_=>by simp[dp]at h
 | .unit,_::_,_,h,_,_,_=>by simp[dp]at h
 | .int _,_,_,h,_,_,_=>by simp[dp]at h
 | .bool,_,_,h,_,_,_=>by simp[dp]at h
 | .str,_,_,h,_,_,_=>by simp[dp]at h
 | .raw _,_,_,h,_,_,_=>by simp[dp]at h
 | .arr _ _,_,_,h,_,_,_=>by simp[dp]at h
 | .sl _ _,_,_,h,_,_,_=>by simp[dp]at h
 | .ifc _ _ _,_,_,h,_,_,_=>by simp[dp]at h
theorem came:∀t:T,Gx enc P W sp held t∧Ej enc P W sp held t
 | .int k=>⟨fun{tid} hc hr {fuel cs x} h hw=>by
    obtain⟨i,d,hi,_,hu,hd⟩:=bK hc
    split at hd
    ·rename_i k'
     obtain rfl:=nc hd
     obtain⟨n,rfl,_,hwf⟩:=DataW.trod_int hu h
     exact⟨n,⟨rfl,Ce hwf⟩,Ce hwf,λbk bka hb=>hb.one _⟩
    ·exact Bool.noConfusion hd,λh=>by simp[dp]at h⟩
 | .bool=>⟨fun{tid} hc hr {fuel cs x} h hw=>by
    obtain⟨i,d,hi,_,hu,hd⟩:=bK hc
    split at hd
    ·obtain⟨b,rfl,_⟩:=DataW.trod_bool hu h
     exact⟨b,rfl,trivial,λbk bka hb=>hb.one _⟩
    ·exact Bool.noConfusion hd,λh=>by simp[dp]at h⟩
 | .str=>⟨fun{tid} hc hr {fuel cs x} h hw=>by
    obtain⟨i,d,hi,_,hu,hd⟩:=bK hc
    split at hd
    ·obtain⟨s,rfl,rfl,_⟩:=DataW.trod_string hu h
     obtain⟨h1,h2⟩:=EQ s
     have:=hw s.data.toList.length (by simp[DataW.weights])
     have hl:(s.data.toList.map λc=>(c.toNat:Int)).length≤140737488351232:=by simpa [reachBytes]using this
     exact⟨_,⟨by rw[h1],h2,by simp only[most];omega⟩,⟨h2,hl⟩,λbk bka hb=>by rw[hb.str];simp[lc]⟩
    ·exact Bool.noConfusion hd,λh=>by simp[dp]at h⟩
 | .raw _=>⟨λ_ hr=>by simp[kC]at hr,λh=>by simp[dp]at h⟩
 | .ifc _ _ _=>⟨λ_ hr=>by simp[kC]at hr,λh=>by simp[dp]at h⟩
 | .unit=>⟨fun{tid} hc hr {fuel cs x} h hw=>by
    obtain⟨i,d,hi,hs,hu,hd⟩:=bK hc
    split at hd
    ·rename_i fs
     obtain⟨xs,n,_,_,hl,_⟩:=DataW.trod_struct hu h
     have:P.cellsOf tid=0:=by simp[Program.cellsOf,hi,hs]
     rw[this]at hl
     exact⟨(),by simpa [Rep]using hl,trivial,λbk bka hb=>Nat.zero_le _⟩
    ·exact Bool.noConfusion hd,fun{r off} h hr {fuel cs xs} hl _ _ _=>⟨(),by simpa [Rep,T.size]using hl,trivial,λbk bka hb=>Nat.zero_le _⟩⟩
 | .arr m u=>⟨fun{tid} hc hr {fuel cs x} h hw=>by
    have hcells:=nE hc
    obtain⟨i,d,hi,hs,hu,hd⟩:=bK hc
    split at hd
    ·rename_i m' e
     simp only[Bool.and_eq_true]at hd
     obtain rfl:=Nat.eq_of_beq_eq_true hd.1
     have hce:=nE hd.2
     obtain⟨xs,n,_,rfl,hl,hxl,hx⟩:=DataW.trod_array hu h
     rw[hcells]at hl
     have:=yi (R:=Rep u (jD W)) (S:=λi v=>nD P.bytesOf u v∧∀x,xs[i]? =some x→∀bk bka,BulkFn (H:=H) bk bka→lc u v≤bk x.1) (s:=u.size) m hl 0 (λi hi=>by
      have h1:=hx i hi
      rw[hce]at h1
      have hlt:i<xs.length:=by omega
      rw[List.getElem?_eq_getElem hlt]at h1
      obtain⟨v,q1,q2,q3⟩:=(came u).1 hd.2 (by simpa [kC]using hr) h1 (λn hn=>hw n (by
       simp only[DataW.weights,hu]
       exact oh (List.mem_map.2 ⟨xs[i],List.getElem_mem _,rfl⟩) hn))
      exact⟨v,q1,q2,λx hx=>by rw[Nat.zero_add,List.getElem?_eq_getElem hlt]at hx;cases hx;exact q3⟩)
     obtain⟨ys,h1,h2,h3⟩:=this
     exact⟨ys,⟨h1,h2⟩,⟨h1,vG λi y hy=>(h3 i y hy).1⟩,λbk bka hb=>Nat.le_trans (hb.sum_le (by rw[h1,hxl]) λi y x hy hx=>(h3 i y hy).2 x (by rw[Nat.zero_add];exact hx) bk bka hb) (hb.agg _)⟩
    ·exact Bool.noConfusion hd,λh=>by simp[dp]at h⟩
 | .sl e u=>⟨fun{tid} hc hr {fuel cs x} h hw=>by
    simp only[aW,Bool.and_eq_true]at hc
    obtain⟨hc1,hcu⟩:=hc
    obtain⟨i,d,hi,hs,hu,hd⟩:=bK hc1
    simp only[kC,Bool.and_eq_true]at hr
    obtain⟨⟨hB,hS⟩,hru⟩:=hr
    have hB:=Nat.le_of_ble_eq_true hB
    have hS:=Nat.le_of_ble_eq_true hS
    split at hd
    ·rename_i e'
     obtain rfl:=Nat.eq_of_beq_eq_true hd
     have hce:=nE hcu
     rcases DataW.trod_slice hu h with⟨rfl,rfl⟩|⟨a,len,cap,elems,rest,n,_,rfl,rfl,_,hlc,hcm,hel,hx,_⟩
     ·exact⟨[],⟨none,0,rfl,by simp,by simp,rfl⟩,⟨by simp,by simp⟩,λbk bka hb=>by simpa [lc]using hb.one _⟩
     ·have hbytes:(elems.length+rest.length)*P.bytesOf e≤reachBytes:=by
       have:=hw ((elems.length+rest.length)*P.bytesOf e) (by simp[DataW.weights,hu])
       exact this
      have hlb:len*P.bytesOf e≤140737488351232:=by
       refine Nat.le_trans ?_ hbytes
       rw[←hel,Nat.add_mul];omega
      have hlm:len≤140737488351232:=Nat.le_trans (by simpa using Nat.mul_le_mul_left len hB) hlb
      rw[hce]at hx
      have each:∀i,i<len→∃ci,W.cells? 0 (a.add (i*u.size)) u.size=some ci∧∃v:u.D,Rep u (jD W) ci v∧nD P.bytesOf u v∧∀x,elems[i]? =some x→∀bk bka,BulkFn (H:=H) bk bka→lc u v≤bk x.1:=by
       intro i hi
       have h1:=hx i hi
       have hlt:i<elems.length:=by omega
       rw[List.getElem?_eq_getElem hlt]at h1
       obtain⟨ci,h2,h3⟩:=Option.bind_eq_some_iff.1 h1
       obtain⟨v,q1,q2,q3⟩:=(came u).1 hcu hru h3 (λn hn=>hw n (by
        simp only[DataW.weights,hu,List.mem_cons,List.mem_append]
        exact .inr (.inl (oh (List.mem_map.2 ⟨elems[i],List.getElem_mem _,rfl⟩) hn))))
       exact⟨ci,h2,v,q1,q2,λx hx=>by rw[List.getElem?_eq_getElem hlt]at hx;cases hx;exact q3⟩
      rcases Nat.eq_zero_or_pos len with h0|h0
      ·exact⟨[],⟨some a,cap,by simp[h0],by simp,by simp,.inl rfl⟩,⟨by simp,by simp⟩,λbk bka hb=>by simpa [lc]using hb.one _⟩
      ·obtain⟨c0,hc0,_⟩:=each 0 h0
       have ha0:a.add (0*u.size)=a:=by simp[Addr.add]
       rw[ha0]at hc0
       obtain⟨hsp,c,el,fr,hm,_,_⟩:=cells?_some hc0 hS
       have place:∀i,i<len→a.off+i*u.size+u.size≤c.size∧∃v:u.D,Rep u (jD W) ((c.toList.drop (a.off+i*u.size)).take u.size) v∧nD P.bytesOf u v∧∀x,elems[i]? =some x→∀bk bka,BulkFn (H:=H) bk bka→lc u v≤bk x.1:=by
        intro i hi
        obtain⟨ci,h1,h2⟩:=each i hi
        obtain⟨_,c',el',fr',hm',hs',hcs⟩:=cells?_some h1 hS
        have hblk:(a.add (i*u.size)).block=a.block:=by unfold Addr.add;split<;>rfl
        have hoff:(a.add (i*u.size)).off=a.off+i*u.size:=by
         unfold Addr.add;split
         ·rename_i hz;omega
         ·rfl
        rw[hblk,hm]at hm'
        cases hm'
        rw[hoff]at hs' hcs
        rw[hcs]at h2
        exact⟨hs',h2⟩
       have htot:a.off+len*u.size≤c.size:=by
        have:=(place (len - 1) (by omega)).1
        have e2:(len - 1)*u.size+u.size=len*u.size:=by
         rw[←Nat.succ_mul];congr 1;omega
        omega
       obtain⟨ys,h1,h2,h3⟩:=yi (R:=Rep u (jD W)) (S:=λi v=>nD P.bytesOf u v∧∀x,elems[i]? =some x→∀bk bka,BulkFn (H:=H) bk bka→lc u v≤bk x.1) (s:=u.size) len (L:=(c.toList.drop a.off).take (len*u.size)) (by simp;omega) 0 (λi hi=>by
        obtain⟨_,v,hv,sv⟩:=place i hi
        refine⟨v,?_,by rw[Nat.zero_add];exact sv⟩
        have hle:i*u.size+u.size≤len*u.size:=by rw[←Nat.succ_mul];exact Nat.mul_le_mul_right _ hi
        have e:=gQ (c.toList.drop a.off) 0 (len*u.size) (i*u.size) u.size hle
        rw[List.drop_zero,List.drop_drop,Nat.zero_add]at e
        rw[e];exact hv)
       exact⟨ys,⟨some a,cap,by rw[h1],by rw[h1];simp only[most];omega,by rw[h1];exact hlc,.inr ⟨hsp,c,el,fr,hm,by rw[h1];exact htot,by rw[h1];exact h2⟩⟩,⟨by rw[h1];exact hlb,vG λi y hy=>(h3 i y hy).1⟩,
        λbk bka hb=>by
         have hs:=hb.sum_le (B:=lc u) (ys:=ys) (xs:=elems) (by rw[h1,hel]) λi y x hy hx=>(h3 i y hy).2 x (by rw[Nat.zero_add];exact hx) bk bka hb
         have hs2:=hb.sl (elems.map (·.1)) (rest.map (·.1))
         simp only[lc]
         exact Nat.le_trans (Nat.succ_le_succ hs) hs2⟩
    ·exact Bool.noConfusion hd,λh=>by simp[dp]at h⟩
 | .pair a b=>by
   have hF:Ej enc P W sp held (.pair a b):=fun{r off} h hr {fuel cs xs} hl hxl hx hw=>by
    cases r with
    |nil=>simp[dp]at h
    |cons f r=>
     have hoffs:=wo h
     simp only[dp,Bool.and_eq_true]at h
     obtain⟨⟨h1,h2⟩,h3⟩:=h
     have h1:=Nat.eq_of_beq_eq_true h1
     simp only[kC,Bool.and_eq_true]at hr
     cases xs with
     |nil=>simp at hxl
     |cons x xs=>
      have hca:=nE h2
      simp only[T.size]at hl
      have e0:=(hx 0 f rfl).2
      rw[h1,Nat.sub_self,List.drop_zero,hca]at e0
      simp only[List.map_cons,DataW.weightsEach,List.mem_append]at hw
      obtain⟨va,ra,sa,ba⟩:=(came a).1 h2 hr.1 (by simpa using e0) (λn hn=>hw n (.inl hn))
      obtain⟨vb,rb,sb,bb⟩:=(came b).2 h3 hr.2 (fuel:=fuel) (cs:=cs.drop a.size) (xs:=xs) (by simp;omega) (by simpa using hxl) (λi g hg=>by
       have hge:=wo h3 i g hg
       have:=(hx (i+1) g (by simpa using hg)).2
       refine⟨hge,?_⟩
       rw[List.drop_drop]
       have e:a.size+(g.offset - (off+a.size))=g.offset - off:=by omega
       rw[e];simpa using this) (λn hn=>hw n (.inr hn))
      exact⟨(va,vb),⟨cs.take a.size,cs.drop a.size,(List.take_append_drop _ _).symm,ra,rb⟩,⟨sa,sb⟩,λbk bka hb=>by
       have q1:=ba bk bka hb
       have q2:=bb bk bka hb
       simp only[lc,List.map_cons,hb.cons];omega⟩
   refine⟨fun{tid} hc hr {fuel cs x} h hw=>?_,hF⟩
   have hcells:=nE hc
   obtain⟨i,d,hi,hs,hu,hd⟩:=bK hc
   split at hd
   ·rename_i fs
    split at hd
    ·rename_i f r hfs
     have hst:dp P (.pair a b) (f::r) 0=true:=by
      simp only[dp,Nat.zero_add];exact hd
     obtain⟨xs,n,_,rfl,hl,hxl,hx⟩:=DataW.trod_struct hu h
     rw[hcells]at hl
     obtain⟨v,q1,q2,q3⟩:=hF hst hr (fuel:=n) hl (by rw[hxl,←hfs];simp) (λi g hg=>⟨Nat.zero_le _,by
      rw[Nat.sub_zero]
      exact hx i g (by rw[←hfs]at hg;simpa using hg)⟩) (λn hn=>hw n (by
      simp only[DataW.weights,hu]
      rw[hfs];exact hn))
     exact⟨v,q1,q2,λbk bka hb=>Nat.le_trans (q3 bk bka hb) (hb.agg _)⟩
    ·cases hd
   ·cases hd
@[reducible] def uY:List T→Type
  |[]=>Unit
  |t::r=>t.D×uY r
@[reducible] def tvs:(ts:List T)→uY ts→List TV
  |[],_=>[]
  |t::r,x=> .one t x.1::tvs r x.2
@[reducible] def vH(B:TypeId→Nat):(ts:List T)→uY ts→Prop
  |[],_=>True
  |t::r,x=>nD B t x.1∧vH B r x.2
@[reducible] def Bb:(ts:List T)→uY ts→Nat
  |[],_=>0
  |t::r,x=>lc t x.1+Bb r x.2
def kX(P:Program):List T→List TypeId→Bool
 |[],[]=>true
 |t::r,i::is=>aW P t i&&kC P t&&P.readableRec i&&Nat.ble (i+1) P.types.size&&kX P r is
 |_,_=>false
theorem Di{t:T}{tid:TypeId}(hc:aW P t tid=true)(hr:kC P t=true){v:Value}{base:Nat}(hv:Value.okWide P W .any base tid v){x:t.D}(h:Rep t (jD W) v.cells.toList x):Holds t (jD W) v x:=by
 refine⟨_,?_,h⟩
 have agg:t.isAgg=true→v=mk t v.cells.toList:=by
  intro ha
  obtain⟨i,d,hi,hs,hu,hd⟩:=lR hc
  rw[ha]at hd
  unfold Value.okWide at hv
  rw[hu]at hv
  cases d<;>simp[AZ]at hd
  all_goals
   obtain⟨cs,rfl,_,_⟩:=hv
   simp[mk,ha,Value.cells]
 by_cases ha:t.isAgg=true
 ·exact agg ha
 ·have ha:t.isAgg=false:=by simpa using ha
  obtain⟨u,e,ho⟩:=nb ha h
  have hna:∀cs,v≠.agg cs:=by
   rintro cs rfl
   cases t<;>simp[T.isAgg]at ha<;>simp only[aW,Bool.and_eq_true]at hc
   case raw=>simp[kC]at hr
   case ifc=>simp[kC]at hr
   case sl=>
    obtain⟨_,d,_,_,hu,hd⟩:=bK hc.1
    unfold Value.okWide at hv;rw[hu]at hv
    cases d<;>simp at hd<;>simp[Cell.okWide,Cell.ok,hu]at hv
   all_goals
    obtain⟨_,d,_,_,hu,hd⟩:=bK hc
    unfold Value.okWide at hv;rw[hu]at hv
    cases d<;>simp at hd<;>simp[Cell.okWide,Cell.ok,hu]at hv
  have:v.cells.toList=[v]:=by
   cases v<;>first|rfl|exact absurd rfl (hna _)
  rw[this];simp[mk,ha]
theorem yj(hl:True):∀(ts:List T) {tids:List TypeId} {vs:List Value} {ds:List (DataW H)} {ps:List MemPlace} {base:Nat},kX P ts tids=true→DataW.TrodAll enc P W 0 sp held tids vs ds ps→
  (∀(j:Nat) t v,tids[j]? =some t→vs[j]? =some v→Value.okWide P W .any base t v)→(∀n∈DataW.weightsEach P tids ds,n≤reachBytes)→∃xs:uY ts,HoldAll (jD W) (tvs ts xs) vs∧vH P.bytesOf ts xs∧∀bk bka,BulkFn (H:=H) bk bka→Bb ts xs≤bka ds
 |[],[],[],[],_,_,_,_,_,_=>⟨(),.nil,trivial,λ_ _ _=>Nat.zero_le _⟩
 |t::r,i::is,v::vs,d::ds,ps,base,hc,h,hv,hw=>by
  simp only[kX,Bool.and_eq_true]at hc
  obtain⟨⟨⟨⟨h1,h2⟩,_⟩,_⟩,h3⟩:=hc
  obtain⟨p,q,⟨fuel,ht⟩,hr,_⟩:=h
  simp only[DataW.weightsEach,List.mem_append]at hw
  obtain⟨x,rx,sx,bx⟩:=(came (sp:=sp) (held:=held) t).1 h1 h2 ht (λn hn=>hw n (.inl hn))
  obtain⟨xs,hh,ss,bs⟩:=yj hl r h3 hr (λj t' v' hj hv'=>hv (j+1) t' v' (by simpa using hj) (by simpa using hv')) (λn hn=>hw n (.inr hn))
  exact⟨(x,xs),.cons (Di h1 h2 (hv 0 i v rfl rfl) rx) hh,⟨sx,ss⟩,λbk bka hb=>by
   have q1:lc t x≤bk d:=bx bk bka hb
   have q2:=bs bk bka hb
   simp only[Bb,hb.cons];omega⟩
 |[],[],_::_,_,_,_,_,h,_,_=>h.elim
 |[],[],[],_::_,_,_,_,h,_,_=>h.elim
 |[],_::_,_,_,_,_,h,_,_,_=>by simp[kX]at h
 |_::_,[],_,_,_,_,h,_,_,_=>by simp[kX]at h
 |_::_,_::_,[],_,_,_,_,h,_,_=>h.elim
 |_::_,_::_,_::_,[],_,_,_,h,_,_=>h.elim
theorem wV(hl:laidOutB P=true){W':World}(hb:Below W.heap.size W W'):∀(ts:List T) {tids:List TypeId} {vs:List Value} {ds:List (DataW H)} {ps:List MemPlace},kX P ts tids=true→
  DataW.TrodAll enc P W 0 (λ_=>true) true tids vs ds ps→(∀x∈ps,x.block<W.heap.size)→∀sp':Nat→Bool,(∀x∈ps,sp' x.block=true)→DataW.TrodAll enc P W' 0 sp' true tids vs ds ps
 |[],[],[],[],_,_,h,_,_,_=>h
 |t::r,i::is,v::vs,d::ds,ps,hc,h,hlt,sp',hs=>by
  simp only[kX,Bool.and_eq_true]at hc
  obtain⟨⟨⟨_,h2⟩,h4⟩,h3⟩:=hc
  obtain⟨p,q,ht,hr,rfl⟩:=h
  exact⟨p,q,WideElems.Trod_stays hl h2 (Nat.le_of_ble_eq_true h4) ht (λx hx=>hb.same (hlt x (by simp[hx]))) (λx hx=>hs x (by simp[hx])),
   wV hl hb r h3 hr (λx hx=>hlt x (by simp[hx])) sp' (λx hx=>hs x (by simp[hx])),rfl⟩
 |[],[],_::_,_,_,_,h,_,_,_=>h.elim
 |[],[],[],_::_,_,_,h,_,_,_=>h.elim
 |[],_::_,_,_,_,h,_,_,_,_=>by simp[kX]at h
 |_::_,[],_,_,_,h,_,_,_,_=>by simp[kX]at h
 |_::_,_::_,[],_,_,_,h,_,_,_=>h.elim
 |_::_,_::_,_::_,[],_,_,h,_,_,_=>h.elim
end
theorem yk{H:Type}{enc:TypeId×Value→H}{P:Program}{w:World}{base:Nat}{sp:Nat→Bool}{held:Bool}:∀{ts:List TypeId} {vs:List Value} {ds:List (DataW H)} {ps:List MemPlace},DataW.TrodAll enc P w base sp held ts vs ds ps→ds.length=ts.length
 |[],[],[],_,_=>rfl
 |_::_,_::_,_::_,_,⟨_,_,_,h,_⟩=>by simp[yk h]
 |[],_::_,_,_,h=>h.elim
 |[],[],_::_,_,h=>h.elim
 |_::_,[],_,_,h=>h.elim
 |_::_,_::_,[],_,h=>h.elim
section
variable {P:Program}{I:DI}{Tb:Tab}{F:Fr}{n:Nat}{E E':Env}{L:List Res}{ops:Array Oper}{Q:Exit→Act→World→Prop}{rest:List Oper}{X:Act→World→Prop}
theorem ue{R:Res}:∀{L:List Res} {i:Nat},L[i]? =some R→∃L',L.Perm (R::L')
 |[],i,h=>by simp at h
 |S::L,0,h=>by simp only[List.getElem?_cons_zero,Option.some.injEq]at h;subst h;exact⟨L,.refl _⟩
 |S::L,i+1,h=>by
  obtain⟨L',p⟩:=ue (L:=L) (i:=i) (by simpa using h)
  exact⟨S::L',(p.cons S).trans (.swap _ _ _)⟩
theorem FD{m:Operand}{z mv q:Value}{e mt:TypeId}{fs:List (List Int×aF)}{name:List Int}(hk:dU P .str I.str=true)(i:Nat)(hm:ev E m=some (.one (.raw z) mv))(hi:L[i]? =some (Res.dat P I mv fs name q))(ht:P.underlying mt=some (.map I.str e))(hl:fs.length≤most):
  Yields Same P F n E L (.call ⟨.builtin .len,#[m],#[mt]⟩) (.one (.int .i64) fs.length):=λo ho M a w c=>by
 obtain⟨L',p⟩:=ue hi
 have c':Cfg F M n E (Res.dat P I mv fs name q::L') a w:={c with st:=c.st.perm p}
 have key:Go F n E (Res.dat P I mv fs name q::L') (λa w=>∀o:Oper,o.op= .call ⟨.builtin .len,#[m],#[mt]⟩→∃v,Holds (.int .i64) (λ_=>none) v (fs.length:Int)∧∀w',Same w w'→(execOp a.eval o).run P w'= .ok (.value v) w'):=by
  refine uV hk λes h1 h2 h3 h4=>?_
  intro M a w c o ho
  have bU:(cu (λy:Value×aF=>y.1) es).length=fs.length:=by rw[h1];simp[cu]
  obtain⟨v,hv,hr⟩:=De (vt:= .raw NV) 0 hm rfl ht (by rw[bU];exact hl) o ho M a w c
  rw[bU]at hv
  exact⟨v,holds_int.2 (holds_int.1 hv),hr⟩
 obtain⟨v,hv,hr⟩:=key M a w c' o ho
 exact⟨v,holds_int.2 (holds_int.1 hv),hr⟩
end
def fq{K σ:Type}(step:K→σ→Option σ):List K→σ→Option σ
 |[],s=>some s
 |k::l,s=>(step k s).bind (fq step l)
theorem pY{K σ:Type}(step:K→σ→Option σ):∀(a b:List K) (s:σ),fq step (a++b) s=(fq step a s).bind (fq step b)
 |[],_,_=>rfl
 |k::a,b,s=>by
  show(step k s).bind (fq step (a++b))=((step k s).bind (fq step a)).bind (fq step b)
  cases step k s with
  |none=>rfl
  |some s'=>exact pY step a b s'
def sq{K σ:Type}(step:K→σ→Option σ)(G:σ→List K→Prop):Prop:=
 (∀s a l s',G s (a::l)→step a s=some s'→G s' l)∧(∀s l l',List.Perm l l'→G s l→G s l')∧∀s a b l,a≠b→G s (a::b::l)→(step a s).bind (step b)=(step b s).bind (step a)
theorem ym{K σ:Type}{step:K→σ→Option σ}(h:∀a b,a≠b→∀s,(step a s).bind (step b)=(step b s).bind (step a)):sq step (λ_ _=>True):=
 ⟨λ_ _ _ _ _ _=>trivial,λ_ _ _ _ _=>trivial,λs a b _ hn _=>h a b hn s⟩
theorem vI{K σ:Type}{step:K→σ→Option σ}{G:σ→List K→Prop}(hc:sq step G){a b:List K}(p:a.Perm b):a.Nodup→∀s,G s a→fq step a s=fq step b s:=by
 induction p with
 |nil=>intro _ _ _;rfl
 |cons k p ih=>
  intro hn s hg
  show(step k s).bind _=(step k s).bind _
  cases hs:step k s with
  |none=>rfl
  |some s'=>exact ih (List.nodup_cons.1 hn).2 s' (hc.1 s k _ s' hg hs)
 |swap x y l=>
  intro hn s hg
  show(step y s).bind (λs=>(step x s).bind (fq step l))=(step x s).bind (λs=>(step y s).bind (fq step l))
  have hne:y≠x:=λe=>by subst e;simp at hn
  have h1:(step y s).bind (λs=>(step x s).bind (fq step l))=((step y s).bind (step x)).bind (fq step l):=by cases step y s<;>rfl
  have h2:(step x s).bind (λs=>(step y s).bind (fq step l))=((step x s).bind (step y)).bind (fq step l):=by cases step x s<;>rfl
  rw[h1,h2,hc.2.2 s y x l hne hg]
 |trans p1 p2 ih1 ih2=>
  intro hn s hg
  rw[ih1 hn s hg,ih2 (p1.nodup_iff.1 hn) s (hc.2.1 s _ _ p1 hg)]
theorem Az{K σ:Type}{step:K→σ→Option σ}{G:σ→List K→Prop}(hc:sq step G){todo:List K}:∀(done:List K) (s s':σ),G s (done++todo)→fq step done s=some s'→G s' todo
 |[],s,s',hg,h=>by cases h;exact hg
 |k::done,s,s',hg,h=>by
  have h':(step k s).bind (fq step done)=some s':=h
  cases hs:step k s with
  |none=>rw[hs]at h';cases h'
  |some s1=>rw[hs]at h';exact Az hc done s1 s' (hc.1 s k _ s1 hg hs) h'
section
variable {P:Program}{I:DI}{Tb:Tab}{F:Fr}{n:Nat}{E E':Env}{L:List Res}{ops:Array Oper}{Q:Exit→Act→World→Prop}{rest:List Oper}{X:Act→World→Prop}
def Ek(F:Fr)(n:Nat){K σ γ:Type}(step:K→σ→Option σ)(S:σ→γ→Env)(R:List K→σ→γ→List Res)(todo:List K)(s:σ)(a:Act)(w:World):Prop:=
 ∃A k B s' g',todo=A++k::B∧step k s=some s'∧∃M,Cfg F M n (S s' g') (R (A++B) s' g') a w
theorem uf{K σ γ:Type}{step:K→σ→Option σ}{S:σ→γ→Env}{R:List K→σ→γ→List Res}{todo A B:List K}{k:K}{s s':σ}(g':γ)(ht:todo=A++k::B)(hs:step k s=some s')(hE:E=S s' g')(hL:L=R (A++B) s' g'):Go F n E L (Ek F n step S R todo s):=
 λM a w c=>⟨A,k,B,s',g',ht,hs,M,by subst hE;subst hL;exact c⟩
theorem qJ{K σ γ:Type}{c1:Code}{step:K→σ→Option σ}(Gd:σ→List K→Prop)(hc:sq step Gd){keys:List K}(hn:keys.Nodup){s0 rr:σ}(hG:Gd s0 keys)(hall:fq step keys s0=some rr)(S:σ→γ→Env)(R:List K→σ→γ→List Res)(g0:γ)(hE:E=S s0 g0)(hL:L=R keys s0 g0)
  (round:∀todo s g,(todo=[]→s=rr)→(∀A k B,todo=A++k::B→∃s',step k s=some s')→Go F n (S s g) (R todo s g) (c1.wp P (Exit.then (Ek F n step S R todo s) Q))):Go F n E L ((Code.loop c1).wp P Q):=by
 intro M a w c
 refine nv (λm a w=>∃todo s g M,todo.length=m∧(∃done,(done++todo).Perm keys∧fq step done s0=some s)∧Cfg F M n (S s g) (R todo s g) a w) ?_ (m:=keys.length) ⟨keys,s0,g0,M,rfl,⟨[],by simp,rfl⟩,by subst hE;subst hL;exact c⟩
 rintro m a w ⟨todo,s,g,M',rfl,⟨done,hp,hd⟩,c'⟩
 have hnd:(done++todo).Nodup:=hp.nodup_iff.2 hn
 have hall':fq step (done++todo) s0=some rr:=(vI hc hp hnd s0 (hc.2.1 _ _ _ hp.symm hG)).trans hall
 have hGs:Gd s todo:=Az hc done s0 s (hc.2.1 _ _ _ hp.symm hG) hd
 have h1:fq step todo s=some rr:=by rw[pY,hd]at hall';exact hall'
 have hone:∀A k B,todo=A++k::B→∃s',step k s=some s':=λA k B e=>by
  have p:todo.Perm (k::(A++B)):=by rw[e];exact List.perm_middle
  have h2:fq step (k::(A++B)) s=some rr:=(vI hc p (List.nodup_append.1 hnd).2.1 s hGs).symm.trans h1
  have h3:(step k s).bind (fq step (A++B))=some rr:=h2
  cases hs:step k s with
  |none=>rw[hs]at h3;cases h3
  |some s'=>exact⟨s',rfl⟩
 refine wp_mono (round todo s g (λe=>by subst e;exact Option.some.inj h1) hone M' a w c') ?_
 intro e a w q
 cases e<;>first|exact q|skip
 obtain⟨A,k,B,s',g',ht,hs,M'',c''⟩:=q
 refine⟨(A++B).length,?_,A++B,s',g',M'',rfl,⟨done++[k],?_,?_⟩,c''⟩
 ·rw[ht];simp
 ·refine List.Perm.trans ?_ hp
  rw[ht,List.append_assoc]
  exact List.Perm.append_left done (by simpa using (List.perm_middle (a:=k) (l₁:=A) (l₂:=B)).symm)
 ·rw[pY,hd]
  show(step k s).bind _=_
  rw[hs];rfl
end
section
variable (P:Program)(I:DI)
def Res.diter(mv it:Value)(fs:List (List Int×aF))(todo:List (List Int))(cur kn:Option (List Int×Value)):Res:=Res.ex λ(es:List (List Int×Value×aF))=>
 Res.all [Res.fact (fs=cu (λy=>y.2) es∧koks .str es∧(es.map (·.1)).Nodup∧(∀p,cur=some p→aA .str p.1 (cu (λy=>y.1) es)=some p.2)∧∀p,kn=some p→oc es p.1=p.2),Res.iter P I.str .str (.raw NV) mv it (cu (λy=>y.1) es) todo cur,Res.files P I es]
def Res.dihole(mv it:Value)(fs:List (List Int×aF))(todo:List (List Int))(name:List Int)(q:Value)(kn:Option (List Int×Value)):Res:=Res.ex λ(es:List (List Int×Value×aF))=>
 Res.all [Res.fact (fs=cu (λy=>y.2) es∧koks .str es∧(es.map (·.1)).Nodup∧aA .str name (cu (λy=>y.1) es)=some q∧∀p,kn=some p→oc es p.1=p.2),Res.iter P I.str .str (.raw NV) mv it (cu (λy=>y.1) es) todo (some (name,q)),Res.files P I (cn .str name es)]
def Res.kiter(v it:Value)(keys todo:List Int)(cur:Option Int):Res:=Res.ex λ(g:List (Int×Int)×Option (Int×Int))=>
 Res.all [Res.fact (g.1.map (·.1)=keys∧g.2.map (·.1)=cur),Res.iter P I.int (.int .i64) (.int .i64) v it g.1 todo g.2]
end
section
variable {P:Program}{I:DI}{Tb:Tab}{F:Fr}{n:Nat}{E E':Env}{L:List Res}{ops:Array Oper}{Q:Exit→Act→World→Prop}{rest:List Oper}{X:Act→World→Prop}
theorem oJ{mv it:Value}{fs:List (List Int×aF)}{todo:List (List Int)}{cur kn:Option (List Int×Value)}{es:List (List Int×Value×aF)}(h:fs=cu (λy=>y.2) es∧koks .str es∧(es.map (·.1)).Nodup∧(∀p,cur=some p→aA .str p.1 (cu (λy=>y.1) es)=some p.2)∧∀p,kn=some p→oc es p.1=p.2)
  (g:Go F n E (Res.diter P I mv it fs todo cur kn::L) X):Go F n E (Res.iter P I.str .str (.raw NV) mv it (cu (λy=>y.1) es) todo cur::Res.files P I es::L) X:=λM a w c=>by
 refine g M a w {c with st:=c.st.sep_to λV hs=>?_}
 have hs':Sep M w ([Res.iter P I.str .str (.raw NV) mv it (cu (λy=>y.1) es) todo cur,Res.files P I es]++L) V:=hs
 obtain⟨A,B,sa,sb,d,e⟩:=Sep.split hs'
 exact⟨A,B,⟨es,iA h sa⟩,sb,d,e⟩
theorem yn{m:Operand}{z mv:Value}{e mt:TypeId}{fs:List (List Int×aF)}{d:Nat}{ty:TypeId}{pos:String}{after:Array Edge}(hk:dU P .str I.str=true)(hm:ev E m=some (.one (.raw z) mv))(ht:P.underlying mt=some (.map I.str e))(hd:Nat.ble (d+1) n=true)
  (g:∀it,(fs.map (·.1)).Nodup→Go F n ((d,.one (.raw (.pointer none)) it)::E) (Res.diter P I mv it fs (fs.map (·.1)) none none::L) (wpList P ops Q rest)):Go F n E (Res.dfiles P I mv fs::L) (wpList P ops Q (⟨some d,.range mt m,ty,pos,after,none⟩::rest)):=by
 refine oI hk λes h1 h2 h3=>?_
 refine wk (vt:= .raw NV) 0 hm rfl hk ht hd λit h4 h5=>?_
 have e1:(cu (λy:Value×aF=>y.1) es).map (·.1)=fs.map (·.1):=by rw[h1,jf,jf]
 refine oJ (fs:=fs) (cur:=none) (kn:=none) ⟨h1,h2,h3,(λp hp=>by cases hp),λp hp=>by cases hp⟩ ?_
 rw[e1]
 rw[e1]at h4
 exact g it h4
theorem Cf{m:Operand}{z mv q0:Value}{name:List Int}{e mt:TypeId}{fs:List (List Int×aF)}{d:Nat}{ty:TypeId}{pos:String}{after:Array Edge}(hk:dU P .str I.str=true)(hm:ev E m=some (.one (.raw z) mv))(ht:P.underlying mt=some (.map I.str e))(hd:Nat.ble (d+1) n=true)
  (g:∀it,(fs.map (·.1)).Nodup→Go F n ((d,.one (.raw (.pointer none)) it)::E) (Res.diter P I mv it fs (fs.map (·.1)) none (some (name,q0))::L) (wpList P ops Q rest)):Go F n E (Res.dat P I mv fs name q0::L) (wpList P ops Q (⟨some d,.range mt m,ty,pos,after,none⟩::rest)):=by
 refine uV hk λes h1 h0 h2 h3=>?_
 refine wk (vt:= .raw NV) 0 hm rfl hk ht hd λit h4 h5=>?_
 have e1:(cu (λy:Value×aF=>y.1) es).map (·.1)=fs.map (·.1):=by rw[h1,jf,jf]
 refine oJ (fs:=fs) (cur:=none) (kn:=some (name,q0)) ⟨h1,h2,h3,(λp hp=>by cases hp),λp hp=>by cases hp;exact h0⟩ ?_
 rw[e1]
 rw[e1]at h4
 exact g it h4
theorem wq{x:Operand}{z mv it:Value}{fs:List (List Int×aF)}{todo:List (List Int)}{cur kn:Option (List Int×Value)}{d:Nat}{ty:TypeId}{pos:String}{after:Array Edge}(hk:dU P .str I.str=true)(hx:ev E x=some (.one (.raw z) it))(hd:Nat.ble (d+1) n=true)
  (hend:todo=[]→Go F n ((d,.tup [⟨.bool,false⟩])::E) (Res.diter P I mv it fs todo cur kn::L) (wpList P ops Q rest))
  (hone:∀A k B q,todo=A++k::B→(aA .str k fs).isSome=true→Go F n ((d,.tup [⟨.bool,true⟩,⟨.str,k⟩,⟨.raw NV,q⟩])::E) (Res.diter P I mv it fs (A++B) (some (k,q)) kn::L) (wpList P ops Q rest)):
  Go F n E (Res.diter P I mv it fs todo cur kn::L) (wpList P ops Q (⟨some d,.next x false,ty,pos,after,none⟩::rest)):=by
 refine fK λes=>ez (da λ⟨h1,h2,h3,h4,h6⟩=>?_)
 refine B4 (vt:= .raw NV) 0 hx rfl hk hd (λh=>oJ ⟨h1,h2,h3,h4,h6⟩ (hend h)) λk y A B ht hg hko=>oJ ⟨h1,h2,h3,(λp hp=>?_),h6⟩ (hone A k B y ht ?_)
 ·cases hp;exact hg
 ·have:=hg
  rw[gu]at this
  rw[h1,gu]
  cases hp:aA .str k es with
  |none=>rw[hp]at this;cases this
  |some _=>rfl
theorem uZ{x:Operand}{z mv it:Value}{fs:List (List Int×aF)}{todo:List (List Int)}{k:List Int}{q:Value}{kn:Option (List Int×Value)}(hx:ev E x=some (.one (.raw z) it))(i:Nat)(hi:L[i]? =some (Res.diter P I mv it fs todo (some (k,q)) kn)):
  Yields Same P F n E L (.entry x) (.tup [⟨.str,k⟩,⟨.raw NV,q⟩]):=λo ho M a w c=>by
 obtain⟨L',p⟩:=ue hi
 have c':Cfg F M n E (Res.diter P I mv it fs todo (some (k,q)) kn::L') a w:={c with st:=c.st.perm p}
 have key:Go F n E (Res.diter P I mv it fs todo (some (k,q)) kn::L') (λa w=>∀o:Oper,o.op= .entry x→∃(M:Mem) (v:Value),(TV.tup [⟨.str,k⟩,⟨.raw NV,q⟩]).holds M v∧∀w',Same w w'→(execOp a.eval o).run P w'= .ok (.value v) w'):=by
  refine fK λes=>ez (da λ_=>?_)
  intro M a w c o ho
  obtain⟨v,hv,hr⟩:=Ar (vt:= .raw NV) 0 hx rfl o ho M a w c
  exact⟨M,v,hv,hr⟩
 obtain⟨M2,v,hv,hr⟩:=key M a w c' o ho
 exact⟨v,TV.any rfl hv,hr⟩
theorem wW{kn:Option (List Int×Value)}{mv it q:Value}{fs:List (List Int×aF)}{todo:List (List Int)}{name:List Int}{f:aF}(hf:aA .str name fs=some f)
  (g:∀fb sv tv dv,q= .pointer (some ⟨fb,0,none⟩)→Go F n E (Res.var fb I.file FT (sv,tv,dv,())::Res.own sv I.byte (.int .u8) f.1::Res.own tv I.byte (.int .u8) f.2.1::Res.dirty P I dv f.2.2::Res.dihole P I mv it fs todo name q kn::L) X):
  Go F n E (Res.diter P I mv it fs todo (some (name,q)) kn::L) X:=by
 refine fK λes=>ez (da λ⟨h1,h2,h3,h4,h6⟩=>?_)
 have hq:=h4 _ rfl
 have hg:aA .str name es=some (q,f):=by
  rw[h1,gu]at hf
  rw[gu]at hq
  cases hp:aA .str name es with
  |none=>rw[hp]at hf;cases hf
  |some y=>
   rw[hp]at hf hq
   simp only[Option.map_some,Option.some.injEq]at hf hq
   rw[←hf,←hq]
 refine lF (wl h2 h3 hg ?_)
 refine fK λ⟨fb,sv,tv,dv⟩=>ez (da λh5=>?_)
 have:=g fb sv tv dv h5
 intro M a w c
 refine this M a w {c with st:=c.st.sep_to λV hs=>?_}
 have key:∀{A:List Res} {V:Nat→Prop},Sep M w (A++Res.files P I (cn .str name es)::Res.iter P I.str .str (.raw NV) mv it (cu (λy=>y.1) es) todo (some (name,q))::L) V→Sep M w (A++Res.dihole P I mv it fs todo name q kn::L) V:=by
  intro A
  induction A with
  |nil=>
   rintro V ⟨S,V',r,⟨S2,V2,r2,s2,d2,e2⟩,d,e⟩
   refine⟨λk=>S2 k∨S k,V2,⟨es,iA ⟨h1,h2,h3,hq,h6⟩ ⟨S2,S,r2,ni r,λk h2 h1=>d k h1 ((e2 k).2 (.inl h2)),λ_=>Iff.rfl⟩⟩,s2,?_,?_⟩
   ·rintro k (h|h)
    ·exact d2 k h
    ·exactλhv=>d k h ((e2 k).2 (.inr hv))
   ·intro k;rw[e k,e2 k,or_left_comm];exact or_assoc.symm
  |cons R A ih=>rintro V ⟨S,V',r,s,d,e⟩;exact⟨S,V',r,ih s,d,e⟩
 exact key (A:=[_,_,_,_]) hs
theorem tF{kn:Option (List Int×Value)}{mv it:Value}{fs fs':List (List Int×aF)}{todo:List (List Int)}{name:List Int}{f1 f2 f3:List Int}{fb:Nat}{sv tv dv:Value}
  (hfs:koks .str fs→(fs.map (·.1)).Nodup→cm .str name (f1,f2,f3) fs=fs')
  (g:Go F n E (Res.diter P I mv it fs' todo (some (name,.pointer (some ⟨fb,0,none⟩))) kn::L) X):
  Go F n E (Res.var fb I.file FT (sv,tv,dv,())::Res.own sv I.byte (.int .u8) f1::Res.own tv I.byte (.int .u8) f2::Res.dirty P I dv f3::Res.dihole P I mv it fs todo name (.pointer (some ⟨fb,0,none⟩)) kn::L) X:=by
 refine ny (L':=Res.dihole P I mv it fs todo name (.pointer (some ⟨fb,0,none⟩)) kn::Res.var fb I.file FT (sv,tv,dv,())::Res.own sv I.byte (.int .u8) f1::Res.own tv I.byte (.int .u8) f2::Res.dirty P I dv f3::L) (List.perm_middle (l₁:=[_,_,_,_]) (l₂:=L)) ?_
 refine fK λes=>ez (da λ⟨h1,h3,h4,hq,h6⟩=>?_)
 have h5:(aA .str name es).isSome:=by
  rw[gu]at hq
  cases hp:aA .str name es with
  |none=>rw[hp]at hq;cases hq
  |some _=>rfl
 obtain⟨⟨p,f⟩,hp⟩:=Option.isSome_iff_exists.1 h5
 obtain⟨A,B,e1,e2⟩:=nz h3 h4 hp
 have hpq:p= .pointer (some ⟨fb,0,none⟩):=by
  rw[gu,hp]at hq
  simpa using hq
 have e3:=sn (v:=((.pointer (some ⟨fb,0,none⟩):Value),((f1,f2,f3):aF))) h3 h4 e1
 have hsame:cu (λy:Value×aF=>y.1) (cm .str name (.pointer (some ⟨fb,0,none⟩),(f1,f2,f3)) es)=cu (λy=>y.1) es:=by
  rw[e3,e1,hpq];simp[cu]
 have hkeys:(cm .str name ((.pointer (some ⟨fb,0,none⟩):Value),((f1,f2,f3):aF)) es).map (·.1)=es.map (·.1):=by rw[e3,e1];simp
 intro M a w c
 refine g M a w {c with st:=c.st.sep_to λV hs=>?_}
 have hs':Sep M w ([Res.iter P I.str .str (.raw NV) mv it (cu (λy=>y.1) es) todo (some (name,.pointer (some ⟨fb,0,none⟩))),Res.files P I (cn .str name es),Res.var fb I.file FT (sv,tv,dv,()),Res.own sv I.byte (.int .u8) f1,Res.own tv I.byte (.int .u8) f2,Res.dirty P I dv f3]++L) V:=hs
 obtain⟨SA,SB,sa,sb,sd,se⟩:=Sep.split hs'
 have k1:fs'=cu (λy=>y.2) (cm .str name ((.pointer (some ⟨fb,0,none⟩):Value),((f1,f2,f3):aF)) es):=by
  rw[ye,←h1]
  refine(hfs ?_ ?_).symm
  ·rw[h1];exact pmap_koks.2 h3
  ·rw[h1,jf];exact h4
 have k2:koks .str (cm .str name ((.pointer (some ⟨fb,0,none⟩):Value),((f1,f2,f3):aF)) es):=by
  intro p' hp'
  rw[e3]at hp'
  rcases List.mem_append.1 hp' with h|h
  ·exact h3 p' (by rw[e1];simp[h])
  ·rcases List.mem_cons.1 h with rfl|h
   ·exact h3 (name,p,f) (by rw[e1];simp)
   ·exact h3 p' (by rw[e1];simp[h])
 have k3:((cm .str name ((.pointer (some ⟨fb,0,none⟩):Value),((f1,f2,f3):aF)) es).map (·.1)).Nodup:=by rw[hkeys];exact h4
 have k5:Sep M w [Res.iter P I.str .str (.raw NV) mv it (cu (λy:Value×aF=>y.1) (cm .str name ((.pointer (some ⟨fb,0,none⟩):Value),((f1,f2,f3):aF)) es)) todo (some (name,.pointer (some ⟨fb,0,none⟩))),Res.files P I (cm .str name ((.pointer (some ⟨fb,0,none⟩):Value),((f1,f2,f3):aF)) es)] SA:=by
  obtain⟨S1,V1,r1,s1,d1,e4⟩:=sa
  have s1':Sep M w ([Res.files P I (cn .str name es)]++[Res.var fb I.file FT (sv,tv,dv,()),Res.own sv I.byte (.int .u8) f1,Res.own tv I.byte (.int .u8) f2,Res.dirty P I dv f3]) V1:=s1
  obtain⟨SC,SD,sc,sdd,dd,ee⟩:=Sep.split s1'
  refine⟨S1,V1,by rw[hsame];exact r1,ni (uW (name:=name) (q:= .pointer (some ⟨fb,0,none⟩)) (f:=(f1,f2,f3)) (es:=es) ?_ ?_),d1,e4⟩
  ·rw[e3,e2];exact List.perm_middle
  ·exact Sep.eqv (λk=>(ee k).symm) (Sep.append sc (ni (uc sdd)) dd)
 have k4:∀p',some (name,(.pointer (some ⟨fb,0,none⟩):Value))=some p'→aA .str p'.1 (cu (λy:Value×aF=>y.1) (cm .str name ((.pointer (some ⟨fb,0,none⟩):Value),((f1,f2,f3):aF)) es))=some p'.2:=by
  rintro p' hp'
  rw[hsame]
  cases hp'
  exact hq
 exact⟨SA,SB,⟨_,iA ⟨k1,k2,k3,k4,λp hp=>by rw[←h6 p hp];unfold oc;rw[hsame]⟩ k5⟩,sb,sd,se⟩
theorem zK{kn:Option (List Int×Value)}{mv it:Value}{fs:List (List Int×aF)}{todo:List (List Int)}{name:List Int}{f1 f2 f3:List Int}{fb:Nat}{sv tv dv:Value}
  (g:Go F n E (Res.diter P I mv it (cm .str name (f1,f2,f3) fs) todo (some (name,.pointer (some ⟨fb,0,none⟩))) kn::L) X):
  Go F n E (Res.var fb I.file FT (sv,tv,dv,())::Res.own sv I.byte (.int .u8) f1::Res.own tv I.byte (.int .u8) f2::Res.dirty P I dv f3::Res.dihole P I mv it fs todo name (.pointer (some ⟨fb,0,none⟩)) kn::L) X:=
 tF (λ_ _=>rfl) g
theorem u0{kn:Option (List Int×Value)}{mv it:Value}{fs:List (List Int×aF)}{todo:List (List Int)}{name:List Int}{f:aF}{fb:Nat}{sv tv dv:Value}(hf:aA .str name fs=some f)
  (g:Go F n E (Res.diter P I mv it fs todo (some (name,.pointer (some ⟨fb,0,none⟩))) kn::L) X):
  Go F n E (Res.var fb I.file FT (sv,tv,dv,())::Res.own sv I.byte (.int .u8) f.1::Res.own tv I.byte (.int .u8) f.2.1::Res.dirty P I dv f.2.2::Res.dihole P I mv it fs todo name (.pointer (some ⟨fb,0,none⟩)) kn::L) X:=
 tF (λho hn=>wU ho hn hf) g
theorem vJ{mv it:Value}{fs:List (List Int×aF)}{todo:List (List Int)}{cur:Option (List Int×Value)}(g:Go F n E (Res.dfiles P I mv fs::L) X):Go F n E (Res.diter P I mv it fs todo cur none::L) X:=by
 refine fK λes=>ez (da λ⟨h1,h2,h3,h4,h6⟩=>?_)
 exact tB 0 rfl (nA h1 g)
theorem zM{mv it q0:Value}{name:List Int}{fs:List (List Int×aF)}{todo:List (List Int)}{cur:Option (List Int×Value)}(g:Go F n E (Res.dat P I mv fs name q0::L) X):Go F n E (Res.diter P I mv it fs todo cur (some (name,q0))::L) X:=by
 refine fK λes=>ez (da λ⟨h1,h2,h3,h4,h6⟩=>?_)
 exact tB 0 rfl (wT h1 (h6 _ rfl) g)
theorem oK{v it:Value}{keys todo:List Int}{cur:Option Int}{l:List (Int×Int)}{c0:Option (Int×Int)}(h:l.map (·.1)=keys∧c0.map (·.1)=cur)(g:Go F n E (Res.kiter P I v it keys todo cur::L) X):Go F n E (Res.iter P I.int (.int .i64) (.int .i64) v it l todo c0::L) X:=λM a w c=>by
 refine g M a w {c with st:=c.st.sep_to λV hs=>?_}
 have hs':Sep M w ([Res.iter P I.int (.int .i64) (.int .i64) v it l todo c0]++L) V:=hs
 obtain⟨A,B,sa,sb,d,e⟩:=Sep.split hs'
 exact⟨A,B,⟨(l,c0),iA h sa⟩,sb,d,e⟩
theorem Dj{m:Operand}{z v:Value}{e mt:TypeId}{keys:List Int}{d:Nat}{ty:TypeId}{pos:String}{after:Array Edge}(hk:dU P (.int .i64) I.int=true)(hm:ev E m=some (.one (.raw z) v))(ht:P.underlying mt=some (.map I.int e))(hd:Nat.ble (d+1) n=true)
  (g:∀it,keys.Nodup→Go F n ((d,.one (.raw (.pointer none)) it)::E) (Res.kiter P I v it keys keys none::L) (wpList P ops Q rest)):Go F n E (Res.dirty P I v keys::L) (wpList P ops Q (⟨some d,.range mt m,ty,pos,after,none⟩::rest)):=by
 refine fK λl=>ez (da λh1=>?_)
 refine wk (vt:= .int .i64) 0 hm rfl hk ht hd λit h4 h5=>?_
 subst h1
 exact oK (c0:=none) ⟨rfl,rfl⟩ (g it h4)
theorem ER{x:Operand}{z v it:Value}{keys todo:List Int}{cur:Option Int}{d:Nat}{ty:TypeId}{pos:String}{after:Array Edge}(hk:dU P (.int .i64) I.int=true)(hx:ev E x=some (.one (.raw z) it))(hd:Nat.ble (d+1) n=true)
  (hend:todo=[]→Go F n ((d,.tup [⟨.bool,false⟩])::E) (Res.kiter P I v it keys todo cur::L) (wpList P ops Q rest))
  (hone:∀A k B c,todo=A++k::B→k∈keys→Go F n ((d,.tup [⟨.bool,true⟩,⟨.int .i64,k⟩,⟨.int .i64,c⟩])::E) (Res.kiter P I v it keys (A++B) (some k)::L) (wpList P ops Q rest)):
  Go F n E (Res.kiter P I v it keys todo cur::L) (wpList P ops Q (⟨some d,.next x false,ty,pos,after,none⟩::rest)):=by
 refine fK λ⟨l,c0⟩=>ez (da λ⟨h1,h2⟩=>?_)
 refine B4 (vt:= .int .i64) 0 hx rfl hk hd (λh=>oK ⟨h1,h2⟩ (hend h)) λk y A B ht hg hko=>oK ⟨h1,rfl⟩ (hone A k B y ht ?_)
 have:(aA (.int .i64) k l).isSome=true:=by rw[hg];rfl
 rw[qI]at this
 obtain⟨p,hp,hkp⟩:=List.any_eq_true.1 this
 rw[←h1]
 have:p.1=k:=by
  have:=hkp
  simpa [keq]using this
 rw[←this]
 exact List.mem_map.2 ⟨p,hp,rfl⟩
theorem Dk{d0:Nat}{x:Operand}{z v it:Value}{keys todo:List Int}{k:Int}(hx:ev E x=some (.one (.raw z) it))(i:Nat)(hi:L[i]? =some (Res.kiter P I v it keys todo (some k)))(hd:Nat.ble (d0+1) n=true){ty:TypeId}{pos:String}{after:Array Edge}
  (g:∀c,Go F n ((d0,.tup [⟨.int .i64,k⟩,⟨.int .i64,c⟩])::E) L (wpList P ops Q rest)):Go F n E L (wpList P ops Q (⟨some d0,.entry x,ty,pos,after,none⟩::rest)):=λM a w c=>by
 obtain⟨L',p⟩:=ue hi
 refine ny p ?_ M a w c
 refine fK λ⟨l,c0⟩=>ez (da λ⟨h1,h2⟩=>?_)
 cases c0 with
 |none=>cases h2
 |some p0=>
  obtain⟨k0,cc⟩:=p0
  have:k0=k:=by simpa using h2
  subst this
  exact y (Ar (vt:= .int .i64) 0 hx rfl) hd (oK ⟨h1,rfl⟩ (ny p.symm (g cc)))
theorem sr{mv it:Value}{fs:List (List Int×aF)}{todo:List (List Int)}{cur kn:Option (List Int×Value)}:∀M S w,(Res.diter P I mv it fs todo cur kn).sat M S w→(Res.diter P I mv it fs todo none kn).sat M S w:=λM S w ⟨es,A,B,⟨⟨h1,h2,h3,_,h6⟩,hA⟩,⟨C,D,⟨b,r,lv,left,cnt,g1,g2,g3,g4,g5,g6,g7,g8,g9,_⟩,hD,d2,e2⟩,d,e⟩=>
 ⟨es,A,B,⟨⟨h1,h2,h3,(λp hp=>by cases hp),h6⟩,hA⟩,⟨C,D,⟨b,r,lv,left,cnt,g1,g2,g3,g4,g5,g6,g7,g8,g9,λp hp=>by cases hp⟩,hD,d2,e2⟩,d,e⟩
theorem vK{v it:Value}{keys todo:List Int}{cur:Option Int}:∀M S w,(Res.kiter P I v it keys todo cur).sat M S w→(Res.kiter P I v it keys todo none).sat M S w:=λM S w ⟨(l,c0),A,B,⟨⟨h1,_⟩,hA⟩,⟨C,D,⟨b,r,lv,left,cnt,g1,g2,g3,g4,g5,g6,g7,g8,g9,_⟩,hD,d2,e2⟩,d,e⟩=>
 ⟨(l,none),A,B,⟨⟨h1,rfl⟩,hA⟩,⟨C,D,⟨b,r,lv,left,cnt,g1,g2,g3,g4,g5,g6,g7,g8,g9,λp hp=>by cases hp⟩,hD,d2,e2⟩,d,e⟩
theorem Bc{v it:Value}{keys todo:List Int}{cur:Option Int}(g:Go F n E (Res.dirty P I v keys::L) X):Go F n E (Res.kiter P I v it keys todo cur::L) X:=by
 refine fK λ⟨l,c0⟩=>ez (da λ⟨h1,h2⟩=>?_)
 refine tB 0 rfl ?_
 intro M a w c
 exact jg (P:=P) (I:=I) (keys:=keys) 0 rfl h1 g M a w c
theorem yo{q:Value}{f:aF}(g:∀fb sv tv dv,q= .pointer (some ⟨fb,0,none⟩)→Go F n E (Res.var fb I.file FT (sv,tv,dv,())::Res.own sv I.byte (.int .u8) f.1::Res.own tv I.byte (.int .u8) f.2.1::Res.dirty P I dv f.2.2::L) X):Go F n E (Res.file P I q f::L) X:=
 fK λ⟨fb,sv,tv,dv⟩=>ez (da λh=>g fb sv tv dv h)
theorem Cg{b0:Nat}{f:aF}(g:∀sv tv dv,Go F n E (Res.var b0 I.file FT (sv,tv,dv,())::Res.own sv I.byte (.int .u8) f.1::Res.own tv I.byte (.int .u8) f.2.1::Res.dirty P I dv f.2.2::L) X):Go F n E (Res.file P I (.pointer (some ⟨b0,0,none⟩)) f::L) X:=
 yo λb sv tv dv h=>by
  have:b0=b:=by simpa using h
  subst this;exact g sv tv dv
theorem Ch{fb:Nat}{sv tv dv:Value}{f1 f2 f3:List Int}(g:Go F n E (Res.file P I (.pointer (some ⟨fb,0,none⟩)) (f1,f2,f3)::L) X):Go F n E (Res.var fb I.file FT (sv,tv,dv,())::Res.own sv I.byte (.int .u8) f1::Res.own tv I.byte (.int .u8) f2::Res.dirty P I dv f3::L) X:=
 FC (A:=[_,_,_,_]) (λ_ _ _ h=>uc h) g
end
inductive Args(E:Env):List Operand→List TV→Prop
 |nil:Args E [] []
 |val {x:Operand} {t:TV} {l:List Operand} {ts:List TV} (h:ev E x=some t) (r:Args E l ts):Args E (x::l) (t::ts)
 |nilsl {e:TypeId} {t:T} {l:List Operand} {ts:List TV} (r:Args E l ts):Args E (.const (.slice none 0 0)::l) (.one (.sl e t) []::ts)
section
variable {P:Program}{F:Fr}{n:Nat}{E:Env}{L:List Res}{ops:Array Oper}{Q:Exit→Act→World→Prop}{rest:List Oper}
theorem wr{M:Mem}{a:Act}{w:World}(c:Cfg F M n E L a w):∀{xs:List Operand} {l:List TV},Args E xs l→HoldAll M l (xs.map a.eval)
 |_,_,.nil=> .nil
 |_,_,.val h r=> .cons (aJ c h) (wr c r)
 |_,_,.nilsl r=> .cons ⟨_,rfl,kN⟩ (wr c r)
theorem AA{k:FuncId}{args:List TV}{Lc Lo:List Res}{res:Value→TV}{L':Value→List Res}(hc:Fn P k args Lc res L')(hk:dQ P k=true)(hp:L.Perm (Lc++Lo)){xs:List Operand}{tys:Array TypeId}{d:Nat}{ty:TypeId}{pos:String}{after:Array Edge}
  (hx:Args E xs args) (hd:Nat.ble (d+1) n=true) (g:∀v,Go F n ((d,res v)::E) (L' v++Lo) (wpList P ops Q rest)):
  Go F n E L (wpList P ops Q (⟨some d,.call ⟨.value (.func k),xs.toArray,tys⟩,ty,pos,after,none⟩::rest)):=λM a w c=>by
 unfold wpList
 rw[if_pos (by simp[Region.wanted])]
 left
 unfold Oper.wp
 have hrun:(execOp a.eval ⟨some d,.call ⟨.value (.func k),xs.toArray,tys⟩,ty,pos,after,none⟩).run P w= .ok (.enter k (xs.map a.eval).toArray) w:=by
  simp only[execOp,resolve,ao,aG,Act.eval,Deferred.ofValue,invoke]
  rw[gn hk]
  simp
 rw[hrun,Oper.upon_enter]
 have st:=c.st.perm hp
 obtain⟨F',hb,hs,st',hback⟩:=st.part
 have:=hc F' w (xs.map a.eval) (by rw[hb];exact st') hs (by rw[hb];exact wr c hx)
 refine this.mono ?_
 rintro e w' ⟨v,M',rfl,st2,hv⟩
 obtain⟨hle,st3⟩:=hback _ _ _ st2
 exact g v M' _ _ (c.put hle st3 (Nat.le_of_ble_eq_true hd) hv)
end
section
variable {P:Program}{I:DI}{F:Fr}{n:Nat}{E:Env}{L:List Res}{X:Act→World→Prop}
theorem Dl{D:aB}{e:Int}(he:e≠0)(g:Go F n E (Res.diskif P I NV D e::L) X):Go F n E L X:=by
 have:Res.diskif P I NV D e=Res.fact (NV=NV):=by unfold Res.diskif;rw[if_neg he]
 rw[this]at g
 exact oZ rfl g
theorem Dm{w:World}{tid e:TypeId}{a:Option Addr}(hu:P.underlying tid=some (.pointer e)):(Op.equal tid (.pointer a) (.pointer none)).run P w= .ok a.isNone w:=by
 show(Op.equalIn (9999+1) tid _ _).run P w=_
 rw[Op.equalIn,ao,run_underlying hu]
 cases a<;>rfl
theorem Ci{R:World→World→Prop}{x:Operand}{z v:Value}{tid w0 e:TypeId}{a:Option Addr}(hx:ev E x=some (.one (.raw z) v))(hv:v= .pointer a)(hu:P.underlying tid=some (.pointer e)):Yields R P F n E L (.binOp .eql tid x (.const (.pointer none)) w0) (.one .bool a.isNone):=λo ho M a' w c=>by
 have h1:=(holds_raw.1 (aJ c hx)).1
 refine⟨_,holds_bool.2 rfl,λw' _=>?_⟩
 obtain⟨dst,op',ty,pos,after,guard⟩:=o
 simp only at ho;subst ho
 refine bz ?_
 have hg:(eqGuard .eql tid x (.const (.pointer none)) (a'.eval x) (.pointer none)).run P w'= .ok () w':=by rw[h1,hv];unfold eqGuard;rfl
 have hq:(Op.equal tid (a'.eval x) (.pointer none)).run P w'= .ok a.isNone w':=by rw[h1,hv];exact Dm hu
 show((do eqGuard .eql tid x (.const (.pointer none)) (a'.eval x) (.pointer none);binOp .eql tid (a'.eval x) (.pointer none)):Sem Value).run P w'=_
 rw[ao,hg]
 show(binOp .eql tid (a'.eval x) (.pointer none)).run P w'=_
 rw[h1,hv]at hq⊢
 simp only[binOp,ao,hq];rfl
theorem Cj{x:Operand}{z p:Value}{tid w0 e:TypeId}{D:aB}{f:Int}(i:Nat)(hx:ev E x=some (.one (.raw z) p))(hi:L[i]? =some (Res.diskif P I p D f))(hu:P.underlying tid=some (.pointer e)):Yields Same P F n E L (.binOp .eql tid x (.const (.pointer none)) w0) (.one .bool (f !=0)):=λo ho M a' w c=>by
 obtain⟨S,hs⟩:=c.st.res hi
 have:∃a,p= .pointer a∧a.isNone=(f !=0):=by
  by_cases hf:f=0
  ·unfold Res.diskif at hs
   rw[if_pos hf]at hs
   obtain⟨g,A,B,⟨h1,_⟩,_⟩:=hs
   exact⟨_,h1,by simp[hf]⟩
  ·unfold Res.diskif at hs
   rw[if_neg hf]at hs
   exact⟨none,hs.1,by simp[hf]⟩
 obtain⟨a,h1,h2⟩:=this
 have:=Ci (R:=Same) (P:=P) (F:=F) (n:=n) (E:=E) (L:=L) (w0:=w0) hx h1 hu o ho M a' w c
 rwa [h2]at this
theorem Dn{p:Value}{D:aB}(g:Go F n E (Res.diskif P I p D 0::L) X):Go F n E (Res.disk P I p D::L) X:=g
theorem Ck{v:Value}(g:Go F n E (Res.dfiles P I v []::L) X):Go F n E (Res.map P I.str .str (.raw NV) v []::L) X:=λM a w c=>
 nA (P:=P) (I:=I) (es:=[]) rfl g M a w {c with st:=c.st.sep_to λV ⟨S,V',r,s,d,e⟩=>⟨S,V',r,⟨λ_=>False,V',λ_ h=>h,s,λ_ h=>h.elim,λk=>⟨.inr,λh=>h.elim False.elim id⟩⟩,d,e⟩}
end
def ol(a0:aB):Option (List (List Int)):=if a0.2.2.2.2.2.1=true then some []else if List.length a0.2.1*16≤140737488355328 then some (a0.2.1.map (·.1))else none
def kc(ks:List Int)(size:Int):List Int:=ks.filter λs=>decide (IntKind.wrap .i64 (s*64)<size)
@[reducible] def ti(x:Int):TV:= .one (.int .i64) x
@[reducible] def tb(x:Bool):TV:= .one .bool x
@[reducible] def ts(x:List Int):TV:= .one .str x
@[reducible] def tp(x:Value):TV:= .one (.raw (.pointer none)) x
section
universe u
variable {α:Type}{ρ:Type}{r:ρ}{G:Prop}
theorem cB{f:Option α}{k:α→Option ρ}(h:f.bind k=some r)(g:∀x,f=some x→k x=some r→G):G:=by
 obtain⟨x,h1,h2⟩:=ED h;exact g x h1 h2
theorem iE{c:Prop}[Decidable c]{t:Option ρ}(h:(if c then t else none)=some r)(g:c→t=some r→G):G:=by
 obtain⟨h1,h2⟩:=cj h;exact g h1 h2
theorem bX{v:α}{k:α→Option ρ}(h:bnd v k=some r)(g:∀x,v=x→k x=some r→G):G:=by
 obtain⟨x,h1,h2⟩:=al h;exact g x h1 h2
end
section
variable {P:Program}{Tb:Tab}{F:Fr}{n:Nat}{E E':Env}{L:List Res}{ops:Array Oper}{Q:Exit→Act→World→Prop}{rest:List Oper}{X:Act→World→Prop}{c1 c2:Code}{K:Act→World→Prop}{id:Nat}
theorem zn(g:Go F n E L (Q .normal)):Go F n E L (wpList P ops Q []):=hZ g
theorem zt(g:Go F n E L K):Go F n E L (Exit.then K Q .normal):=g
theorem zs(g:Go F n E L (c1.wp P (Exit.then (c2.wp P Q) Q))):Go F n E L ((Code.seq c1 c2).wp P Q):=gm g
theorem zr{l:List Oper}(g:Go F n E L (wpList P l.toArray Q l)):Go F n E L ((Code.region id l.toArray false).wp P Q):=ec g
theorem zk(g:Go F n E L (Q .normal)):Go F n E L (Code.skip.wp P Q):=rn g
theorem zi(g:Go F n E L (Q .normal)):Go F n E L (Exit.inBlock id Q .normal):=g
theorem zb(g:Go F n E L (c1.wp P (Exit.inBlock id Q))):Go F n E L ((Code.block id c1).wp P Q):=tZ g
theorem zx(g:Go F n E L (Q (.exit id))):Go F n E L ((Code.exit id).wp P Q):=xJ g
theorem zR(g:Go F n E L (Q .ret)):Go F n E L (Code.ret.wp P Q):=rV g
theorem ze(g:Go F n E L (Q (.exit id))):Go F n E L (Exit.then K Q (.exit id)):=g
theorem zq(g:Go F n E L (Q .normal)):Go F n E L (Exit.inBlock id Q (.exit id)):=C9 g
theorem zT(g:Go F n E L (Q .ret)):Go F n E L (Exit.then K Q .ret):=g
theorem zB(g:Go F n E L (Q .ret)):Go F n E L (Exit.inBlock id Q .ret):=g
theorem za(g:Go F n E L K):Go F n E L (wpList P ops (Exit.then K Q) []):=hZ g
theorem zu{l:List Oper}(g:Go F n E L (wpList P l.toArray (Exit.then (c2.wp P Q) Q) l)):Go F n E L ((Code.seq (Code.region id l.toArray false) c2).wp P Q):=gm (ec g)
theorem zz{l:List Oper}(g:Go F n E L (wpList P l.toArray (Exit.then (c2.wp P Q) Q) l)){R:Exit→Act→World→Prop}:Go F n E L (wpList P ops (Exit.then ((Code.seq (Code.region id l.toArray false) c2).wp P Q) R) []):=hZ (gm (ec g))
theorem zy{l:List Oper}(g:Go F n E L (wpList P l.toArray (Exit.then (c2.wp P Q) Q) l)){R:Exit→Act→World→Prop}:Go F n E L (Code.skip.wp P (Exit.then ((Code.seq (Code.region id l.toArray false) c2).wp P Q) R)):=rn (gm (ec g))
theorem zf(g:Go F n E L (Q .ret)){R:Exit→Act→World→Prop}:Go F n E L (wpList P ops (Exit.then (Code.ret.wp P Q) R) []):=hZ (rV g)
@[reducible] def Do(T:Tab)(n:Nat)(ops:Array Oper)(l:List Oper)(E:Env)(k1 k2:List Nat):Option (Env×Env):=
  match dZ T n ops l E with
  |some E1=>(match ly E1 k1 with
   |some a=>(match ly E1 k2 with
    |some b=>some (a,b)
    |none=>none)
   |none=>none)
  |none=>none
theorem ES{a b:Env}{i:Nat}{t:TV}(h:Env.get (a++b) i=some t):a.get i=some t∨b.get i=some t:=by
 induction a with
 |nil=>exact .inr h
 |cons x a ih=>
  obtain⟨j,v⟩:=x
  simp only[List.cons_append,Env.get]at h⊢
  split at h
  ·exact .inl h
  ·exact ih h
theorem ET(hT:Tb.chk P=true){l:List Oper}(k:Nat){k1 k2:List Nat}{a b:Env}(h:Do Tb n ops (l.take k) E k1 k2=some (a,b))(g:Go F n (a++b) L (wpList P ops Q (l.drop k))):Go F n E L (wpList P ops Q l):=by
 intro M ac w c
 unfold Do at h
 split at h
 ·rename_i E1 h1
  split at h
  ·rename_i a' ha
   split at h
   ·rename_i b' hb
    simp only[Option.some.injEq,Prod.mk.injEq]at h
    obtain⟨rfl,rfl⟩:=h
    rw[←List.take_append_drop k l]
    exact lC hT h1 c λac' c'=>g M ac' w (c'.less λi t hi=>(ES hi).elim (m4 ha i t) (m4 hb i t))
   ·cases h
  ·cases h
 ·cases h
theorem rI{ρ:Type}{i:Nat}{b:Bool}{A B:Option ρ}{r:ρ}(h:(if b=true then A else B)=some r)(he:E.get i=some (.one .bool b))(hT:b=true→A=some r→Go F n E L (c1.wp P Q))(hF:b=false→B=some r→Go F n E L (c2.wp P Q)):
  Go F n E L ((Code.cond (.tmp i) c1 c2).wp P Q):=ii he (λhb=>hT hb (by rw[if_pos hb]at h;exact h)) (λhb=>hF hb (by rw[if_neg (ne_true_of_eq_false hb)]at h;exact h))
@[reducible] def wt:List Res→Nat→Option (Res×List Res)
  |[],_=>none
  |R::l,0=>some (R,l)
  |R::l,i+1=>match wt l i with
   |some (x,q)=>some (x,R::q)
   |none=>none
@[reducible] def mO:List Res→List Nat→Option (List Res×List Res)
  |l,[]=>some ([],l)
  |l,i::is=>match wt l i with
   |some (x,q)=>(match mO q is with
    |some (a,b)=>some (x::a,b)
    |none=>none)
   |none=>none
theorem wX:∀{l:List Res} {i:Nat} {x:Res} {q:List Res},wt l i=some (x,q)→l.Perm (x::q)
 |[],_,_,_,h=>by simp[wt]at h
 |R::l,0,_,_,h=>by simp only[wt,Option.some.injEq,Prod.mk.injEq]at h;obtain⟨rfl,rfl⟩:=h;exact List.Perm.refl _
 |R::l,i+1,x,q,h=>by
  simp only[wt]at h
  split at h
  ·rename_i y s hs
   simp only[Option.some.injEq,Prod.mk.injEq]at h
   obtain⟨rfl,rfl⟩:=h
   exact(List.Perm.cons R (wX hs)).trans (List.Perm.swap _ _ _)
  ·cases h
theorem fQ:∀{is:List Nat} {l a b:List Res},mO l is=some (a,b)→l.Perm (a++b)
 |[],_,_,_,h=>by simp only[mO,Option.some.injEq,Prod.mk.injEq]at h;obtain⟨rfl,rfl⟩:=h;exact List.Perm.refl _
 |i::is,l,a,b,h=>by
  simp only[mO]at h
  split at h
  ·rename_i x q hq
   split at h
   ·rename_i a' b' hab
    simp only[Option.some.injEq,Prod.mk.injEq]at h
    obtain⟨rfl,rfl⟩:=h
    exact(wX hq).trans (List.Perm.cons x (fQ hab))
   ·cases h
  ·cases h
theorem pk(is:List Nat){L' Lo:List Res}(h:mO L is=some (L',Lo))(g:Go F n E L' X):Go F n E L X:=
 ny (fQ h) (xP (List.sublist_append_left L' Lo) g)
theorem rc(is:List Nat){k:FuncId}{args:List TV}{Lc Lo:List Res}{res:Value→TV}{L':Value→List Res}(hc:Fn P k args Lc res L')(hk:dQ P k=true)(hp:mO L is=some (Lc,Lo)){xs:List Operand}{tys:Array TypeId}{d:Nat}{ty:TypeId}{pos:String}{after:Array Edge}
  (hx:evs E xs=some args) (hd:Nat.ble (d+1) n=true) (g:∀v,Go F n ((d,res v)::E) (L' v++Lo) (wpList P ops Q rest)):
  Go F n E L (wpList P ops Q (⟨some d,.call ⟨.value (.func k),xs.toArray,tys⟩,ty,pos,after,none⟩::rest)):=gp hc hk (fQ hp) hx hd g
theorem yl{x:Operand}{z:Value}{b off:Nat}{e:TypeId}{t u:T}{xv:t.D}{tid:TypeId}(i:Nat)(p:Pth t u)(ht:aW P u tid=true)(hx:ev E x=some (.one (.raw z) (.pointer (some ⟨b,off,none⟩))))(hi:L[i]? =some (Res.var b e t xv))(hp:p.off=off)(hok:p.ok)
  {d:Nat} {ty:TypeId} {pos:String} {after:Array Edge} (hd:Nat.ble (d+1) n=true) (g:Go F n ((d,.one u (p.get xv))::E) L (wpList P ops Q rest)):
  Go F n E L (wpList P ops Q (⟨some d,.load tid x,ty,pos,after,none⟩::rest)):=y (aL i p hx hi hp hok ht) hd g
theorem st{x y':Operand}{z:Value}{b off:Nat}{e:TypeId}{t u:T}{xv:t.D}{yv:u.D}{tid:TypeId}{ty:TypeId}{pos:String}{after:Array Edge}(i:Nat)(p:Pth t u)(ht:aW P u tid=true)(hx:ev E x=some (.one (.raw z) (.pointer (some ⟨b,off,none⟩))))(hy:ev E y'=some (.one u yv))(hi:L[i]? =some (Res.var b e t xv))
  (hp:p.off=off) (hok:p.ok) (g:Go F n E (L.set i (Res.var b e t (p.set xv yv))) (wpList P ops Q rest)):Go F n E L (wpList P ops Q (⟨none,.store tid x y',ty,pos,after,none⟩::rest)):=kV i p hx hy hi hp hok ht g
theorem jK{σ γ ρ:Type}{v:σ→Option ρ}{body:(σ→Option ρ)→Option ρ}{r:ρ}(h:bnd v body=some r)(E':σ→γ→Env)(L':σ→γ→List Res)(h1:∀k,body k=some r→Go F n E L (c1.wp P (Exit.then (qt F n E' L' k r) Q)))(h2:∀s g,v s=some r→Go F n (E' s g) (L' s g) (c2.wp P Q)):
  Go F n E L ((Code.seq c1 c2).wp P Q):=by
 obtain⟨k,hk,h⟩:=al h
 exact EF E' L' k r (h1 k h) λs g hs=>h2 s g (by rw[←hk]at hs;exact hs)
end
@[reducible] def xx:List Res→Option (List Res)
  |[]=>some []
  |R::l=>match xx l with
   |some q=>some (R::q)
   |none=>none
theorem yq:∀{l q:List Res},xx l=some q→l=q
 |[],_,h=>Option.some.inj h
 |R::l,q,h=>by
  simp only[xx]at h
  split at h
  ·rename_i q' hq
   rw[yq hq];exact Option.some.inj h
  ·cases h
theorem nL{F:Fr}{n:Nat}{E:Env}{L L2:List Res}{X:Act→World→Prop}(h:xx L=some L2)(g:Go F n E L2 X):Go F n E L X:=by rw[yq h];exact g
def Gy(F:Fr){ρ:Type}(out:Option ρ)(res:ρ→Value→TV)(L':ρ→Value→List Res)(ch:Value):Ending→World→Prop:=match out with
 |some r=>mg F (res r) (L' r)
 |none=>λe w'=>e= .panicked [{v:=ch,recovered:=false}]∧∃M',St F M' w' []
theorem Cl{P:Program}{k:FuncId}{fn:Func}{body:Code}{args:List TV}{L:List Res}{R:Ending→World→Prop}{F:Fr}(hf:P.funcs[k]? =some fn)(hb:fn.body=some body)(n:Nat)(hn:fn.ntmps=n)
  (ha:Nat.ble args.length n=true) (g:Go (Fr.nd F) n (oW 0 args) L (body.wp P (bodyPost P fn R))) {w:World} {vs:List Value} (hst:St F F.base w L) (hargs:HoldAll F.base args vs):Calls P k vs.toArray w R:=by
 refine calls_of_wp hf hb ?_
 refine g F.base _ _ ⟨hst.nd,rfl,?_,?_⟩
 ·have:=hargs.length
  have:=Nat.le_of_ble_eq_true ha
  simp[hn];omega
 ·intro i t h
  obtain⟨j,v,e,hv,ht⟩:=px hargs h
  refine⟨v,?_,ht⟩
  have hj:j<vs.length:=by
   rcases Nat.lt_or_ge j vs.length with h|h
   ·exact h
   ·simp[List.getElem?_eq_none h]at hv
  simp only[Nat.zero_add]at e;subst e
  have hv':vs[i]=v:=by simpa [hj]using hv
  simp[Array.getElem?_append,hj,hv']
class Brk(F:Fr)(n:Nat)(Q:Exit→Act→World→Prop)(ch:Value)(c:Prop):Prop where
 ok:c→∀L,Go F n [] L (Q (.panic [{v:=ch,recovered:=false}]))
section
variable {P:Program}{Tb:Tab}{F:Fr}{n:Nat}{E:Env}{L:List Res}{ops:Array Oper}{Q:Exit→Act→World→Prop}{rest:List Oper}{K:Act→World→Prop}{ch:Value}{c:Prop}
instance [h:Brk F n Q ch c]:Brk F n (Exit.then K Q) ch c:=⟨λhc L=>h.ok hc L⟩
instance {id:Nat}[h:Brk F n Q ch c]:Brk F n (Exit.inBlock id Q) ch c:=⟨λhc L=>h.ok hc L⟩
instance {fn:Func}{ρ:Type}{out:Option ρ}{res:ρ→Value→TV}{L':ρ→Value→List Res}:Brk (Fr.nd F) n (bodyPost P fn (Gy F out res L' ch)) ch (out=none):=⟨λhc L M a w g=>by
 subst hc
 exact⟨g.defers,rfl,M,g.st.un.lose (List.nil_sublist _)⟩⟩
end
end Sx
namespace Sx
open Go Go.RowKit
def TabM(P:Program)(bD:List (String×IntKind×List Int))(M:Mem):Prop:=
 ∃w0:World,w0.ShapedOpen P∧(∀x∈bD,Lib.TabIs P w0 x.1 x.2.1 x.2.2)∧(begin P (λ_ _=>0) default).world.heap.size≤w0.heap.size∧P.globals.size≤w0.heap.size∧∀k o,w0.heap[k]? =some o→M k=some o
theorem TabM.mono{P:Program}{bD:List (String×IntKind×List Int)}{M M':Mem}(hl:M.le M')(h:TabM P bD M):TabM P bD M':=by
 obtain⟨w0,h1,h2,h3,h4,h5⟩:=h
 exact⟨w0,h1,h2,h3,h4,λk o hk=>hl k o (h5 k o hk)⟩
variable {P:Program}{bD:List (String×IntKind×List Int)}
theorem TabM.shaped{M:Mem}(h:TabM P bD M){w:World}(hw:∀k o,M k=some o→w.heap[k]? =some o):w.ShapedOpen P:=by
 obtain⟨w0,⟨g1,g2⟩,_,h3,h4,h5⟩:=h
 have he:∀k,k<w0.heap.size→w.heap[k]? =w0.heap[k]? :=λk hk=>by
  rw[Array.getElem?_eq_getElem hk]
  exact hw k _ (h5 k _ (Array.getElem?_eq_getElem hk))
 refine⟨λg zero t hg hz=>?_,λk hk1 hk2=>?_⟩
 ·obtain⟨cs,c1,c2,c3⟩:=g1 g zero t hg hz
  refine⟨cs,by rw[he g (Nat.lt_of_lt_of_le hg h4)];exact c1,c2,λhb=>Row.ok_of_shape (λb x hx=>?_) (c3 hb)⟩
  rcases Nat.lt_or_ge b w0.heap.size with hb'|hb'
  ·unfold World.shape? at hx⊢
   rw[he b hb'];exact hx
  ·simp[World.shape?,Array.getElem?_eq_none hb']at hx
 ·obtain⟨o,o0,c1,c2,c3⟩:=g2 k hk1 hk2
  exact⟨o,o0,by rw[he k (Nat.lt_of_lt_of_le hk2 h3)];exact c1,c2,c3⟩
theorem TabM.tab{M:Mem}(h:TabM P bD M){w:World}(hw:∀k o,M k=some o→w.heap[k]? =some o){x:String×IntKind×List Int}(hx:x∈bD):Lib.TabIs P w x.1 x.2.1 x.2.2:=by
 obtain⟨w0,_,h2,_,_,h5⟩:=h
 have:=h2 x hx
 unfold Lib.TabIs World.var? at this⊢
 cases hg:P.globalNamed x.1 with
 |none=>rw[hg]at this;cases this
 |some g=>
  rw[hg]at this
  simp only[Option.bind_some]at this⊢
  cases ho:w0.heap[g]? with
  |none=>rw[ho]at this;cases this
  |some o=>
   rw[ho]at this
   rw[hw g o (h5 g o ho)]
   exact this
def FnT(P:Program)(bD:List (String×IntKind×List Int))(k:FuncId)(args:List TV)(L:List Res)(res:Value→TV)(L':Value→List Res):Prop:=
 ∀F w vs,TabM P bD F.base→St F F.base w L→F.size=w.heap.size→HoldAll F.base args vs→Calls P k vs.toArray w (mg F res L')
theorem ik{k:FuncId}{fn:Func}{body:Code}{args:List TV}{L:List Res}{res:Value→TV}{L':Value→List Res}(hf:P.funcs[k]? =some fn)(hb:fn.body=some body)(n:Nat)(hn:fn.ntmps=n)
  (ha:Nat.ble args.length n=true) (g:∀F,TabM P bD F.base→Go (Fr.nd F) n (oW 0 args) L (body.wp P (bodyPost P fn (mg F res L')))):FnT P bD k args L res L':=λF _ _ hT hst _ hargs=>Cl hf hb n hn ha (g F hT) hst hargs
section
variable {F G:Fr}{n:Nat}{E:Env}{L:List Res}{ops:Array Oper}{Q:Exit→Act→World→Prop}{rest:List Oper}{ch:Value}
theorem rcT(hT:TabM P bD G.base)(is:List Nat){k:FuncId}{args:List TV}{Lc Lo:List Res}{res:Value→TV}{L':Value→List Res}(hc:FnT P bD k args Lc res L')(hk:dQ P k=true)(hp:mO L is=some (Lc,Lo)){xs:List Operand}{tys:Array TypeId}{d:Nat}{ty:TypeId}{pos:String}{after:Array Edge}
  (hx:evs E xs=some args) (hd:Nat.ble (d+1) n=true) (g:∀v,Go (Fr.nd G) n ((d,res v)::E) (L' v++Lo) (wpList P ops Q rest)):
  Go (Fr.nd G) n E L (wpList P ops Q (⟨some d,.call ⟨.value (.func k),xs.toArray,tys⟩,ty,pos,after,none⟩::rest)):=λM a w c=>by
 unfold wpList
 rw[if_pos (by simp[Region.wanted])]
 left
 unfold Oper.wp
 have hrun:(execOp a.eval ⟨some d,.call ⟨.value (.func k),xs.toArray,tys⟩,ty,pos,after,none⟩).run P w= .ok (.enter k (xs.map a.eval).toArray) w:=by
  simp only[execOp,resolve,ao,aG,Act.eval,Deferred.ofValue,invoke]
  rw[gn hk]
  simp
 rw[hrun,Oper.upon_enter]
 have st:=c.st.perm (fQ hp)
 have hT':TabM P bD M:=hT.mono c.st.elder
 obtain⟨F',hb,hs,st',hback⟩:=st.part
 have:=hc F' w (xs.map a.eval) (by rw[hb];exact hT') (by rw[hb];exact st') hs (by rw[hb];exact oX c hx)
 refine this.mono ?_
 rintro e w' ⟨v,M',rfl,st2,hv⟩
 obtain⟨hle,st3⟩:=hback _ _ _ st2
 exact g v M' _ _ (c.put hle st3 (Nat.le_of_ble_eq_true hd) hv)
end
end Sx
namespace Sx
open Go Go.RowKit
def toB(l:List Int):List UInt8:=l.map λc=>UInt8.ofNat c.toNat
def ofB(l:List UInt8):List Int:=l.map λb=>(b.toNat:Int)
theorem vL(l:List Int):(bs l).data.toList=toB l:=by simp[bs,toB]
theorem EU(l:List UInt8):toB (ofB l)=l:=by
 unfold toB ofB
 rw[List.map_map]
 conv=>rhs;rw[←List.map_id l]
 exact List.map_congr_left λb _=>by simp
theorem AB{l:List Int}(h:aQ l):ofB (toB l)=l:=by
 unfold toB ofB
 rw[List.map_map]
 conv=>rhs;rw[←List.map_id l]
 refine List.map_congr_left λc hc=>?_
 have:=h c hc
 simp only[Function.comp,id]
 rw[UInt8.toNat_ofNat']
 omega
theorem FE(l:List UInt8):aQ (ofB l):=λc hc=>by
 obtain⟨b,_,rfl⟩:=List.mem_map.1 hc
 have:=b.toNat_lt
 omega
theorem FF(l:List UInt8):bs (ofB l)=⟨l.toArray⟩:=by
 have:(bs (ofB l)).data.toList=l:=by rw[vL,EU]
 unfold bs at this⊢
 simp only[List.toList_toArray]at this
 rw[this]
theorem vM(l:List UInt8):(ofB l).length=l.length:=List.length_map ..
theorem Bd(l:List Int):(toB l).length=l.length:=List.length_map ..
theorem oL{M:Mem}{l:List UInt8}(h:l.length≤most):Holds .str M (.string ⟨l.toArray⟩) (ofB l):=holds_str.2 ⟨by rw[FF],FE l,by rw[vM];exact h⟩
section
variable {P:Program}{bD:List (String×IntKind×List Int)}
theorem yr{F:Fr}{w w':World}(hst:St F F.base w [])(hb:Below w.heap.size w w'):St F F.base w' []:=
 {os:=hb.os.trans hst.os,tape:=hb.tape.trans hst.tape,output:=hb.output.trans hst.output,size:=Nat.le_trans hst.size hb.size,elder:=Mem.le.refl _,fresh:=λk o e=> .inl e
  frame:=λk o e=>by rw[hb.block k (hst.flt e)];exact hst.frame k o e
  mem:=λk o e=>by rw[hb.block k (hst.lt e)];exact hst.mem k o e
  sep:=⟨λ_=>False,λ_ h=>h,λ_ h=>h.elim⟩}
theorem Dp{k:FuncId}{args:List TV}{res:TV}(h:∀M vs,HoldAll M args vs→∃v,(∀M,res.holds M v)∧∀w,w.ShapedOpen P→(∀x∈bD,Lib.TabIs P w x.1 x.2.1 x.2.2)→Calls P k vs.toArray w λe w'=>e= .returned v∧Below w.heap.size w w'):FnT P bD k args [] (λ_=>res) (λ_=>[]):=by
 intro F w vs hT hst hsz hargs
 obtain⟨v,hv,hc⟩:=h _ _ hargs
 refine(hc w (hT.shaped hst.mem) (λx hx=>hT.tab hst.mem hx)).mono ?_
 rintro e w' ⟨rfl,hb⟩
 exact⟨v,F.base,rfl,yr hst hb,hv _⟩
def El(n:Int):List Int:=ofB (Lib.itoa n)
def strconv_Itoa(n:Int):Option (List Int):=some (El n)
theorem AC:∀(f n:Nat),n<10^f→(Lib.decDigits n).length≤f+1:=by
 intro f
 induction f with
 |zero=>intro n h;rw[Lib.decDigits,dif_pos (by omega)];simp
 |succ f ih=>
  intro n h
  rw[Lib.decDigits]
  split
  ·simp
  ·rw[List.length_append]
   have:=ih (n/10) (by rw[Nat.pow_succ]at h;omega)
   simp only[List.length_cons,List.length_nil]
   omega
theorem yu{n:Int}(h:rng .i64 n):(Lib.itoa n).length≤30:=by
 simp only[rng,lo,Sx.hi]at h
 unfold Lib.itoa
 split
 ·have:=AC 20 n.natAbs (by omega)
  simp only[List.length_cons];omega
 ·have:=AC 20 n.toNat (by omega)
  omega
def Em:String×IntKind×List Int:=("internal/strconv.uint64pow10",.u64,Lib.pow10Tab)
theorem Hr(s sep:ByteArray):Lib.countB s sep=Lib.count s.data.toList sep.data.toList:=rfl
theorem bU(s sep:List UInt8)(h:sep≠[]):(Lib.split s sep).length=Lib.count s sep+1∧Lib.count s sep≤s.length:=by
 have h1:1≤(⟨sep.toArray⟩:ByteArray).size:=by
  show 1≤sep.toArray.size
  cases sep with
  |nil=>exact absurd rfl h
  |cons a r=>simp
 have e1:=Lib.splitB_all ⟨sep.toArray⟩ h1 0 (Lib.countB ⟨s.toArray⟩ ⟨sep.toArray⟩) ⟨s.toArray⟩ rfl
 have e2:=Lib.countB_le ⟨sep.toArray⟩ h1 s.length ⟨s.toArray⟩ (by show s.toArray.size≤_;simp)
 have e3:=Lib.splitB_data ⟨sep.toArray⟩ 0 (Lib.countB ⟨s.toArray⟩ ⟨sep.toArray⟩) ⟨s.toArray⟩
 have e4:=congrArg List.length e3
 rw[List.length_map,e1]at e4
 simp only[Hr,List.toList_toArray]at e2 e4
 refine⟨e4.symm,?_⟩
 have e5:(⟨s.toArray⟩:ByteArray).size=s.length:=by show s.toArray.size=_;simp
 omega
def strings_Join(xs:List (List Int))(sep:List Int):Option (List Int):=if xs.length≤140737488355328∧(Lib.join (xs.map toB) (toB sep)).length≤140737488355328 then some (ofB (Lib.join (xs.map toB) (toB sep)))else none
theorem vN{M:Mem}:∀{cs:List Value} {l:List (List Int)},RepL (Rep .str M) cs l→cs=l.map λx=>Value.string (bs x)
 |_,[],h=>h
 |_,x::l,⟨c1,c2,e,a,b⟩=>by
  rw[e,vN b,a.1];rfl
theorem Cm{k:FuncId}{e:TypeId}(h0:∀(a:Option Addr) (c:Nat) (sep:ByteArray) (w:World),Calls P k #[.slice a 0 c,.string sep] w λe w'=>e= .returned (.string ⟨#[]⟩)∧w'=w)
  (h:∀(bk o c:Nat) (xs:List ByteArray) (sep:ByteArray) (w:World),(∀(j:Nat) x,xs[j]? =some x→w.cell? ⟨bk,o+j,none⟩=some (.string x))→bk<w.heap.size→xs.length≤140737488355328→xs.length≤c→(Lib.join (xs.map (·.data.toList)) sep.data.toList).length≤140737488355328→
    Calls P k #[.slice (some ⟨bk,o,none⟩) xs.length c,.string sep] w λe w'=>e= .returned (.string ⟨(Lib.join (xs.map (·.data.toList)) sep.data.toList).toArray⟩)∧Below w.heap.size w w')
  (xs:List (List Int)) (sep:List Int) (r:List Int) (hr:strings_Join xs sep=some r):bm P k [.one (.sl e .str) xs,.one .str sep] (.one .str r):=by
 unfold strings_Join at hr
 obtain⟨⟨hl,hjl⟩,hr⟩:=cj hr
 obtain rfl:=Option.some.inj hr
 intro F w vs hst hsz hv
 cases hv with
 |cons a r=>cases r with
  |cons b r=>
   cases r
   obtain⟨rfl,hb2,hm2⟩:=holds_str.1 b
   obtain⟨cs,e1,ad,cap,e2,g1,g2,g3⟩:=a
   subst e2
   simp only[mk,T.isAgg,Bool.false_eq_true,if_false,List.headD_cons]at e1
   subst e1
   have fin:∀{l:List UInt8} {w':World},l.length≤140737488355328→l=Lib.join (xs.map toB) (toB sep)→Below w.heap.size w w'→mg F (λ_=> .one .str (ofB (Lib.join (xs.map toB) (toB sep)))) (λ_=>[]) (.returned (.string ⟨l.toArray⟩)) w':=λh1 h2 h3=>by
    subst h2
    exact⟨_,F.base,rfl,yr hst h3,oL (by simp only[most];omega)⟩
   by_cases hx:xs=[]
   ·subst hx
    refine(h0 ad cap (bs sep) w).mono ?_
    rintro en w' ⟨rfl,rfl⟩
    exact fin (l:=[]) (by simp) (by simp[Lib.join]) (Below.refl _ _)
   ·have hn:List.length xs≠0:=λhc=>hx (List.length_eq_zero_iff.1 hc)
    cases ad with
    |none=>exact absurd g3 hn
    |some ad=>
     rcases g3 with g3|⟨q1,c,el,fr,q2,q3,q4⟩
     ·exact absurd g3 hn
     ·obtain⟨bk,off,sp⟩:=ad
      simp only at q1 q2 q3 q4
      subst q1
      have q2':=hst.mem _ _ q2
      simp only[T.size,Nat.mul_one]at q3 q4
      have q5:=vN q4
      have bU:(xs.map bs).length=List.length xs:=List.length_map ..
      have hmm:(xs.map bs).map (·.data.toList)=xs.map toB:=by rw[List.map_map];exact List.map_congr_left λx _=>vL x
      have:=h bk off cap (xs.map bs) (bs sep) w (λj x hj=>?_) (cH q2') (by rw[bU];exact hl) (by rw[bU];exact g2) (by rw[hmm,vL];exact hjl)
      ·rw[bU]at this
       refine this.mono ?_
       rintro en w' ⟨rfl,hb⟩
       rw[hmm,vL]
       exact fin hjl rfl hb
      ·have hj2:j<List.length xs:=by
        rw[←bU]
        exact(List.getElem?_eq_some_iff.1 hj).1
       have e6:(List.take (List.length xs) (List.drop off c.toList))[j]? =(xs.map λx=>Value.string (bs x))[j]? :=by rw[q5]
       rw[List.getElem?_take_of_lt hj2,List.getElem?_drop,Array.getElem?_toList]at e6
       simp only[World.cell?,q2']
       rw[e6]
       rw[List.getElem?_map]at hj⊢
       cases hxj:xs[j]? with
       |none=>rw[hxj]at hj;cases hj
       |some y=>rw[hxj]at hj;cases hj;rfl
end
end Sx
