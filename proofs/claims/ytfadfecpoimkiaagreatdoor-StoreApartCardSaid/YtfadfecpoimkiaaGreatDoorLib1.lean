/-
  Own work, of several texts. Typed data and how it lies in memory: the shapes of Go's data, what a row of cells holds of a shape, paths into it.
-/
import Derived.Below
import Derived.Tactics
import Derived.Deep.Quiet
import Derived.Laws.Strings
import Derived.Laws.Sem
import Derived.DeepKeys
namespace Sx
open Go
inductive T where
 |int (k:IntKind)|bool|str|unit|raw (z:Value)
 |pair (a b:T)|arr (n:Nat) (t:T)|sl (e:TypeId) (t:T)
 |ifc (e:TypeId) (t u:T)
@[reducible] def T.D:T→Type
  | .int _=>Int| .bool=>Bool| .str=>List Int| .unit=>Unit| .raw _=>Value
  | .pair a b=>a.D×b.D| .arr _ t=>List t.D| .sl _ t=>List t.D| .ifc _ t u=>t.D⊕u.D
@[reducible] def T.size:T→Nat
  | .int _| .bool| .str| .raw _| .sl _ _| .ifc _ _ _=>1
  | .unit=>0
  | .pair a b=>a.size+b.size
  | .arr n t=>n*t.size
def T.zero:(t:T)→t.D
 | .int _=>(0:Int)| .bool=>false| .str=>([]:List Int)| .unit=>()| .raw z=>z
 | .pair a b=>(a.zero,b.zero)| .arr n t=>List.replicate n t.zero| .sl _ t=>([]:List t.D)| .ifc _ _ u=> .inr u.zero
abbrev Mem:=Nat→Option Obj
def Mem.le(M M':Mem):Prop:=∀k o,M k=some o→M' k=some o
theorem Mem.le.refl(M:Mem):M.le M:=λ_ _ h=>h
theorem Mem.le.trans{A B C:Mem}(h:A.le B)(g:B.le C):A.le C:=λk o e=>g k o (h k o e)
@[reducible] def lo:IntKind→Int
  | .i8=> -128| .i16=> -32768| .i32=> -2147483648| .i64=> -9223372036854775808|_=>0
@[reducible] def hi:IntKind→Int
  | .i8=>127| .i16=>32767| .i32=>2147483647| .i64=>9223372036854775807
  | .u8=>255| .u16=>65535| .u32=>4294967295| .u64=>18446744073709551615
@[reducible] def rng(k:IntKind)(x:Int):Prop:=lo k≤x∧x≤hi k
def aQ(x:List Int):Prop:=∀c∈x,0≤c∧c<256
def bs(l:List Int):ByteArray:=⟨(l.map λc=>UInt8.ofNat c.toNat).toArray⟩
def one:Value→Bool
 | .agg _| .tuple _=>false
 |_=>true
def ifv:Value→Bool
 | .iface _ _| .nilIface=>true
 |_=>false
theorem z8{v:Value}(h:ifv v=true):one v=true:=by cases v<;>first|rfl|cases h
def most:Nat:=4611686018427387904
@[reducible] def T.isAgg:T→Bool
  | .pair _ _| .arr _ _| .unit=>true
  |_=>false
def mk(t:T)(cs:List Value):Value:=if t.isAgg then .agg cs.toArray else cs.headD undef
def RepL{α:Type}(R:List Value→α→Prop):List Value→List α→Prop
 |cs,[]=>cs=[]
 |cs,x::xs=>∃c1 c2,cs=c1++c2∧R c1 x∧RepL R c2 xs
def Rep:(t:T)→Mem→List Value→t.D→Prop
 | .int k,_,cs,x=>cs=[.int k x]∧rng k x
 | .bool,_,cs,x=>cs=[.bool x]
 | .str,_,cs,x=>cs=[.string (bs x)]∧aQ x∧List.length x≤most
 | .unit,_,cs,_=>cs=[]
 | .raw _,_,cs,x=>cs=[x]∧one x=true
 | .pair a b,M,cs,x=>∃c1 c2,cs=c1++c2∧Rep a M c1 x.1∧Rep b M c2 x.2
 | .arr n t,M,cs,x=>List.length x=n∧RepL (Rep t M) cs x
 | .sl _ t,M,cs,x=>∃a cap,cs=[.slice a (List.length x) cap]∧List.length x≤most∧List.length x≤cap∧
    match a with
    |none=>List.length x=0
    |some ad=>List.length x=0∨(ad.spot=none∧∃c el fr,M ad.block=some (.cells c el fr)∧ad.off+List.length x*t.size≤c.size∧
      RepL (Rep t M) ((c.toList.drop ad.off).take (List.length x*t.size)) x)
 | .ifc e t u,M,cs,x=>∃v,cs=[v]∧ifv v=true∧match x with
    | .inl y=>∃ds,v= .iface e (mk t ds)∧Rep t M ds y
    | .inr y=>Rep u M cs y
theorem RepL.mono{α:Type}{R R':List Value→α→Prop}(h:∀c x,R c x→R' c x):∀{cs:List Value} {xs:List α},RepL R cs xs→RepL R' cs xs
 |_,[],hh=>hh
 |_,_::_,⟨c1,c2,e,a,b⟩=>⟨c1,c2,e,h _ _ a,RepL.mono h b⟩
theorem RepL.length{α:Type}{R:List Value→α→Prop}{s:Nat}(h:∀c x,R c x→c.length=s):∀{cs:List Value} {xs:List α},RepL R cs xs→cs.length=xs.length*s
 |_,[],hh=>by simp[RepL]at hh;simp[hh]
 |_,x::xs,⟨c1,c2,e,a,b⟩=>by
  have h1:=RepL.length h b;have h2:=h _ _ a;rw[e,List.length_append,h1,h2,List.length_cons,Nat.add_mul];omega
theorem RepL.append{α:Type}{R:List Value→α→Prop}:∀{cs ds:List Value} {xs ys:List α},RepL R cs xs→RepL R ds ys→RepL R (cs++ds) (xs++ys)
 |_,_,[],_,h,g=>by simp only[RepL]at h;subst h;simpa using g
 |_,_,_::_,_,⟨c1,c2,e,a,b⟩,g=>⟨c1,c2++_,by simp[e],a,RepL.append b g⟩
theorem RepL.get{α:Type}{R:List Value→α→Prop}{s:Nat}(h:∀c x,R c x→c.length=s):∀{cs:List Value} {xs:List α} {i:Nat} {x:α},RepL R cs xs→xs[i]? =some x→R ((cs.drop (i*s)).take s) x
 |_,[],i,x,_,hi=>by simp at hi
 |_,y::ys,0,x,⟨c1,c2,e,a,_⟩,hi=>by
  have hl:=h _ _ a
  obtain rfl:y=x:=by simpa using hi
  rw[e,Nat.zero_mul,List.drop_zero,←hl,List.take_left];exact a
 |_,y::ys,i+1,x,⟨c1,c2,e,a,b⟩,hi=>by
  have hl:=h _ _ a
  have:=RepL.get h b (by simpa using hi)
  have e2:(i+1)*s=c1.length+i*s:=by rw[hl,Nat.add_mul];omega
  rw[e,e2,←List.drop_drop,List.drop_left];exact this
theorem RepL.set{α:Type}{R:List Value→α→Prop}{s:Nat}(h:∀c x,R c x→c.length=s):∀{cs d:List Value} {xs:List α} {i:Nat} {y:α},RepL R cs xs→i<xs.length→R d y→
  RepL R (cs.take (i*s)++d++cs.drop (i*s+s)) (xs.set i y)
 |_,_,[],i,y,_,hi,_=>by simp at hi
 |_,d,x::xs,0,y,⟨c1,c2,e,a,b⟩,_,hd=>by
  have hl:=h _ _ a
  refine⟨d,c2,?_,hd,b⟩
  simp[e,←hl]
 |_,d,x::xs,i+1,y,⟨c1,c2,e,a,b⟩,hi,hd=>by
  have hl:=h _ _ a
  have:=RepL.set h b (by simpa using hi) hd
  refine⟨c1,_,?_,a,this⟩
  have e2:(i+1)*s=c1.length+i*s:=by rw[hl,Nat.add_mul];omega
  rw[e,e2,List.take_length_add_append,Nat.add_assoc,←List.drop_drop,List.drop_left];simp
theorem RepL.split{α:Type}{R:List Value→α→Prop}{s:Nat}(h:∀c x,R c x→c.length=s):∀{cs:List Value} {xs:List α} (n:Nat),RepL R cs xs→
  RepL R (cs.take (n*s)) (xs.take n)∧RepL R (cs.drop (n*s)) (xs.drop n)
 |_,[],n,hh=>by simp only[RepL]at hh;subst hh;simp[RepL]
 |cs,x::xs,0,hh=>by simp;exact⟨rfl,hh⟩
 |_,x::xs,n+1,⟨c1,c2,e,a,b⟩=>by
  have hl:=h _ _ a
  have:=RepL.split h n b
  have e2:(n+1)*s=c1.length+n*s:=by rw[hl,Nat.add_mul];omega
  rw[e,e2,List.take_length_add_append,←List.drop_drop,List.drop_left]
  exact⟨⟨c1,_,rfl,a,this.1⟩,this.2⟩
theorem Rep.size:∀{t:T} {M:Mem} {cs:List Value} {x:t.D},Rep t M cs x→cs.length=t.size
 | .int _,_,_,_,h=>by simp[h.1]
 | .bool,_,_,_,h=>by simp only[Rep]at h;simp[h]
 | .str,_,_,_,h=>by simp[h.1]
 | .unit,_,_,_,h=>by simp only[Rep]at h;simp[h]
 | .raw _,_,_,_,h=>by simp[h.1]
 | .pair a b,_,_,_,⟨c1,c2,e,h1,h2⟩=>by simp[e,Rep.size h1,Rep.size h2]
 | .arr n t,_,_,x,h=>by
   have:=RepL.length (s:=t.size) (λc x h=>Rep.size h) h.2
   rw[this,h.1]
 | .sl _ _,_,_,_,⟨a,cap,e,_⟩=>by simp[e]
 | .ifc _ _ _,_,_,_,⟨v,e,_⟩=>by simp[e]
theorem Rep.mono:∀{t:T} {M M':Mem} {cs:List Value} {x:t.D},M.le M'→Rep t M cs x→Rep t M' cs x
 | .int _,_,_,_,_,_,h=>h
 | .bool,_,_,_,_,_,h=>h
 | .str,_,_,_,_,_,h=>h
 | .unit,_,_,_,_,_,h=>h
 | .raw _,_,_,_,_,_,h=>h
 | .pair a b,_,_,_,_,l,⟨c1,c2,e,h1,h2⟩=>⟨c1,c2,e,Rep.mono l h1,Rep.mono l h2⟩
 | .arr n t,_,_,_,_,l,h=>⟨h.1,RepL.mono (λ_ _ g=>Rep.mono l g) h.2⟩
 | .sl _ t,_,_,_,_,l,⟨a,cap,e,h1,h2,h3⟩=>⟨a,cap,e,h1,h2,by
    cases a with
    |none=>exact h3
    |some ad=>rcases h3 with h3|⟨hs,c,el,fr,hm,hb,hr⟩;exact .inl h3;exact .inr ⟨hs,c,el,fr,l _ _ hm,hb,RepL.mono (λ_ _ g=>Rep.mono l g) hr⟩⟩
 | .ifc _ t _,_,_,_,.inl _,l,⟨v,e,h1,ds,e2,h⟩=>⟨v,e,h1,ds,e2,Rep.mono (t:=t) l h⟩
 | .ifc _ _ u,_,_,_,.inr _,l,⟨v,e,h1,h⟩=>⟨v,e,h1,Rep.mono (t:=u) l h⟩
@[reducible] def T.flat:T→Bool
  | .sl _ _=>false
  | .pair a b=>a.flat&&b.flat
  | .arr _ t=>t.flat
  | .ifc _ t u=>t.flat&&u.flat
  |_=>true
theorem Rep.any:∀{t:T} {M M':Mem} {cs:List Value} {x:t.D},t.flat=true→Rep t M cs x→Rep t M' cs x
 | .int _,_,_,_,_,_,h=>h
 | .bool,_,_,_,_,_,h=>h
 | .str,_,_,_,_,_,h=>h
 | .unit,_,_,_,_,_,h=>h
 | .raw _,_,_,_,_,_,h=>h
 | .pair a b,_,_,_,_,l,⟨c1,c2,e,h1,h2⟩=>by
   simp only[T.flat,Bool.and_eq_true]at l
   exact⟨c1,c2,e,Rep.any l.1 h1,Rep.any l.2 h2⟩
 | .arr n t,_,_,_,_,l,h=>⟨h.1,RepL.mono (λ_ _ g=>Rep.any (by simpa [T.flat]using l) g) h.2⟩
 | .sl _ t,_,_,_,_,l,_=>by simp[T.flat]at l
 | .ifc _ t u,_,_,_,.inl _,l,⟨v,e,h1,ds,e2,h⟩=>by
   simp only[T.flat,Bool.and_eq_true]at l
   exact⟨v,e,h1,ds,e2,Rep.any (t:=t) l.1 h⟩
 | .ifc _ t u,_,_,_,.inr _,l,⟨v,e,h1,h⟩=>by
   simp only[T.flat,Bool.and_eq_true]at l
   exact⟨v,e,h1,Rep.any (t:=u) l.2 h⟩
theorem RepL.unique{α:Type}{R R':List Value→α→Prop}(h:∀c d x,R c x→R' d x→c=d):∀{cs ds:List Value} {xs:List α},RepL R cs xs→RepL R' ds xs→cs=ds
 |_,_,[],h1,h2=>by simp only[RepL]at h1 h2;rw[h1,h2]
 |_,_,_::_,⟨c1,c2,e,a,b⟩,⟨d1,d2,e',a',b'⟩=>by rw[e,e',h _ _ _ a a',RepL.unique h b b']
theorem Rep.unique:∀{t:T} {M M':Mem} {cs ds:List Value} {x:t.D},t.flat=true→Rep t M cs x→Rep t M' ds x→cs=ds
 | .int _,_,_,_,_,_,_,h,g=>by rw[h.1,g.1]
 | .bool,_,_,_,_,_,_,h,g=>by simp only[Rep]at h g;rw[h,g]
 | .str,_,_,_,_,_,_,h,g=>by rw[h.1,g.1]
 | .unit,_,_,_,_,_,_,h,g=>by simp only[Rep]at h g;rw[h,g]
 | .raw _,_,_,_,_,_,_,h,g=>by rw[h.1,g.1]
 | .pair a b,_,_,_,_,_,l,⟨c1,c2,e,h1,h2⟩,⟨d1,d2,e',g1,g2⟩=>by
   simp only[T.flat,Bool.and_eq_true]at l
   rw[e,e',Rep.unique l.1 h1 g1,Rep.unique l.2 h2 g2]
 | .arr n t,M,M',_,_,_,l,h,g=>RepL.unique (R:=Rep t M) (R':=Rep t M') (λ_ _ _ a b=>Rep.unique (t:=t) (by simpa [T.flat]using l) a b) h.2 g.2
 | .sl _ t,_,_,_,_,_,l,_,_=>by simp[T.flat]at l
 | .ifc _ t u,_,_,_,_,.inl _,l,⟨v,e,h1,ds,e2,h⟩,⟨v',e',h1',ds',e2',h'⟩=>by
   simp only[T.flat,Bool.and_eq_true]at l
   rw[e,e',e2,e2',Rep.unique (t:=t) l.1 h h']
 | .ifc _ t u,_,_,_,_,.inr _,l,⟨v,e,h1,h⟩,⟨v',e',h1',h'⟩=>by
   simp only[T.flat,Bool.and_eq_true]at l
   exact Rep.unique (t:=u) l.2 h h'
inductive Pth:T→T→Type
 |here {t:T}:Pth t t
 |fst {a b u:T} (p:Pth a u):Pth (.pair a b) u
 |snd {a b u:T} (p:Pth b u):Pth (.pair a b) u
 |elem {n:Nat} {t u:T} (i:Nat) (p:Pth t u):Pth (.arr n t) u
@[reducible] def Pth.off:{t u:T}→Pth t u→Nat
  |_,_,.here=>0
  |_,_,.fst p=>p.off
  | .pair a _,_,.snd p=>a.size+p.off
  | .arr _ t,_,.elem i p=>i*t.size+p.off
@[reducible] def Pth.ok:{t u:T}→Pth t u→Prop
  |_,_,.here=>True
  |_,_,.fst p=>p.ok
  |_,_,.snd p=>p.ok
  | .arr n _,_,.elem i p=>i<n∧p.ok
@[reducible] def Pth.get:{t u:T}→Pth t u→t.D→u.D
  |_,_,.here,x=>x
  |_,_,.fst p,x=>p.get x.1
  |_,_,.snd p,x=>p.get x.2
  | .arr _ t,_,.elem i p,x=>p.get (List.getD x i t.zero)
@[reducible] def Pth.set:{t u:T}→Pth t u→t.D→u.D→t.D
  |_,_,.here,_,y=>y
  |_,_,.fst p,x,y=>(p.set x.1 y,x.2)
  |_,_,.snd p,x,y=>(x.1,p.set x.2 y)
  | .arr _ t,_,.elem i p,x,y=>List.set x i (p.set (List.getD x i t.zero) y)
theorem Pth.fits:∀{t u:T} (p:Pth t u),p.ok→p.off+u.size≤t.size
 |_,_,.here,_=>by simp[Pth.off]
 | .pair a b,_,.fst p,h=>by have:=p.fits h;simp only[Pth.off,T.size];omega
 | .pair a b,_,.snd p,h=>by have:=p.fits h;simp only[Pth.off,T.size];omega
 | .arr n t,u,.elem i p,h=>by
   have:=p.fits h.2
   simp only[Pth.off,T.size]
   have h1:i*t.size+t.size≤n*t.size:=by rw[←Nat.succ_mul];exact Nat.mul_le_mul_right _ h.1
   omega
theorem gQ{α:Type}(l:List α)(i s o u:Nat)(h:o+u≤s):(((l.drop i).take s).drop o).take u=(l.drop (i+o)).take u:=by
 rw[List.drop_take,List.take_take,List.drop_drop,Nat.min_eq_left (by omega)]
theorem Rep.get:∀{t u:T} (p:Pth t u) {M:Mem} {cs:List Value} {x:t.D},p.ok→Rep t M cs x→Rep u M ((cs.drop p.off).take u.size) (p.get x)
 |t,_,.here,M,cs,x,_,h=>by
  have:=Rep.size h;simp only[Pth.off,Pth.get,List.drop_zero,←this,List.take_length];exact h
 | .pair a b,u,.fst p,M,cs,x,hok,⟨c1,c2,e,h1,h2⟩=>by
   have hs:=Rep.size h1
   have:=Rep.get p hok h1
   have hf:=p.fits hok
   simp only[Pth.off,Pth.get]
   rw[e,List.drop_append_of_le_length (by omega),List.take_append_of_le_length (by simp;omega)];exact this
 | .pair a b,u,.snd p,M,cs,x,hok,⟨c1,c2,e,h1,h2⟩=>by
   have hs:=Rep.size h1
   have:=Rep.get p hok h2
   simp only[Pth.off,Pth.get]
   rw[e,←hs,←List.drop_drop,List.drop_left];exact this
 | .arr n t,u,.elem i p,M,cs,x,hok,h=>by
   have hl:i<List.length x:=by rw[h.1];exact hok.1
   have hi:(x:List t.D)[i]? =some (List.getD x i t.zero):=by simp[List.getD,hl]
   have h1:=RepL.get (s:=t.size) (λc x h=>Rep.size h) h.2 hi
   have h2:=Rep.get p hok.2 h1
   have hf:=p.fits hok.2
   rw[gQ _ _ _ _ _ hf]at h2
   exact h2
theorem Rep.set:∀{t u:T} (p:Pth t u) {M:Mem} {cs d:List Value} {x:t.D} {y:u.D},p.ok→Rep t M cs x→Rep u M d y→
  Rep t M (cs.take p.off++d++cs.drop (p.off+u.size)) (p.set x y)
 |t,_,.here,M,cs,d,x,y,_,h,g=>by
  have:=Rep.size h
  simp only[Pth.off,Pth.set,List.take_zero,List.nil_append,Nat.zero_add,←this,List.drop_length,List.append_nil];exact g
 | .pair a b,u,.fst p,M,cs,d,x,y,hok,⟨c1,c2,e,h1,h2⟩,g=>by
   have hs:=Rep.size h1
   have hf:=p.fits hok
   refine⟨_,c2,?_,Rep.set p hok h1 g,h2⟩
   simp only[Pth.off]
   rw[e,List.take_append_of_le_length (by omega),List.drop_append_of_le_length (by omega)];simp
 | .pair a b,u,.snd p,M,cs,d,x,y,hok,⟨c1,c2,e,h1,h2⟩,g=>by
   have hs:=Rep.size h1
   refine⟨c1,_,?_,h1,Rep.set p hok h2 g⟩
   simp only[Pth.off]
   rw[e,←hs,List.take_length_add_append,Nat.add_assoc,←List.drop_drop,List.drop_left];simp
 | .arr n t,u,.elem i p,M,cs,d,x,y,hok,h,g=>by
   have hl:i<List.length x:=by rw[h.1];exact hok.1
   have hi:(x:List t.D)[i]? =some (List.getD x i t.zero):=by simp[List.getD,hl]
   have hf:=p.fits hok.2
   have bU:=RepL.length (s:=t.size) (λc x h=>Rep.size h) h.2
   have h1:=RepL.get (s:=t.size) (λc x h=>Rep.size h) h.2 hi
   have h2:=RepL.set (s:=t.size) (λc x h=>Rep.size h) h.2 hl (Rep.set p hok.2 h1 g)
   refine⟨by simp only[Pth.set];rw[List.length_set];exact h.1,?_⟩
   simp only[Pth.off]
   have hb:i*t.size+t.size≤cs.length:=by rw[bU,h.1,←Nat.succ_mul];exact Nat.mul_le_mul_right _ hok.1
   have e:cs.take (i*t.size)++(List.take p.off ((cs.drop (i*t.size)).take t.size)++d++List.drop (p.off+u.size) ((cs.drop (i*t.size)).take t.size))++cs.drop (i*t.size+t.size)
     =cs.take (i*t.size+p.off)++d++cs.drop (i*t.size+p.off+u.size):=by
    rw[List.take_take,Nat.min_eq_left (by omega),List.take_add (i:=i*t.size) (j:=p.off),List.drop_take,List.drop_drop]
    have e3:cs.drop (i*t.size+p.off+u.size)=(cs.drop (i*t.size+(p.off+u.size))).take (t.size - (p.off+u.size))++cs.drop (i*t.size+t.size):=by
     have:i*t.size+t.size=i*t.size+(p.off+u.size)+(t.size - (p.off+u.size)):=by omega
     rw[this,←List.drop_drop (i:=t.size - (p.off+u.size)),Nat.add_assoc,List.take_append_drop]
    rw[e3];simp[List.append_assoc]
   rw[←e];exact h2
def Holds(t:T)(M:Mem)(v:Value)(x:t.D):Prop:=∃cs,v=mk t cs∧Rep t M cs x
theorem Holds.mono{t:T}{M M':Mem}{v:Value}{x:t.D}(h:M.le M')(g:Holds t M v x):Holds t M' v x:=
 let⟨cs,e,r⟩:=g;⟨cs,e,r.mono h⟩
theorem Holds.any{t:T}{M M':Mem}{v:Value}{x:t.D}(h:t.flat=true)(g:Holds t M v x):Holds t M' v x:=
 let⟨cs,e,r⟩:=g;⟨cs,e,r.any h⟩
theorem Holds.unique{t:T}{M M':Mem}{v v':Value}{x:t.D}(h:t.flat=true)(g:Holds t M v x)(g':Holds t M' v' x):v=v':=by
 obtain⟨cs,e,r⟩:=g;obtain⟨ds,e',r'⟩:=g';rw[e,e',Rep.unique h r r']
theorem nb{t:T}{M:Mem}{cs:List Value}{x:t.D}(ht:t.isAgg=false)(h:Rep t M cs x):∃v,cs=[v]∧one v=true:=by
 cases t with
 |int k=>exact⟨_,h.1,rfl⟩
 |bool=>exact⟨_,h,rfl⟩
 |str=>exact⟨_,h.1,rfl⟩
 |raw z=>exact⟨_,h.1,h.2⟩
 |sl e t=>obtain⟨a,cap,e1,_⟩:=h;exact⟨_,e1,rfl⟩
 |ifc e t u=>obtain⟨v,e1,e2,_⟩:=h;exact⟨v,e1,z8 e2⟩
 |unit=>cases ht
 |pair a b=>cases ht
 |arr n t=>cases ht
theorem Holds.cells{t:T}{M:Mem}{v:Value}{x:t.D}(g:Holds t M v x):Rep t M v.cells.toList x:=by
 obtain⟨cs,e,r⟩:=g
 cases ht:t.isAgg with
 |true=>rw[e];simp only[mk,ht,if_true,Value.cells];exact r
 |false=>
  obtain⟨u,e1,hu⟩:=nb ht r
  subst e1
  have:v=u:=by rw[e];simp[mk,ht]
  subst this
  cases v<;>first|exact r|cases hu
theorem holds_int{k:IntKind}{M:Mem}{v:Value}{x:Int}:Holds (.int k) M v x↔v= .int k x∧rng k x:=by
 constructor
 ·rintro⟨cs,e,h1,h2⟩;subst h1;exact⟨by simp[e,mk],h2⟩
 ·rintro⟨e,h⟩;exact⟨[.int k x],by simp[e,mk],rfl,h⟩
theorem holds_bool{M:Mem}{v:Value}{x:Bool}:Holds .bool M v x↔v= .bool x:=by
 constructor
 ·rintro⟨cs,e,h1⟩;simp only[Rep]at h1;subst h1;simp[e,mk]
 ·rintro e;exact⟨[.bool x],by simp[e,mk],rfl⟩
theorem holds_str{M:Mem}{v:Value}{x:List Int}:Holds .str M v x↔v= .string (bs x)∧aQ x∧x.length≤most:=by
 constructor
 ·rintro⟨cs,e,h1,h2⟩;subst h1;exact⟨by simp[e,mk],h2⟩
 ·rintro⟨e,h⟩;exact⟨[.string (bs x)],by simp[e,mk],rfl,h⟩
theorem holds_raw{z:Value}{M:Mem}{v:Value}{x:Value}:Holds (.raw z) M v x↔v=x∧one x=true:=by
 constructor
 ·rintro⟨cs,e,h1,h2⟩;subst h1;exact⟨by simp[e,mk],h2⟩
 ·rintro⟨e,h⟩;exact⟨[x],by simp[e,mk],rfl,h⟩
inductive TV where
 |one (t:T) (x:t.D)
 |ref (t:T) (x:t.D)
 |tup (l:List ((t:T)×t.D))
inductive HoldsL(M:Mem):List Value→List ((t:T)×t.D)→Prop
 |nil:HoldsL M [] []
 |cons {v:Value} {vs:List Value} {t:T} {x:t.D} {l:List ((t:T)×t.D)} (h:Holds t M v x) (r:HoldsL M vs l):HoldsL M (v::vs) (⟨t,x⟩::l)
def Gr(t:T)(M:Mem)(v:Value)(x:t.D):Prop:=∃ad,v= .pointer (some ad)∧ad.spot=none∧∃c el fr,M ad.block=some (.cells c el fr)∧ad.off+t.size≤c.size∧
 Rep t M ((c.toList.drop ad.off).take t.size) x
def TV.holds(M:Mem)(v:Value):TV→Prop
 | .one t x=>Holds t M v x
 | .ref t x=>Gr t M v x
 | .tup l=>∃vs,v= .tuple vs.toArray∧HoldsL M vs l
@[reducible] def TV.flat:TV→Bool
  | .one t _=>t.flat
  | .ref _ _=>false
  | .tup l=>l.all λp=>p.1.flat
theorem HoldsL.mono{M M':Mem}(h:M.le M'):∀{vs:List Value} {l:List ((t:T)×t.D)},HoldsL M vs l→HoldsL M' vs l
 |_,_,.nil=> .nil
 |_,_,.cons a b=> .cons (a.mono h) (b.mono h)
theorem HoldsL.any{M M':Mem}:∀{vs:List Value} {l:List ((t:T)×t.D)},l.all (λp=>p.1.flat)=true→HoldsL M vs l→HoldsL M' vs l
 |_,_,_,.nil=> .nil
 |_,_,h,.cons a b=>by simp only[List.all_cons,Bool.and_eq_true]at h;exact .cons (a.any h.1) (b.any h.2)
theorem HoldsL.unique{M M':Mem}:∀{vs ws:List Value} {l:List ((t:T)×t.D)},l.all (λp=>p.1.flat)=true→HoldsL M vs l→HoldsL M' ws l→vs=ws
 |_,_,_,_,.nil,.nil=>rfl
 |_,_,_,h,.cons a b,.cons a' b'=>by simp only[List.all_cons,Bool.and_eq_true]at h;rw[a.unique h.1 a',b.unique h.2 b']
theorem TV.mono{M M':Mem}(h:M.le M'){v:Value}:∀{t:TV},t.holds M v→t.holds M' v
 | .one _ _,g=>Holds.mono h g
 | .ref _ _,⟨ad,e,s,c,el,fr,m,l,r⟩=>⟨ad,e,s,c,el,fr,h _ _ m,l,r.mono h⟩
 | .tup _,⟨vs,e,g⟩=>⟨vs,e,g.mono h⟩
theorem TV.any{M M':Mem}{v:Value}:∀{t:TV},t.flat=true→t.holds M v→t.holds M' v
 | .one _ _,h,g=>Holds.any h g
 | .ref _ _,h,_=>by simp[TV.flat]at h
 | .tup _,h,⟨vs,e,g⟩=>⟨vs,e,g.any h⟩
theorem TV.unique{M M':Mem}{v v':Value}:∀{t:TV},t.flat=true→t.holds M v→t.holds M' v'→v=v'
 | .one _ _,h,g,g'=>Holds.unique h g g'
 | .ref _ _,h,_,_=>by simp[TV.flat]at h
 | .tup _,h,⟨vs,e,g⟩,⟨ws,e',g'⟩=>by rw[e,e',HoldsL.unique h g g']
abbrev Env:=List (Nat×TV)
@[reducible] def Env.get:Env→Nat→Option TV
  |[],_=>none
  |(j,v)::r,i=>match Nat.beq j i with
   |true=>some v
   |false=>Env.get r i
structure Res where
 sat:Mem→(Nat→Prop)→World→Prop
 mono:∀{M M':Mem} {S:Nat→Prop} {w:World},M.le M'→sat M S w→sat M' S w
 loc:∀{M:Mem} {S:Nat→Prop} {w w':World},(∀k,S k→w'.heap[k]? =w.heap[k]?)→sat M S w→sat M S w'
 has:∀{M:Mem} {S:Nat→Prop} {w:World},sat M S w→∀k,S k→k<w.heap.size
def Sep(M:Mem)(w:World):List Res→(Nat→Prop)→Prop
 |[],V=>∀k,¬V k
 |R::L,V=>∃S V',R.sat M S w∧Sep M w L V'∧(∀k,S k→¬V' k)∧∀k,V k↔(S k∨V' k)
theorem Sep.has{M:Mem}{w:World}:∀{L:List Res} {V:Nat→Prop},Sep M w L V→∀k,V k→k<w.heap.size
 |[],_,h,k,hk=>absurd hk (h k)
 |_::_,_,⟨_,_,r,s,_,e⟩,k,hk=>((e k).1 hk).elim (Res.has _ r k) (Sep.has s k)
theorem Sep.mono{M M':Mem}(h:M.le M'){w:World}:∀{L:List Res} {V:Nat→Prop},Sep M w L V→Sep M' w L V
 |[],_,g=>g
 |R::_,_,⟨S,V',r,s,d,e⟩=>⟨S,V',R.mono h r,Sep.mono h s,d,e⟩
theorem Sep.loc{M:Mem}{w w':World}:∀{L:List Res} {V:Nat→Prop},(∀k,V k→w'.heap[k]? =w.heap[k]?)→Sep M w L V→Sep M w' L V
 |[],_,_,g=>g
 |R::_,_,h,⟨S,V',r,s,d,e⟩=>⟨S,V',R.loc (λk hk=>h k ((e k).2 (.inl hk))) r,Sep.loc (λk hk=>h k ((e k).2 (.inr hk))) s,d,e⟩
theorem Sep.eqv{M:Mem}{w:World}:∀{L:List Res} {V W:Nat→Prop},(∀k,V k↔W k)→Sep M w L V→Sep M w L W
 |[],_,_,h,g=>λk hk=>g k ((h k).2 hk)
 |_::_,_,_,h,⟨S,V',r,s,d,e⟩=>⟨S,V',r,s,d,λk=>(h k).symm.trans (e k)⟩
theorem Sep.append{M:Mem}{w:World}:∀{L L':List Res} {V V':Nat→Prop},Sep M w L V→Sep M w L' V'→(∀k,V k→¬V' k)→Sep M w (L++L') (λk=>V k∨V' k)
 |[],L',V,V',h,g,_=>Sep.eqv (λk=>⟨.inr,λh'=>h'.elim (λx=>absurd x (h k)) id⟩) g
 |R::L,L',V,V',⟨S,W,r,s,d,e⟩,g,hd=>
  ⟨S,λk=>W k∨V' k,r,Sep.append s g (λk hk=>hd k ((e k).2 (.inr hk))),λk hk=>λh=>h.elim (d k hk) (hd k ((e k).2 (.inl hk))),
    λk=>by show V k∨V' k↔S k∨(W k∨V' k);rw[e k];exact or_assoc⟩
theorem Sep.split{M:Mem}{w:World}:∀{L L':List Res} {V:Nat→Prop},Sep M w (L++L') V→∃A B,Sep M w L A∧Sep M w L' B∧(∀k,A k→¬B k)∧∀k,V k↔(A k∨B k)
 |[],_,V,h=>⟨λ_=>False,V,λ_ h=>h,h,λ_ h=>h.elim,λk=>⟨.inr,λh=>h.elim False.elim id⟩⟩
 |R::L,L',V,⟨S,W,r,s,d,e⟩=>by
  obtain⟨A,B,a,b,dd,ee⟩:=Sep.split (L:=L) s
  refine⟨λk=>S k∨A k,B,⟨S,A,r,a,λk hk ha=>d k hk ((ee k).2 (.inl ha)),λk=>Iff.rfl⟩,b,?_,?_⟩
  ·rintro k (hk|hk)
   ·exactλhb=>d k hk ((ee k).2 (.inr hb))
   ·exact dd k hk
  ·intro k;rw[e k,ee k];exact or_assoc.symm
theorem Sep.swap{M:Mem}{w:World}{L L':List Res}{V:Nat→Prop}(h:Sep M w (L++L') V):Sep M w (L'++L) V:=by
 obtain⟨A,B,a,b,d,e⟩:=Sep.split h
 exact Sep.eqv (λk=>by rw[e k];exact or_comm) (Sep.append b a (λk hb ha=>d k ha hb))
theorem Sep.perm{M:Mem}{w:World}{L L':List Res}(p:L.Perm L'):∀{V:Nat→Prop},Sep M w L V→Sep M w L' V:=by
 induction p with
 |nil=>exact id
 |cons R _ ih=>rintro V ⟨S,W,r,s,d,e⟩;exact⟨S,W,r,ih s,d,e⟩
 |swap R R' L=>
  rintro V ⟨S,W,r,⟨S',W',r',s',d',e'⟩,d,e⟩
  refine⟨S',λk=>S k∨W' k,r',⟨S,W',r,s',λk hk hw=>d k hk ((e' k).2 (.inr hw)),λk=>Iff.rfl⟩,?_,?_⟩
  ·rintro k hk (h|h)
   ·exact d k h ((e' k).2 (.inl hk))
   ·exact d' k hk h
  ·intro k;rw[e k,e' k];exact or_left_comm
 |trans _ _ ih1 ih2=>exactλh=>ih2 (ih1 h)
structure Fr where
 os:Os
 tape:Nat→Question→Nat
 output:Array (Nat×ByteArray)
 mem:Mem
 base:Mem
 size:Nat
 dfs:List Deferred:=[]
def Fr.nd(F:Fr):Fr:={F with dfs:=[]}
def Fr.df(F:Fr)(d:Deferred):Fr:={F with dfs:=d::F.dfs}
structure St(F:Fr)(M:Mem)(w:World)(L:List Res):Prop where
 os:w.os=F.os
 tape:w.tape=F.tape
 output:w.output=F.output
 size:F.size≤w.heap.size
 elder:F.base.le M
 fresh:∀k o,M k=some o→F.base k=some o∨F.mem k=none
 frame:∀k o,F.mem k=some o→w.heap[k]? =some o
 mem:∀k o,M k=some o→w.heap[k]? =some o
 sep:∃V,Sep M w L V∧∀k,V k→M k=none∧F.mem k=none
theorem St.nd{F:Fr}{M:Mem}{w:World}{L:List Res}(h:St F M w L):St F.nd M w L:=⟨h.os,h.tape,h.output,h.size,h.elder,h.fresh,h.frame,h.mem,h.sep⟩
theorem St.un{F:Fr}{M:Mem}{w:World}{L:List Res}(h:St F.nd M w L):St F M w L:=⟨h.os,h.tape,h.output,h.size,h.elder,h.fresh,h.frame,h.mem,h.sep⟩
theorem St.perm{F:Fr}{M:Mem}{w:World}{L L':List Res}(p:L.Perm L')(h:St F M w L):St F M w L':=
 {h with sep:=let⟨V,s,d⟩:=h.sep;⟨V,s.perm p,d⟩}
theorem St.lt{F:Fr}{M:Mem}{w:World}{L:List Res}(h:St F M w L){k:Nat}{o:Obj}(e:M k=some o):k<w.heap.size:=by
 have:=h.mem k o e
 rcases Nat.lt_or_ge k w.heap.size with g|g
 ·exact g
 ·simp[Array.getElem?_eq_none g]at this
theorem St.flt{F:Fr}{M:Mem}{w:World}{L:List Res}(h:St F M w L){k:Nat}{o:Obj}(e:F.mem k=some o):k<w.heap.size:=by
 have:=h.frame k o e
 rcases Nat.lt_or_ge k w.heap.size with g|g
 ·exact g
 ·simp[Array.getElem?_eq_none g]at this
theorem St.drop{F:Fr}{M:Mem}{w:World}{L L':List Res}(h:St F M w (L++L')):St F M w L:=
 {h with
  sep:=by
   obtain⟨V,s,d⟩:=h.sep
   obtain⟨A,B,a,_,_,e⟩:=s.split
   exact⟨A,a,λk hk=>d k ((e k).2 (.inl hk))⟩}
theorem St.drew{F:Fr}{M:Mem}{w:World}{L:List Res}(h:St F M w L):St F M {w with drawn:=w.drawn+1} L:=
 {os:=h.os,tape:=h.tape,output:=h.output,size:=h.size,elder:=h.elder,fresh:=h.fresh,frame:=h.frame,mem:=h.mem,sep:=let⟨V,s,d⟩:=h.sep;⟨V,Sep.loc (w:=w) (λ_ _=>rfl) s,d⟩}
theorem St.back{F:Fr}{M M':Mem}{w w':World}(h:St F M' w' [])(h0:St F M w [])(l:M.le M'):St F M w' []:=
 {os:=h.os,tape:=h.tape,output:=h.output,size:=h.size,elder:=h0.elder,fresh:=h0.fresh,frame:=h.frame,mem:=λk o e=>h.mem k o (l k o e),sep:=⟨λ_=>False,λ_ h=>h,λ_ h=>h.elim⟩}
open Classical in
theorem St.part{F:Fr}{M:Mem}{w:World}{Lc Lo:List Res}(h:St F M w (Lc++Lo)):
  ∃F',F'.base=M∧F'.size=w.heap.size∧St F' M w Lc∧∀M' w' Lc',St F' M' w' Lc'→M.le M'∧St F M' w' (Lc'++Lo):=by
 obtain⟨V,s,d⟩:=h.sep
 obtain⟨A,B,a,b,dj,e⟩:=s.split
 refine⟨{F with mem:=λk=>if B k then w.heap[k]? else F.mem k,base:=M,size:=w.heap.size},rfl,rfl,?_,?_⟩
 ·refine{os:=h.os,tape:=h.tape,output:=h.output,size:=Nat.le_refl _,elder:=Mem.le.refl _,fresh:=λk o e=> .inl e,frame:= ?_,mem:=h.mem,sep:=⟨A,a,?_⟩}
  ·intro k o hk
   dsimp only at hk
   split at hk
   ·exact hk
   ·exact h.frame k o hk
  ·intro k hk
   have:=d k ((e k).2 (.inl hk))
   refine⟨this.1,?_⟩
   dsimp only
   rw[if_neg (dj k hk)]
   exact this.2
 ·intro M' w' Lc' h'
  have hle:M.le M':=h'.elder
  have hfr:∀k o,M' k=some o→M k=some o∨(if B k then w.heap[k]? else F.mem k)=none:=h'.fresh
  refine⟨hle,?_⟩
  have hB:∀k,B k→w'.heap[k]? =w.heap[k]? :=by
   intro k hk
   have hlt:=b.has k hk
   have:=h'.frame k (w.heap[k]) (by dsimp only;rw[if_pos hk];simp[hlt])
   rw[this];simp[hlt]
  obtain⟨V',s',d'⟩:=h'.sep
  refine{os:=h'.os,tape:=h'.tape,output:=h'.output,size:=Nat.le_trans h.size h'.size,elder:=h.elder.trans hle,fresh:= ?_,frame:= ?_,mem:=h'.mem,sep:= ?_}
  ·intro k o hk
   rcases hfr k o hk with g|g
   ·exact h.fresh k o g
   ·split at g
    ·rename_i hb
     have:=b.has k hb
     simp[this]at g
    ·exact .inr g
  ·intro k o hk
   have hnb:¬B k:=λhb=>by have:=(d k ((e k).2 (.inr hb))).2;rw[this]at hk;cases hk
   exact h'.frame k o (by dsimp only;rw[if_neg hnb];exact hk)
  ·have hd:∀k,V' k→¬B k:=by
    intro k hk hb
    have:=(d' k hk).2
    dsimp only at this
    rw[if_pos hb]at this
    have hlt:=b.has k hb
    simp[hlt]at this
   refine⟨λk=>V' k∨B k,Sep.append s' ((b.loc hB).mono hle) hd,?_⟩
   rintro k (hk|hk)
   ·refine⟨(d' k hk).1,?_⟩
    have:=(d' k hk).2
    dsimp only at this
    rwa [if_neg (hd k hk)]at this
   ·have:=d k ((e k).2 (.inr hk))
    refine⟨?_,this.2⟩
    cases hm:M' k with
    |none=>rfl
    |some o=>
     rcases hfr k o hm with g|g
     ·rw[this.1]at g;cases g
     ·rw[if_pos hk]at g
      have:=b.has k hk
      simp[this]at g
structure Cfg(F:Fr)(M:Mem)(n:Nat)(E:Env)(L:List Res)(a:Act)(w:World):Prop where
 st:St F M w L
 defers:a.defers=F.dfs
 size:a.tmps.size=n
 env:∀i t,E.get i=some t→∃v,a.tmps[i]? =some v∧t.holds M v
def Go(F:Fr)(n:Nat)(E:Env)(L:List Res)(X:Act→World→Prop):Prop:=∀M a w,Cfg F M n E L a w→X a w
theorem Cfg.get{F:Fr}{M:Mem}{n:Nat}{E:Env}{L:List Res}{a:Act}{w:World}(c:Cfg F M n E L a w){i:Nat}{t:TV}(h:E.get i=some t):
  ∃v,a.tmps[i]? =some v∧t.holds M v:=c.env _ _ h
theorem Cfg.get?{F:Fr}{M:Mem}{n:Nat}{E:Env}{L:List Res}{a:Act}{w:World}(c:Cfg F M n E L a w){i:Nat}{t:TV}(h:E.get i=some t):
  ∃v,a.eval (.tmp i)=v∧t.holds M v:=by
 obtain⟨v,e,h⟩:=c.get h
 exact⟨v,by simp[Act.eval,e],h⟩
@[reducible] def Env.del:Env→Nat→Env
  |[],_=>[]
  |(j,v)::r,i=>match Nat.beq j i with
   |true=>Env.del r i
   |false=>(j,v)::Env.del r i
theorem Env.get_del:∀{E:Env} {d i:Nat} {t:TV},(E.del d).get i=some t→E.get i=some t∧i≠d
 |[],_,_,_,h=>by simp[Env.get]at h
 |(j,u)::r,d,i,t,h=>by
  simp only[Env.del]at h
  split at h
  ·rename_i hb
   have hj:=Nat.eq_of_beq_eq_true hb
   have:=Env.get_del h
   refine⟨?_,this.2⟩
   simp only[Env.get]
   have:Nat.beq j i=false:=by
    cases hji:Nat.beq j i with
    |false=>rfl
    |true=>exact absurd ((Nat.eq_of_beq_eq_true hji).symm.trans hj) this.2
   rw[this];simp only[]
   exact(Env.get_del h).1
  ·rename_i hb
   simp only[Env.get]at h⊢
   split at h
   ·rename_i hji
    refine⟨h,?_⟩
    rintro rfl
    rw[hji]at hb;cases hb
   ·exact Env.get_del h
theorem Cfg.put{F:Fr}{M M':Mem}{n:Nat}{E:Env}{L L':List Res}{a:Act}{w w':World}(c:Cfg F M n E L a w)(hM:M.le M')(h':St F M' w' L'){d:Nat}(hd:d<n){v:Value}{t:TV}(hv:t.holds M' v):
  Cfg F M' n ((d,t)::E) L' (a.put (some d) v) w' where
 st:=h'
 defers:=c.defers
 size:=by simp[Act.put,c.size]
 env:=by
  intro i u hp
  simp only[Env.get]at hp
  split at hp
  ·rename_i hb
   obtain rfl:=Nat.eq_of_beq_eq_true hb
   cases hp
   exact⟨v,by simp[Act.put,c.size,hd],hv⟩
  ·rename_i hb
   obtain⟨x,e,hx⟩:=c.env i u hp
   refine⟨x,?_,TV.mono hM hx⟩
   have:d≠i:=by rintro rfl;simp at hb
   simp[Act.put,this,e]
theorem Cfg.void{F:Fr}{M:Mem}{n:Nat}{E:Env}{L:List Res}{a:Act}{w:World}(c:Cfg F M n E L a w)(d:Option Nat)(v:Value):
  Cfg F M n (match d with|some d=>E.del d|none=>E) L (a.put d v) w where
 st:=c.st
 defers:=by cases d<;>exact c.defers
 size:=by cases d<;>simp[Act.put,c.size]
 env:=by
  intro i u hp
  cases d with
  |none=>exact c.env i u hp
  |some d=>
   obtain⟨hp,hne⟩:=Env.get_del hp
   obtain⟨x,e,hx⟩:=c.env i u hp
   exact⟨x,by simp[Act.put,Ne.symm hne,e],hx⟩
theorem Cfg.same{F:Fr}{M M':Mem}{n:Nat}{E:Env}{L L':List Res}{a:Act}{w w':World}(c:Cfg F M n E L a w)(hM:M.le M')(h':St F M' w' L'):Cfg F M' n E L' a w' where
 st:=h'
 defers:=c.defers
 size:=c.size
 env:=λi t hp=>let⟨v,e,h⟩:=c.env i t hp;⟨v,e,TV.mono hM h⟩
theorem Cfg.less{F:Fr}{M:Mem}{n:Nat}{E E':Env}{L:List Res}{a:Act}{w:World}(c:Cfg F M n E L a w)(h:∀i t,E'.get i=some t→E.get i=some t):Cfg F M n E' L a w:=
 {c with env:=λi t hp=>c.env i t (h i t hp)}
@[reducible] def lk{α:Type}:List (Nat×α)→Nat→Option α
  |[],_=>none
  |(j,v)::r,i=>match Nat.beq j i with
   |true=>some v
   |false=>lk r i
structure Tab where
 ints:List (Nat×IntKind)
 strs:List (Nat×Unit)
 slices:List (Nat×Nat)
 arrs:List (Nat×Nat)
 offs:List (Nat×List Nat)
def pS(P:Program)(s i off:Nat):Bool:=
 match P.underlying s with
 |some (.struct fs)=>match fs[i]? with
  |some f=>Nat.beq f.offset off&&(match P.info? f.type with|some i=> !Nat.beq i.size 0|none=>false)
  |none=>false
 |_=>false
def tm(P:Program)(s:Nat):Nat→List Nat→Bool
 |_,[]=>true
 |i,o::r=>pS P s i o&&tm P s (i+1) r
def rl:IntKind→IntKind→Bool
 | .i8,.i8| .i16,.i16| .i32,.i32| .i64,.i64| .u8,.u8| .u16,.u16| .u32,.u32| .u64,.u64=>true
 |_,_=>false
theorem nc{a b:IntKind}(h:rl a b=true):a=b:=by cases a<;>cases b<;>first|rfl|cases h
def Tab.chk(P:Program)(T:Tab):Bool:=
 T.ints.all (λp=>match P.underlying p.1 with|some (.int k)=>rl k p.2|_=>false)&&
 T.strs.all (λp=>match P.underlying p.1 with|some .string=>true|_=>false)&&
 T.slices.all (λp=>match P.underlying p.1 with|some (.slice e)=>Nat.beq e p.2|_=>false)&&
 T.arrs.all (λp=>match P.underlying p.1 with|some (.array n _)=>Nat.beq n p.2|_=>false)&&
 T.offs.all (λp=>tm P p.1 0 p.2)
theorem rm{α:Type}:∀{l:List (Nat×α)} {i:Nat} {v:α},lk l i=some v→(i,v)∈l
 |[],_,_,h=>by simp[lk]at h
 |(j,u)::r,i,v,h=>by
  simp only[lk]at h
  split at h
  ·rename_i hb
   have:=Nat.eq_of_beq_eq_true hb
   simp only[Option.some.injEq]at h
   subst this;subst h;exact List.mem_cons_self ..
  ·exact List.mem_cons_of_mem _ (rm h)
section
variable {P:Program}{Tb:Tab}
theorem Tab.int(h:Tb.chk P=true){t:Nat}{k:IntKind}(e:lk Tb.ints t=some k):P.underlying t=some (.int k):=by
 simp only[Tab.chk,Bool.and_eq_true,List.all_eq_true]at h
 have:=h.1.1.1.1 _ (rm e)
 dsimp only at this
 split at this
 ·rename_i h;rw[h,nc this]
 ·cases this
theorem Tab.str(h:Tb.chk P=true){t:Nat}{k:Unit}(e:lk Tb.strs t=some k):P.underlying t=some .string:=by
 simp only[Tab.chk,Bool.and_eq_true,List.all_eq_true]at h
 have:=h.1.1.1.2 _ (rm e)
 dsimp only at this
 split at this
 ·assumption
 ·cases this
theorem Tab.slice(h:Tb.chk P=true){t:Nat}{k:Nat}(e:lk Tb.slices t=some k):P.underlying t=some (.slice k):=by
 simp only[Tab.chk,Bool.and_eq_true,List.all_eq_true]at h
 have:=h.1.1.2 _ (rm e)
 dsimp only at this
 split at this
 ·rename_i h;rw[h,Nat.eq_of_beq_eq_true this]
 ·cases this
theorem Tab.arr(h:Tb.chk P=true){t:Nat}{k:Nat}(e:lk Tb.arrs t=some k):∃e,P.underlying t=some (.array k e):=by
 simp only[Tab.chk,Bool.and_eq_true,List.all_eq_true]at h
 have:=h.1.2 _ (rm e)
 dsimp only at this
 split at this
 ·rename_i h;rw[h,Nat.eq_of_beq_eq_true this];exact⟨_,rfl⟩
 ·cases this
theorem vu{s:Nat}:∀{l:List Nat} {i j off:Nat},tm P s i l=true→l[j]? =some off→pS P s (i+j) off=true
 |[],_,_,_,_,h=>by simp at h
 |o::r,i,0,off,h,e=>by
  simp only[tm,Bool.and_eq_true]at h
  simp only[List.getElem?_cons_zero,Option.some.injEq]at e;subst e;exact h.1
 |o::r,i,j+1,off,h,e=>by
  simp only[tm,Bool.and_eq_true]at h
  have:=vu (j:=j) h.2 (by simpa using e)
  rwa [Nat.add_assoc,Nat.add_comm 1 j]at this
theorem Tab.off(h:Tb.chk P=true){s i off:Nat}{l:List Nat}(e:lk Tb.offs s=some l)(g:l[i]? =some off):pS P s i off=true:=by
 simp only[Tab.chk,Bool.and_eq_true,List.all_eq_true]at h
 have:=vu (h.2 _ (rm e)) g
 rwa [Nat.zero_add]at this
end
def wg:Value→Option TV
 | .int k n=>match decide (rng k n)with|true=>some (.one (.int k) n)|false=>none
 | .bool b=>some (.one .bool b)
 | .string s=>match Nat.ble s.data.toList.length 1000000 with|true=>some (.one .str (s.data.toList.map λc=>(c.toNat:Int)))|false=>none
 | .pointer none=>some (.one (.raw (.pointer none)) (.pointer none))
 | .slice none 0 0=>some (.one (.raw (.slice none 0 0)) (.slice none 0 0))
 | .map none=>some (.one (.raw (.map none)) (.map none))
 | .nilFunc=>some (.one (.raw .nilFunc) .nilFunc)
 | .nilIface=>some (.one (.raw .nilIface) .nilIface)
 |_=>none
abbrev fnv(k:FuncId):Value:= .func (.func k) #[] #[]
@[reducible] def ev(E:Env):Operand→Option TV
  | .tmp t=>E.get t
  | .const v=>wg v
  | .func k=>some (.one (.raw (fnv k)) (fnv k))
  | .global g=>some (.one (.raw (.pointer none)) (.pointer (some ⟨g,0,none⟩)))
def kA(k:IntKind)(x y:Int):Int:=k.wrap (x*2^(min y.toNat k.bits))
def bS(k:IntKind)(x y:Int):Int:=x.fdiv (2^(min y.toNat k.bits))
def dV(k:IntKind)(x y:Int):Int:=k.wrap (BitVec.ofInt k.bits x&&&BitVec.ofInt k.bits y).toNat
def ior(k:IntKind)(x y:Int):Int:=k.wrap (BitVec.ofInt k.bits x|||BitVec.ofInt k.bits y).toNat
def cO(k:IntKind)(x y:Int):Int:=k.wrap (BitVec.ofInt k.bits x^^^BitVec.ofInt k.bits y).toNat
def Gs(k:IntKind)(x y:Int):Int:=k.wrap (BitVec.ofInt k.bits x&&& ~~~BitVec.ofInt k.bits y).toNat
def qG(k:IntKind)(x:Int):Int:=cO k (if k.signed then -1 else k.max) x
theorem jm(k:IntKind)(n:Int):rng k (k.wrap n):=by
 cases k<;>simp[rng,lo,hi,IntKind.wrap,IntKind.signed,IntKind.bits]<;>(try split)<;>omega
theorem Aa{k:IntKind}{n:Int}(h:rng k n):k.wrap n=n:=by
 cases k<;>simp[rng,lo,hi,IntKind.wrap,IntKind.signed,IntKind.bits]at* <;>(try split)<;>omega
theorem C8{k:IntKind}{x y:Int}(h:rng k x):rng k (x.tmod y):=by
 rcases Int.le_total 0 x with h0|h0
 ·have h1:=Int.tmod_nonneg y h0
  have h2:x.tmod y≤x:=by
   have:=Int.natAbs_tmod x y
   have h3:(x.tmod y).natAbs≤x.natAbs:=by rw[this];exact Nat.mod_le _ _
   omega
  have:lo k≤0:=by cases k<;>simp[lo]
  have:=h.2
  exact⟨by omega,by omega⟩
 ·have h1:x.tmod y≤0:=by
   have:=Int.tmod_nonneg (a:= -x) y (by omega)
   rw[Int.neg_tmod]at this;omega
  have h3:(x.tmod y).natAbs≤x.natAbs:=by rw[Int.natAbs_tmod];exact Nat.mod_le _ _
  have:=h.1
  have h4:0≤hi k:=by cases k<;>simp[hi]
  exact⟨by omega,by omega⟩
theorem Ab{k:IntKind}{x y:Int}(h:rng k x):rng k (bS k x y):=by
 unfold bS
 have hp:(0:Int)<2^(min y.toNat k.bits):=Int.pow_pos (by omega)
 generalize (2:Int)^(min y.toNat k.bits)=p at hp
 rw[Int.fdiv_eq_ediv_of_nonneg _ (by omega)]
 have h1:=h.1
 have h2:=h.2
 have h3:lo k≤0:=by cases k<;>simp[lo]
 have h4:0≤hi k:=by cases k<;>simp[hi]
 rcases Int.le_total 0 x with h0|h0
 ·have:=Int.ediv_nonneg h0 (Int.le_of_lt hp)
  have h5:=Int.ediv_le_self p h0
  exact⟨by omega,by omega⟩
 ·have h6:x≤x/p:=by
   have:=Int.le_ediv_of_mul_le (a:=x) (b:=x) hp
   apply this
   have h7:x*p≤x*1:=Int.mul_le_mul_of_nonpos_left h0 (by omega)
   omega
  have h8:x/p≤0:=Int.ediv_nonpos_of_nonpos_of_neg h0 hp
  exact⟨by omega,by omega⟩
@[reducible] def AW(k:IntKind)(y:Int):Bool:=match k with| .u8| .u16| .u32| .u64=>true|_=>decide (0≤y)
def tq(op:BinOp)(k k':IntKind)(x y:Int):Option TV:=
 match op with
 | .shl=>match AW k' y with|true=>some (.one (.int k) (kA k x y))|false=>none
 | .shr=>match AW k' y with|true=>some (.one (.int k) (bS k x y))|false=>none
 |op=>match rl k k' with
  |false=>none
  |true=>match op with
   | .add=>some (.one (.int k) (k.wrap (x+y)))
   | .sub=>some (.one (.int k) (k.wrap (x - y)))
   | .mul=>some (.one (.int k) (k.wrap (x*y)))
   | .quo=>match decide (y=0)with|true=>none|false=>some (.one (.int k) (k.wrap (x.tdiv y)))
   | .rem=>match decide (y=0)with|true=>none|false=>some (.one (.int k) (x.tmod y))
   | .and=>some (.one (.int k) (dV k x y))
   | .or=>some (.one (.int k) (ior k x y))
   | .xor=>some (.one (.int k) (cO k x y))
   | .andNot=>some (.one (.int k) (Gs k x y))
   | .eql=>some (.one .bool (x==y))
   | .neq=>some (.one .bool (x !=y))
   | .lss=>some (.one .bool (decide (x<y)))
   | .leq=>some (.one .bool (decide (x≤y)))
   | .gtr=>some (.one .bool (decide (x>y)))
   | .geq=>some (.one .bool (decide (x≥y)))
   |_=>none
def xG(op:BinOp)(x y:List Int):Option TV:=
 match op with
 | .eql=>some (.one .bool (x==y))
 | .neq=>some (.one .bool (x !=y))
 |_=>none
def Ed(T:Tab)(E:Env)(args:Array Operand)(types:Array TypeId):Option TV:=
 match args.toList,types.toList with
 |[x],[t]=>(match ev E x with
  |some (.one .str a)=>(match lk T.strs t with|some _=>some (.one (.int .i64) (List.length a))|none=>none)
  |some (.one (.sl _ _) a)=>(match lk T.slices t with|some _=>some (.one (.int .i64) (List.length a))|none=>none)
  |some (.one (.raw _) (.slice _ n _))=>(match lk T.slices t with|some _=>(match decide (n≤most)with|true=>some (.one (.int .i64) n)|false=>none)|none=>none)
  |_=>none)
 |_,_=>none
def BM(T:Tab)(E:Env)(c:Call):Option TV:=
 match c.callee with
 | .builtin b=>(match b with| .len=>Ed T E c.args c.argTypes|_=>none)
 |_=>none
def pv(T:Tab)(E:Env):Op→Option TV
 | .move x=>ev E x
 | .assign x=>ev E x
 | .pick c a b=>match ev E c with
   |some (.one .bool c)=>(match c with|true=>ev E a|false=>ev E b)
   |_=>none
 | .binOp op _ x y _=>match ev E x with
   |some (.one (.int k) a)=>(match ev E y with|some (.one (.int k') b)=>tq op k k' a b|_=>none)
   |some (.one .str a)=>(match ev E y with|some (.one .str b)=>xG op a b|_=>none)
   |_=>none
 | .unOp op _ x=>match op,ev E x with
   | .not,some (.one .bool b)=>some (.one .bool (!b))
   | .neg,some (.one (.int k) a)=>some (.one (.int k) (k.wrap (0 - a)))
   | .xor,some (.one (.int k) a)=>some (.one (.int k) (qG k a))
   |_,_=>none
 | .convert s d x=>match ev E x with
   |some (.one (.int _) a)=>(match lk T.ints s,lk T.ints d with|some _,some k=>some (.one (.int k) (k.wrap a))|_,_=>none)
   |some (.one .str a)=>(match lk T.strs s,lk T.strs d with|some _,some _=>some (.one .str a)|_,_=>none)
   |_=>none
 | .nilCheck x=>match ev E x with
   |some (.one (.raw z) (.pointer (some a)))=>some (.one (.raw z) (.pointer (some a)))
   |_=>none
 | .fieldAddr s x f=>match ev E x with
   |some (.one (.raw z) (.pointer (some ⟨b,o,none⟩)))=>(match lk T.offs s with
    |some l=>(match l[f]? with|some off=>some (.one (.raw z) (.pointer (some ⟨b,o+off,none⟩)))|none=>none)
    |none=>none)
   |_=>none
 | .extract x i=>match ev E x with
   |some (.tup l)=>(match l[i]? with|some ⟨t,x⟩=>some (.one t x)|none=>none)
   |_=>none
 | .call c=>BM T E c
 |_=>none
theorem BN{l:List Int}:(bs l).toList=l.map λc=>UInt8.ofNat c.toNat:=ByteArray.toList_mk _
theorem jY{l:List Int}:(bs l).size=l.length:=by simp[bs,ByteArray.size]
theorem xH{a b:Int}(ha:0≤a∧a<256)(hb:0≤b∧b<256)(h:UInt8.ofNat a.toNat=UInt8.ofNat b.toNat):a=b:=by
 have:=congrArg UInt8.toNat h
 simp only[UInt8.toNat_ofNat']at this
 omega
theorem xI:∀{a b:List Int},aQ a→aQ b→(a.map λc=>UInt8.ofNat c.toNat)=(b.map λc=>UInt8.ofNat c.toNat)→a=b
 |[],[],_,_,_=>rfl
 |[],_::_,_,_,h=>by simp at h
 |_::_,[],_,_,h=>by simp at h
 |x::a,y::b,ha,hb,h=>by
  simp only[List.map_cons,List.cons.injEq]at h
  rw[xH (ha x (by simp)) (hb y (by simp)) h.1,xI (λc hc=>ha c (by simp[hc])) (λc hc=>hb c (by simp[hc])) h.2]
theorem BO{a b:List Int}(ha:aQ a)(hb:aQ b):((bs a).toList==(bs b).toList)=(a==b):=by
 rw[Bool.eq_iff_iff];simp only[beq_iff_eq,BN]
 exact⟨xI ha hb,λh=>by rw[h]⟩
theorem AX(s:ByteArray):aQ (s.data.toList.map λc=>(c.toNat:Int)):=by
 intro c hc
 obtain⟨u,_,rfl⟩:=List.mem_map.1 hc
 have:=u.toNat_lt
 constructor<;>omega
theorem Fy(s:ByteArray):bs (s.data.toList.map λc=>(c.toNat:Int))=s:=by
 apply ByteArray.ext
 simp only[bs,List.map_map]
 have:((λc:Int=>UInt8.ofNat c.toNat)∘λc:UInt8=>(c.toNat:Int))=id:=by funext c;simp
 rw[this];simp
theorem AY{v:Value}{t:TV}(h:wg v=some t)(M:Mem):t.holds M v:=by
 unfold wg at h
 split at h
 ·split at h<;>cases h
  rename_i hr;exact holds_int.2 ⟨rfl,of_decide_eq_true hr⟩
 ·cases h;exact holds_bool.2 rfl
 ·split at h<;>cases h
  rename_i hb
  exact holds_str.2 ⟨by rw[Fy],AX _,by have:=Nat.le_of_ble_eq_true hb;simp only[most,List.length_map]at*;omega⟩
 ·cases h;exact holds_raw.2 ⟨rfl,rfl⟩
 ·cases h;exact holds_raw.2 ⟨rfl,rfl⟩
 ·cases h;exact holds_raw.2 ⟨rfl,rfl⟩
 ·cases h;exact holds_raw.2 ⟨rfl,rfl⟩
 ·cases h;exact holds_raw.2 ⟨rfl,rfl⟩
 ·cases h
section
variable {P:Program}{Tb:Tab}{F:Fr}{M:Mem}{n:Nat}{E:Env}{L:List Res}{a:Act}{w:World}
theorem aJ(c:Cfg F M n E L a w):∀{x:Operand} {t:TV},ev E x=some t→t.holds M (a.eval x)
 | .tmp _,_,h=>by obtain⟨v,e,hv⟩:=c.get? h;rw[e];exact hv
 | .const _,_,h=>AY h M
 | .global _,_,h=>by cases h;exact holds_raw.2 ⟨rfl,rfl⟩
 | .func _,_,h=>by cases h;exact holds_raw.2 ⟨rfl,rfl⟩
theorem ao{α β:Type}(s:Sem α)(f:α→Sem β)(P:Program)(w:World):
  (s>>=f).run P w=match s.run P w with| .ok x w'=>(f x).run P w'| .halt h w'=> .halt h w':=by
 show(Sem.bind s f).run P w=_
 induction s generalizing w with
 |pure a=>rfl
 |load m a k ih=>
  simp only[Sem.bind,Sem.run]
  split
  ·exact ih _ _
  ·split
   ·exact ih _ _
   ·rfl
 |store m a v k ih=>
  cases v<;>simp only[Sem.bind,Sem.run]<;>(try rfl)<;>split<;>(try split)<;>first|exact ih _|rfl
 |new o k ih=>exact ih _ _
 |shape r k ih=>exact ih _ _
 |freeze a n k ih=>exact ih _
 |frozen a k ih=>exact ih _ _
 |getObj r k ih=>
  simp only[Sem.bind,Sem.run]
  split<;>first|rfl|exact ih _ _
 |setObj r o k ih=>
  simp only[Sem.bind,Sem.run]
  split<;>first|rfl|exact ih _
 |choose q k ih=>
  simp only[Sem.bind,Sem.run]
  split<;>exact ih _ _
 |sys c k ih=>exact ih _ _
 |program k ih=>exact ih _ _
 |mark m k ih=>exact ih _
 |halt h=>rfl
theorem aG{α:Type}(x:α)(P:Program)(w:World):(pure x:Sem α).run P w= .ok x w:=rfl
theorem bz{s:Sem Value}{v:Value}{P:Program}{w w':World}(h:s.run P w= .ok v w'):(do pure (Next.value (←s)):Sem Next).run P w= .ok (.value v) w':=by
 rw[ao,h];rfl
theorem run_underlying{w:World}{t:TypeId}{d:TypeDesc}(h:P.underlying t=some d):(underlying t).run P w= .ok d w:=by
 simp only[underlying,ao];simp only[program,Sem.run,h];rfl
theorem BP{op:BinOp}{k k':IntKind}{x y:Int}{t:TV}{ty:TypeId}(hx:rng k x)(hy:rng k' y)(h:tq op k k' x y=some t):
  ∃v,t.holds M v∧∀w,(binOp op ty (.int k x) (.int k' y)).run P w= .ok v w:=by
 have sh:∀{z:Int},AW k' z=true→rng k' z→¬z<0:=by
  intro z h hz
  cases k'<;>simp only[AW,decide_eq_true_eq]at h<;>simp only[rng,lo,hi]at hz<;>omega
 cases op
 case shl=>
  simp only[tq]at h
  split at h
  ·rename_i hs;cases h
   exact⟨_,holds_int.2 ⟨rfl,jm _ _⟩,λw=>by simp only[Go.binOp,Op.shift,if_neg (sh hs hy)];rfl⟩
  ·cases h
 case shr=>
  simp only[tq]at h
  split at h
  ·rename_i hs;cases h
   exact⟨_,holds_int.2 ⟨rfl,Ab hx⟩,λw=>by simp only[Go.binOp,Op.shift,if_neg (sh hs hy)];rfl⟩
  ·cases h
 all_goals
  simp only[tq]at h
  have hk:rl k k'=true:=by
   cases hk:rl k k' with
   |true=>rfl
   |false=>rw[hk]at h;cases h
  rw[hk]at h
  obtain rfl:=nc hk
  dsimp only at h
 case quo=>
  split at h
  ·cases h
  ·rename_i hy0;cases h
   exact⟨_,holds_int.2 ⟨rfl,jm _ _⟩,λw=>by simp only[Go.binOp,ne_eq,not_true_eq_false,if_false,Op.intDiv,of_decide_eq_false hy0];rfl⟩
 case rem=>
  split at h
  ·cases h
  ·rename_i hy0;cases h
   exact⟨_,holds_int.2 ⟨rfl,C8 hx⟩,λw=>by simp only[Go.binOp,ne_eq,not_true_eq_false,if_false,Op.intDiv,of_decide_eq_false hy0];rfl⟩
 all_goals
  cases h
  first
  |exact⟨_,holds_int.2 ⟨rfl,jm _ _⟩,λw=>by simp only[Go.binOp,ne_eq,not_true_eq_false,if_false,Op.intArith];rfl⟩
  |exact⟨_,holds_int.2 ⟨rfl,jm _ _⟩,λw=>by simp only[Go.binOp,ne_eq,not_true_eq_false,if_false,Op.intBits];rfl⟩
  |exact⟨_,holds_bool.2 rfl,λw=>by simp only[Go.binOp,ne_eq,not_true_eq_false,if_false,Op.intCmp];rfl⟩
theorem BQ{op:BinOp}{x y:List Int}{t:TV}{ty:TypeId}(hx:aQ x)(hy:aQ y)(h:xG op x y=some t):
  ∃v,t.holds M v∧∀w,(binOp op ty (.string (bs x)) (.string (bs y))).run P w= .ok v w:=by
 unfold xG at h
 split at h
 ·cases h;exact⟨_,holds_bool.2 rfl,λw=>by simp only[Go.binOp,Op.stringOp,BO hx hy];rfl⟩
 ·cases h;exact⟨_,holds_bool.2 rfl,λw=>by simp only[Go.binOp,Op.stringOp,BO hx hy];rfl⟩
 ·cases h
theorem _root_.Sx.HoldsL.get{M:Mem}:∀{vs:List Value} {l:List ((t:T)×t.D)} {i:Nat} {t:T} {x:t.D},HoldsL M vs l→l[i]? =some ⟨t,x⟩→∃v,vs[i]? =some v∧Holds t M v x
 |_,_,0,t,x,.cons h _,e=>by simp at e;obtain⟨rfl,e⟩:=e;cases e;exact⟨_,rfl,h⟩
 |_,_,i+1,t,x,.cons _ r,e=>by simpa using HoldsL.get r (by simpa using e)
 |_,_,_,_,_,.nil,e=>by simp at e
theorem uE{w:World}{s f off:Nat}{b o:Nat}(h:pS P s f off=true):
  (Instr.fieldAt s (.pointer (some ⟨b,o,none⟩)) f).run P w= .ok (.pointer (some ⟨b,o+off,none⟩)) w:=by
 unfold pS at h
 split at h
 ·rename_i fs hu
  split at h
  ·rename_i fd hf
   simp only[Bool.and_eq_true]at h
   obtain⟨h1,h2⟩:=h
   have h1:=Nat.eq_of_beq_eq_true h1
   split at h2
   ·rename_i i hi
    have h3:¬i.size=0:=by intro e;simp[e]at h2
    unfold Instr.fieldAt
    rw[ao,run_underlying hu]
    simp only[hf]
    have hsz:(Go.sizeOf fd.type).run P w= .ok i.size w:=by
     simp only[Go.sizeOf,typeInfo,ao,program,Sem.run,hi];rfl
    simp only[ao,Instr.sureAddr,aG,fieldPlace,hsz,h3,if_false,Addr.add,h1]
    by_cases h0:off=0
    ·simp[h0]
    ·simp[h0]
   ·cases h2
  ·cases h
 ·cases h
theorem rT(hT:Tb.chk P=true)(c:Cfg F M n E L a w){o:Oper}{t:TV}(h:pv Tb E o.op=some t):
  ∃v,t.holds M v∧∀w,(execOp a.eval o).run P w= .ok (.value v) w:=by
 obtain⟨dst,op,ty,pos,after,guard⟩:=o
 cases op<;>simp only[pv,reduceCtorEq]at h
 case move x=>exact⟨_,aJ c h,λ_=>rfl⟩
 case assign x=>exact⟨_,aJ c h,λ_=>rfl⟩
 case pick x y z=>
  split at h<;>try cases h
  rename_i b hb
  have h1:=holds_bool.1 (aJ c hb)
  split at h
  ·exact⟨_,aJ c h,λw=>by simp only[execOp,h1,ao,asBool,aG,if_true]⟩
  ·exact⟨_,aJ c h,λw=>by simp only[execOp,h1,ao,asBool,aG,Bool.false_eq_true,if_false]⟩
 case binOp op xt x y yt=>
  split at h
  ·rename_i k p hp
   split at h<;>try cases h
   rename_i k' q hq
   obtain⟨e1,r1⟩:=holds_int.1 (aJ c hp)
   obtain⟨e2,r2⟩:=holds_int.1 (aJ c hq)
   obtain⟨v,ht,hv⟩:=BP (P:=P) (M:=M) (ty:=xt) r1 r2 h
   refine⟨v,ht,λw=>bz ?_⟩
   rw[e1,e2,ao]
   have:(eqGuard op xt x y (.int k p) (.int k' q)).run P w= .ok () w:=by
    unfold eqGuard;split<;>rfl
   rw[this];exact hv w
  ·rename_i p hp
   split at h<;>try cases h
   rename_i q hq
   obtain⟨e1,r1⟩:=holds_str.1 (aJ c hp)
   obtain⟨e2,r2⟩:=holds_str.1 (aJ c hq)
   obtain⟨v,ht,hv⟩:=BQ (P:=P) (M:=M) (ty:=xt) r1.1 r2.1 h
   refine⟨v,ht,λw=>bz ?_⟩
   rw[e1,e2,ao]
   have:(eqGuard op xt x y (.string (bs p)) (.string (bs q))).run P w= .ok () w:=by
    unfold eqGuard;split<;>rfl
   rw[this];exact hv w
  ·cases h
 case unOp op xt x=>
  split at h
  ·rename_i b hb
   cases h
   have h1:=holds_bool.1 (aJ c hb)
   exact⟨_,holds_bool.2 rfl,λw=>bz (by rw[h1];rfl)⟩
  ·rename_i k p hp
   cases h
   have h1:=(holds_int.1 (aJ c hp)).1
   exact⟨_,holds_int.2 ⟨rfl,jm _ _⟩,λw=>bz (by rw[h1];rfl)⟩
  ·rename_i k p hp
   cases h
   have h1:=(holds_int.1 (aJ c hp)).1
   exact⟨_,holds_int.2 ⟨rfl,jm _ _⟩,λw=>bz (by rw[h1];rfl)⟩
  ·cases h
 case convert s d x=>
  split at h
  ·rename_i k p hp
   split at h<;>try cases h
   rename_i k1 k2 e1 e2
   have h1:=(holds_int.1 (aJ c hp)).1
   refine⟨_,holds_int.2 ⟨rfl,jm _ _⟩,λw=>bz ?_⟩
   rw[h1]
   simp only[Go.convert,ao,run_underlying (Tab.int hT e1),run_underlying (Tab.int hT e2)]
   rfl
  ·rename_i p hp
   split at h<;>try cases h
   rename_i k1 k2 e1 e2
   have h1:=aJ c hp
   obtain⟨h2,h3⟩:=holds_str.1 h1
   refine⟨_,h1,λw=>bz ?_⟩
   simp only[Go.convert,ao,run_underlying (Tab.str hT e1),run_underlying (Tab.str hT e2)]
   rw[h2];rfl
  ·cases h
 case nilCheck x=>
  split at h<;>try cases h
  rename_i z p hp
  have h1:=holds_raw.1 (aJ c hp)
  refine⟨_,holds_raw.2 ⟨rfl,rfl⟩,λw=>?_⟩
  simp only[execOp,h1.1];rfl
 case fieldAddr s x f=>
  split at h<;>try cases h
  rename_i z b o' hp
  split at h<;>try cases h
  rename_i l hl
  split at h<;>cases h
  rename_i off ho
  have h1:=(holds_raw.1 (aJ c hp)).1
  exact⟨_,holds_raw.2 ⟨rfl,rfl⟩,λw=>bz (by rw[h1];exact uE (Tab.off hT hl ho))⟩
 case extract x i=>
  split at h<;>try cases h
  rename_i l hl
  split at h<;>cases h
  rename_i t x' hx
  obtain⟨vs,e,hh⟩:=aJ c hl
  obtain⟨v,hv,hv'⟩:=hh.get hx
  exact⟨v,hv',λw=>bz (by rw[e];simp[Instr.extract,hv])⟩
 case call cl=>
  obtain⟨callee,args,types⟩:=cl
  cases callee<;>simp only[BM,reduceCtorEq]at h
  rename_i b
  cases b<;>simp only[reduceCtorEq]at h
  unfold Ed at h
  split at h<;>try cases h
  rename_i x t hx ht
  have hx':args= #[x]:=by rw[←Array.toList_inj];simpa using hx
  have ht':types= #[t]:=by rw[←Array.toList_inj];simpa using ht
  subst hx' ht'
  have red:∀(v:Value) (w:World),(Builtin.len_ #[t] ty #[a.eval x]).run P w= .ok v w→(execOp a.eval ⟨dst,.call ⟨.builtin .len,#[x],#[t]⟩,ty,pos,after,guard⟩).run P w= .ok (.value v) w:=by
   intro v w hv
   simp only[execOp,resolve,ao,aG,invoke,Go.builtin]
   have: #[x].map a.eval= #[a.eval x]:=by simp
   rw[this,hv]
  split at h
  ·rename_i p hp
   split at h<;>cases h
   rename_i u hu
   obtain⟨h1,h2⟩:=holds_str.1 (aJ c hp)
   refine⟨.int .i64 p.length,holds_int.2 ⟨rfl,?_⟩,λw=>red _ w ?_⟩
   rotate_left
   ·simp only[Builtin.len_,List.getElem?_toArray,List.getElem?_cons_zero,ao,run_underlying (Tab.str hT hu),h1]
    simp only[aG,goInt,jY]
   ·simp only[rng,lo,hi,most]at*;omega
  ·rename_i e tt p hp
   split at h<;>cases h
   rename_i u hu
   obtain⟨cs,e1,ad,cap,e2,h2,_⟩:=aJ c hp
   refine⟨.int .i64 p.length,holds_int.2 ⟨rfl,?_⟩,λw=>red _ w ?_⟩
   rotate_left
   ·simp only[Builtin.len_,List.getElem?_toArray,List.getElem?_cons_zero,ao,run_underlying (Tab.slice hT hu),e1,e2,mk]
    rfl
   ·simp only[rng,lo,hi,most]at*;omega
  ·rename_i z ad ln cap hp
   split at h<;>try cases h
   rename_i u hu
   split at h<;>cases h
   rename_i hm
   have h1:=(holds_raw.1 (aJ c hp)).1
   have hm:=of_decide_eq_true hm
   refine⟨.int .i64 ln,holds_int.2 ⟨rfl,?_⟩,λw=>red _ w ?_⟩
   rotate_left
   ·simp only[Builtin.len_,List.getElem?_toArray,List.getElem?_cons_zero,ao,run_underlying (Tab.slice hT hu),h1]
    rfl
   ·simp only[rng,lo,hi,most]at*;omega
  ·cases h
end
@[reducible] def xq(n:Nat)(E:Env)(d:Nat):Env:=match Nat.ble (d+1) n with
  |true=>(d,.tup [])::E
  |false=>E.del d
@[reducible] def dZ(T:Tab)(n:Nat)(ops:Array Oper):List Oper→Env→Option Env
  |[],E=>some E
  |o::r,E=>
   match o.guard with
   |none=>(match o.dst with
    |some d=>(match Nat.ble (d+1) n with
     |true=>(match pv T E o.op with|some t=>dZ T n ops r ((d,t)::E)|none=>none)
     |false=>none)
    |none=>none)
   |some (j,want)=>(match(ops[j]?).bind (·.dst)with
    |some dj=>(match E.get dj with
     |some (.one .bool b)=>(match b,want with
      |true,true|false,false=>(match o.dst with
       |some d=>(match Nat.ble (d+1) n with
        |true=>(match pv T E o.op with|some t=>dZ T n ops r ((d,t)::E)|none=>none)
        |false=>none)
       |none=>none)
      |_,_=>(match o.dst with
       |some d=>dZ T n ops r (xq n E d)
       |none=>dZ T n ops r E))
     |some (.tup [])=>(match o.dst with
       |some d=>dZ T n ops r (xq n E d)
       |none=>dZ T n ops r E)
     |_=>none)
    |none=>none)
@[reducible] def ly(E:Env):List Nat→Option Env
  |[]=>some []
  |i::r=>match E.get i with
   |some t=>(match ly E r with|some E'=>some ((i,t)::E')|none=>none)
   |none=>none
@[reducible] def seg(T:Tab)(n:Nat)(ops:Array Oper)(l:List Oper)(E:Env)(keys:List Nat):Option Env:=
  match dZ T n ops l E with
  |some E1=>ly E1 keys
  |none=>none
theorem m4:∀{keys:List Nat} {E E':Env},ly E keys=some E'→∀i t,E'.get i=some t→E.get i=some t
 |[],_,_,h,i,t,g=>by simp only[ly,Option.some.injEq]at h;subst h;simp[Env.get]at g
 |k::r,E,E',h,i,t,g=>by
  simp only[ly]at h
  split at h
  ·rename_i u hu
   split at h
   ·rename_i E1 h1
    cases h
    simp only[Env.get]at g
    split at g
    ·rename_i hb
     obtain rfl:=Nat.eq_of_beq_eq_true hb
     rw[hu];exact g
    ·exact m4 h1 i t g
   ·cases h
  ·cases h
section
variable {P:Program}{Tb:Tab}{F:Fr}{M:Mem}{n:Nat}{E E':Env}{L:List Res}{ops:Array Oper}{Q:Exit→Act→World→Prop}{rest:List Oper}{o:Oper}
theorem ky{a:Act}{w:World}(c:Cfg F M n E L a w){j:Nat}{want b:Bool}(hg:o.guard=some (j,want)){dj:Nat}(hd:(ops[j]?).bind (·.dst)=some dj)(hE:E.get dj=some (.one .bool b)):
  Region.wanted o (yielded ops a.tmps)=(b==want):=by
 obtain⟨v,e,hv⟩:=c.get hE
 have hv:=holds_bool.1 hv
 subst hv
 unfold Region.wanted yielded
 simp only[hg,hd,Option.bind_some,e]
 cases b<;>cases want<;>rfl
theorem nu{a:Act}{w:World}(c:Cfg F M n E L a w){j:Nat}{want:Bool}(hg:o.guard=some (j,want)){dj:Nat}(hd:(ops[j]?).bind (·.dst)=some dj)(hE:E.get dj=some (.tup [])):
  Region.wanted o (yielded ops a.tmps)=false:=by
 obtain⟨v,e,vs,rfl,_⟩:=c.get hE
 unfold Region.wanted yielded
 simp only[hg,hd,Option.bind_some,e]
 cases want<;>rfl
theorem Cfg.skip{a:Act}{w:World}(c:Cfg F M n E L a w)(d:Nat):Cfg F M n (xq n E d) L (a.put (some d) undef) w:=by
 unfold xq
 split
 ·rename_i h
  exact c.put (Mem.le.refl _) c.st (Nat.le_of_ble_eq_true h) ⟨[],rfl,.nil⟩
 ·exact c.void (some d) undef
theorem dG{a:Act}{w w':World}{d:Nat}{v:Value}(hd:o.dst=some d)(hw:Region.wanted o (yielded ops a.tmps)=true)(hr:(execOp a.eval o).run P w= .ok (.value v) w')
  (g:wpList P ops Q rest (a.put (some d) v) w'):wpList P ops Q (o::rest) a w:=by
 unfold wpList
 rw[if_pos hw]
 left
 unfold Oper.wp
 rw[hr,Oper.upon_value,hd]
 exact g
theorem rU{a:Act}{w:World}(hw:Region.wanted o (yielded ops a.tmps)=false)(g:wpList P ops Q rest (a.put o.dst undef) w):wpList P ops Q (o::rest) a w:=by
 unfold wpList
 rw[if_neg (by simp[hw])]
 exact g
theorem lC(hT:Tb.chk P=true):∀{l:List Oper} {E E1:Env},dZ Tb n ops l E=some E1→∀{a:Act} {w:World},Cfg F M n E L a w→
  (∀a',Cfg F M n E1 L a' w→wpList P ops Q rest a' w)→wpList P ops Q (l++rest) a w
 |[],E,E1,h,a,w,c,g=>by simp only[dZ,Option.some.injEq]at h;subst h;exact g a c
 |o::l,E,E1,h,a,w,c,g=>by
  simp only[dZ]at h
  split at h
  ·rename_i hg
   split at h
   ·rename_i d hd
    split at h
    ·rename_i hn
     split at h
     ·rename_i t ht
      obtain⟨v,hv,hr⟩:=rT hT c ht
      exact dG hd (by simp[Region.wanted,hg]) (hr w) (lC hT h (c.put (Mem.le.refl _) c.st (Nat.le_of_ble_eq_true hn) hv) g)
     ·cases h
    ·cases h
   ·cases h
  ·rename_i j want hg
   split at h
   ·rename_i dj hdj
    split at h
    ·rename_i b hb
     have hw:=ky (o:=o) (ops:=ops) c hg hdj hb
     split at h
     ·split at h
      ·rename_i d hd
       split at h
       ·rename_i hn
        split at h
        ·rename_i t ht
         obtain⟨v,hv,hr⟩:=rT hT c ht
         exact dG hd (by rw[hw];rfl) (hr w) (lC hT h (c.put (Mem.le.refl _) c.st (Nat.le_of_ble_eq_true hn) hv) g)
        ·cases h
       ·cases h
      ·cases h
     ·split at h
      ·rename_i d hd
       split at h
       ·rename_i hn
        split at h
        ·rename_i t ht
         obtain⟨v,hv,hr⟩:=rT hT c ht
         exact dG hd (by rw[hw];rfl) (hr w) (lC hT h (c.put (Mem.le.refl _) c.st (Nat.le_of_ble_eq_true hn) hv) g)
        ·cases h
       ·cases h
      ·cases h
     ·have hne:Region.wanted o (yielded ops a.tmps)=false:=by
       rw[hw]
       rename_i h1 h2
       cases b<;>cases want<;>first|rfl|exact absurd rfl (h1 rfl)|exact absurd rfl (h2 rfl)|simp_all
      split at h
      ·rename_i d hd
       refine rU hne ?_
       rw[hd]
       exact lC hT h (c.skip d) g
      ·rename_i hd
       have:=c.void none undef
       refine rU hne ?_
       rw[hd]
       exact lC hT h this g
    ·rename_i hb
     have hne:=nu (o:=o) (ops:=ops) c hg hdj hb
     split at h
     ·rename_i d hd
      refine rU hne ?_
      rw[hd]
      exact lC hT h (c.skip d) g
     ·rename_i hd
      have:=c.void none undef
      refine rU hne ?_
      rw[hd]
      exact lC hT h this g
    ·cases h
   ·cases h
theorem fX(hT:Tb.chk P=true){l:List Oper}(k:Nat)(keys:List Nat)(h:seg Tb n ops (l.take k) E keys=some E')(g:Go F n E' L (wpList P ops Q (l.drop k))):
  Go F n E L (wpList P ops Q l):=by
 intro M a w c
 unfold seg at h
 split at h
 ·rename_i E1 h1
  rw[←List.take_append_drop k l]
  exact lC hT h1 c λa' c'=>g M a' w (c'.less (m4 h))
 ·cases h
theorem ah(keys:List Nat){X:Act→World→Prop}(h:ly E keys=some E')(g:Go F n E' L X):Go F n E L X:=
 λM a w c=>g M a w (c.less (m4 h))
variable {c1 c2:Code}{K:Act→World→Prop}
theorem gm(g:Go F n E L (c1.wp P (Exit.then (c2.wp P Q) Q))):Go F n E L ((Code.seq c1 c2).wp P Q):=λM a w c=>wp_seq (g M a w c)
theorem rn(g:Go F n E L (Q .normal)):Go F n E L (Code.skip.wp P Q):=λM a w c=>wp_skip (g M a w c)
theorem ec{id:Nat}{l:List Oper}(g:Go F n E L (wpList P l.toArray Q l)):Go F n E L ((Code.region id l.toArray false).wp P Q):=λM a w c=>wp_region_lit (g M a w c)
theorem hZ(g:Go F n E L (Q .normal)):Go F n E L (wpList P ops Q []):=λM a w c=>wpList_nil (g M a w c)
theorem eY(g:Go F n E L K):Go F n E L (Exit.then K Q .normal):=g
theorem wI{id:Nat}(g:Go F n E L (Q .normal)):Go F n E L (Exit.inBlock id Q .normal):=g
theorem tZ{id:Nat}(g:Go F n E L (c1.wp P (Exit.inBlock id Q))):Go F n E L ((Code.block id c1).wp P Q):=λM a w c=>wp_block (g M a w c)
theorem xJ{id:Nat}(g:Go F n E L (Q (.exit id))):Go F n E L ((Code.exit id).wp P Q):=λM a w c=>wp_exit (g M a w c)
theorem rV(g:Go F n E L (Q .ret)):Go F n E L (Code.ret.wp P Q):=λM a w c=>wp_ret (g M a w c)
theorem vv{id:Nat}(g:Go F n E L (Q (.exit id))):Go F n E L (Exit.then K Q (.exit id)):=g
theorem C9{id:Nat}(g:Go F n E L (Q .normal)):Go F n E L (Exit.inBlock id Q (.exit id)):=λM a w c=>by
 show if id=id then _ else _
 rw[if_pos rfl];exact g M a w c
theorem xK{id id':Nat}(h:Nat.beq id id'=false)(g:Go F n E L (Q (.exit id))):Go F n E L (Exit.inBlock id' Q (.exit id)):=λM a w c=>by
 show if id=id' then _ else _
 rw[if_neg (by rintro rfl;simp at h)];exact g M a w c
theorem xL(g:Go F n E L (Q .ret)):Go F n E L (Exit.then K Q .ret):=g
theorem Ac{id:Nat}(g:Go F n E L (Q .ret)):Go F n E L (Exit.inBlock id Q .ret):=g
theorem ii{i:Nat}{b:Bool}(he:E.get i=some (.one .bool b))(hT:b=true→Go F n E L (c1.wp P Q))(hF:b=false→Go F n E L (c2.wp P Q)):
  Go F n E L ((Code.cond (.tmp i) c1 c2).wp P Q):=λM a w c=>by
 obtain⟨v,e,hv⟩:=c.get? he
 have hv:=holds_bool.1 hv
 subst hv
 exact wp_cond_split e (λh=>hT h M a w c) (λh=>hF h M a w c)
open Classical in
theorem nv{c:Code}(I:Nat→Act→World→Prop)(round:∀m a w,I m a w→c.wp P (Exit.then (λa' w'=>∃m',m'<m∧I m' a' w') Q) a w){m:Nat}{a:Act}{w:World}(h:I m a w):
  (Code.loop c).wp P Q a w:=by
 have least:∀{a w},(∃m,I m a w)→∃m,I m a w∧∀m',I m' a w→m≤m':=by
  intro a w ⟨m,hm⟩
  induction m using Nat.strongRecOn with
  |_ m ih=>
   by_cases hh:∃m',m'<m∧I m' a w
   ·obtain⟨m',hlt,hm'⟩:=hh;exact ih m' hlt hm'
   ·exact⟨m,hm,λm' hm'=>Nat.le_of_not_lt λhlt=>hh ⟨m',hlt,hm'⟩⟩
 refine wp_loop (λa w=>∃m,I m a w) (λa w=>if h:∃m,I m a w then choose (least h)else 0) ⟨m,h⟩ ?_
 intro a w hI
 have hs:=choose_spec (least hI)
 refine wp_mono (round _ a w hs.1) ?_
 intro e a' w' q
 cases e<;>first|exact q|skip
 obtain⟨m',hlt,hm'⟩:=q
 have hI':∃m,I m a' w':=⟨m',hm'⟩
 refine⟨hI',?_⟩
 rw[dif_pos hI',dif_pos hI]
 have:=(choose_spec (least hI')).2 m' hm'
 omega
def Ho(F:Fr)(n:Nat)(E:Env)(L:List Res)(a:Act)(w:World):Prop:=∃M,Cfg F M n E L a w
end
inductive HoldAll(M:Mem):List TV→List Value→Prop
 |nil:HoldAll M [] []
 |cons {t:TV} {v:Value} {l:List TV} {vs:List Value} (h:t.holds M v) (r:HoldAll M l vs):HoldAll M (t::l) (v::vs)
def mg(F:Fr)(res:Value→TV)(L:Value→List Res):Ending→World→Prop:=λe w'=>∃v M',e= .returned v∧St F M' w' (L v)∧(res v).holds M' v
def Fn(P:Program)(k:FuncId)(args:List TV)(L:List Res)(res:Value→TV)(L':Value→List Res):Prop:=
 ∀F w vs,St F F.base w L→F.size=w.heap.size→HoldAll F.base args vs→Calls P k vs.toArray w (mg F res L')
abbrev bm(P:Program)(k:FuncId)(args:List TV)(res:TV):Prop:=Fn P k args [] (λ_=>res) (λ_=>[])
@[reducible] def oW:Nat→List TV→Env
  |_,[]=>[]
  |i,t::r=>(i,t)::oW (i+1) r
theorem px{M:Mem}:∀{args:List TV} {vs:List Value} {k i:Nat} {t:TV},HoldAll M args vs→(oW k args).get i=some t→
  ∃j v,i=k+j∧vs[j]? =some v∧t.holds M v
 |[],_,_,_,_,_,h=>by simp[Env.get]at h
 |u::r,_::_,k,i,t,.cons h1 h2,h=>by
  simp only[Env.get]at h
  split at h
  ·rename_i hb
   cases h
   exact⟨0,_,(Nat.eq_of_beq_eq_true hb).symm,rfl,h1⟩
  ·obtain⟨j,v,e,hv,ht⟩:=px h2 h
   exact⟨j+1,v,by omega,by simpa using hv,ht⟩
theorem HoldAll.length{M:Mem}:∀{l:List TV} {l':List Value},HoldAll M l l'→l.length=l'.length
 |_,_,.nil=>rfl
 |_,_,.cons _ r=>by simp[r.length]
theorem enter{P:Program}{k:FuncId}{fn:Func}{body:Code}{args:List TV}{L:List Res}{res:Value→TV}{L':Value→List Res}(hf:P.funcs[k]? =some fn)(hb:fn.body=some body)(n:Nat)(hn:fn.ntmps=n)
  (ha:Nat.ble args.length n=true) (g:∀F,Go (Fr.nd F) n (oW 0 args) L (body.wp P (bodyPost P fn (mg F res L')))):Fn P k args L res L':=by
 intro F w vs hst hsz hargs
 refine calls_of_wp hf hb ?_
 refine g F F.base _ _ ⟨hst.nd,rfl,?_,?_⟩
 ·have:=hargs.length
  have:=Nat.le_of_ble_eq_true ha
  simp[hn];omega
 ·intro i t h
  obtain⟨j,v,e,hv,ht⟩:=px hargs h
  refine⟨v,?_,ht⟩
  have hj:j<vs.length:=by
   rcases Nat.lt_or_ge j vs.length with h|h
   ·exact h
   ·simp[List.getElem?_eq_none h]at hv
  simp only[Nat.zero_add]at e;subst e
  have hv':vs[i]=v:=by simpa [hj]using hv
  simp[Array.getElem?_append,hj,hv']
section
variable {P:Program}{Tb:Tab}{F:Fr}{n:Nat}{E E':Env}{L:List Res}{ops:Array Oper}{Q:Exit→Act→World→Prop}{rest:List Oper}
def dQ(P:Program)(k:Nat):Bool:=match P.funcs[k]? with
 |some fn=>fn.name != "runtime.NumGoroutine" &&fn.body.isSome
 |none=>false
theorem gn{k:FuncId}{args:Array Value}{w:World}(h:dQ P k=true):(callFunc k args).run P w= .ok (.enter k args) w:=by
 unfold dQ at h
 unfold callFunc
 rw[ao]
 simp only[program,Sem.run]
 split at h
 ·rename_i fn hf
  simp only[Bool.and_eq_true,bne_iff_ne,ne_eq]at h
  have h2:fn.body.isNone=false:=by cases hb:fn.body<;>simp_all
  simp only[hf]
  simp[h.1,h2]
 ·cases h
@[reducible] def evs(E:Env):List Operand→Option (List TV)
  |[]=>some []
  |x::r=>match ev E x with
   |some t=>(match evs E r with|some l=>some (t::l)|none=>none)
   |none=>none
theorem oX{M:Mem}{a:Act}{w:World}(c:Cfg F M n E L a w):∀{xs:List Operand} {l:List TV},evs E xs=some l→HoldAll M l (xs.map a.eval)
 |[],_,h=>by simp only[evs,Option.some.injEq]at h;subst h;exact .nil
 |x::r,l,h=>by
  simp only[evs]at h
  split at h
  ·rename_i t ht
   split at h
   ·rename_i l' hl
    cases h
    exact .cons (aJ c ht) (oX c hl)
   ·cases h
  ·cases h
theorem gp{k:FuncId}{args:List TV}{Lc Lo:List Res}{res:Value→TV}{L':Value→List Res}(hc:Fn P k args Lc res L')(hk:dQ P k=true)(hp:L.Perm (Lc++Lo)){xs:List Operand}{tys:Array TypeId}{d:Nat}{ty:TypeId}{pos:String}{after:Array Edge}
  (hx:evs E xs=some args) (hd:Nat.ble (d+1) n=true) (g:∀v,Go F n ((d,res v)::E) (L' v++Lo) (wpList P ops Q rest)):
  Go F n E L (wpList P ops Q (⟨some d,.call ⟨.value (.func k),xs.toArray,tys⟩,ty,pos,after,none⟩::rest)):=λM a w c=>by
 unfold wpList
 rw[if_pos (by simp[Region.wanted])]
 left
 unfold Oper.wp
 have hrun:(execOp a.eval ⟨some d,.call ⟨.value (.func k),xs.toArray,tys⟩,ty,pos,after,none⟩).run P w= .ok (.enter k (xs.map a.eval).toArray) w:=by
  simp only[execOp,resolve,ao,aG,Act.eval,Deferred.ofValue,invoke]
  rw[gn hk]
  simp
 rw[hrun,Oper.upon_enter]
 have st:=c.st.perm hp
 obtain⟨F',hb,hs,st',hback⟩:=st.part
 have:=hc F' w (xs.map a.eval) (by rw[hb];exact st') hs (by rw[hb];exact oX c hx)
 refine this.mono ?_
 rintro e w' ⟨v,M',rfl,st2,hv⟩
 obtain⟨hle,st3⟩:=hback _ _ _ st2
 exact g v M' _ _ (c.put hle st3 (Nat.le_of_ble_eq_true hd) hv)
theorem ar{k:FuncId}{args:List TV}{res:TV}(hc:bm P k args res)(hk:dQ P k=true){xs:List Operand}{tys:Array TypeId}{d:Nat}{ty:TypeId}{pos:String}{after:Array Edge}
  (hx:evs E xs=some args) (hd:Nat.ble (d+1) n=true) (g:Go F n ((d,res)::E) L (wpList P ops Q rest)):
  Go F n E L (wpList P ops Q (⟨some d,.call ⟨.value (.func k),xs.toArray,tys⟩,ty,pos,after,none⟩::rest)):=
 gp hc hk (by simp) hx hd λ_=>g
end
def lD(P:Program)(tid size:Nat)(f:TypeDesc→Bool):Bool:=
 match P.info? tid with
 |some i=>Nat.beq i.size size&&(match P.underlying tid with|some d=>f d|none=>false)
 |none=>false
mutual
def aW(P:Program):T→TypeId→Bool
 | .int k,t=>lD P t 1 λd=>match d with| .int k'=>rl k k'|_=>false
 | .bool,t=>lD P t 1 λd=>match d with| .bool=>true|_=>false
 | .str,t=>lD P t 1 λd=>match d with| .string=>true|_=>false
 | .raw _,t=>lD P t 1 λd=>match d with| .struct _| .array _ _=>false|_=>true
 | .sl e u,t=>lD P t 1 (λd=>match d with| .slice e'=>Nat.beq e e'|_=>false)&&aW P u e
 | .ifc e u r,t=>lD P t 1 (λd=>match d with| .interface _=>true|_=>false)&&aW P u e&&aW P r t
 | .unit,t=>lD P t 0 λd=>match d with| .struct fs=>fs.isEmpty|_=>false
 | .arr n u,t=>lD P t (n*u.size) λd=>match d with| .array m e=>Nat.beq n m&&aW P u e|_=>false
 | .pair a b,t=>lD P t (a.size+b.size) λd=>match d with
   | .struct fs=>(match fs.toList with|f::r=>Nat.beq f.offset 0&&aW P a f.type&&dp P b r a.size|[]=>false)
   |_=>false
def dp(P:Program):T→List Field→Nat→Bool
 | .pair a b,f::r,off=>Nat.beq f.offset off&&aW P a f.type&&dp P b r (off+a.size)
 | .unit,[],_=>true
 |_,_,_=>false
end
section
variable {P:Program}{w:World}
theorem bK{tid size:Nat}{f:TypeDesc→Bool}(h:lD P tid size f=true):∃i d,P.info? tid=some i∧i.size=size∧P.underlying tid=some d∧f d=true:=by
 unfold lD at h
 split at h
 ·rename_i i hi
  simp only[Bool.and_eq_true]at h
  obtain⟨h1,h2⟩:=h
  split at h2
  ·rename_i d hd;exact⟨i,d,hi,Nat.eq_of_beq_eq_true h1,hd,h2⟩
  ·cases h2
 ·cases h
def AZ:TypeDesc→Bool
 | .struct _| .array _ _=>true
 |_=>false
theorem lR:∀{t:T} {tid:Nat},aW P t tid=true→∃i d,P.info? tid=some i∧i.size=t.size∧P.underlying tid=some d∧AZ d=t.isAgg:=by
 intro t tid h
 cases t<;>simp only[aW,Bool.and_eq_true]at h
 case int k=>obtain⟨i,d,a,b,c,e⟩:=bK h;exact⟨i,d,a,b,c,by cases d<;>first|rfl|cases e⟩
 case bool=>obtain⟨i,d,a,b,c,e⟩:=bK h;exact⟨i,d,a,b,c,by cases d<;>first|rfl|cases e⟩
 case str=>obtain⟨i,d,a,b,c,e⟩:=bK h;exact⟨i,d,a,b,c,by cases d<;>first|rfl|cases e⟩
 case raw z=>obtain⟨i,d,a,b,c,e⟩:=bK h;exact⟨i,d,a,b,c,by cases d<;>first|rfl|cases e⟩
 case sl e u=>obtain⟨i,d,a,b,c,e⟩:=bK h.1;exact⟨i,d,a,b,c,by cases d<;>first|rfl|cases e⟩
 case ifc e u r=>obtain⟨i,d,a,b,c,e⟩:=bK h.1.1;exact⟨i,d,a,b,c,by cases d<;>first|rfl|cases e⟩
 case unit=>obtain⟨i,d,a,b,c,e⟩:=bK h;exact⟨i,d,a,b,c,by cases d<;>first|rfl|cases e⟩
 case arr n u=>obtain⟨i,d,a,b,c,e⟩:=bK h;exact⟨i,d,a,b,c,by cases d<;>first|rfl|cases e⟩
 case pair p q=>obtain⟨i,d,a,b,c,e⟩:=bK h;exact⟨i,d,a,b,c,by cases d<;>first|rfl|cases e⟩
theorem dL{t:T}{tid:Nat}(h:aW P t tid=true):(Go.sizeOf tid).run P w= .ok t.size w:=by
 obtain⟨i,d,hi,hs,_⟩:=lR h
 simp only[Go.sizeOf,typeInfo,ao,program,Sem.run,hi]
 simp only[←hs];rfl
theorem tu{t:T}{tid:Nat}(h:aW P t tid=true):(Go.isAgg tid).run P w= .ok t.isAgg w:=by
 obtain⟨i,d,hi,hs,hd,ha⟩:=lR h
 simp only[Go.isAgg,ao,run_underlying hd,←ha]
 cases d<;>rfl
theorem kU(b off i:Nat):(⟨b,off,none⟩:Addr).add i=⟨b,off+i,none⟩:=by
 unfold Addr.add;split
 ·subst_vars;rfl
 ·rfl
theorem t6{b off:Nat}{c:Array Value}{el:TypeId}{fr:Nat×Nat}(hb:w.heap[b]? =some (.cells c el fr)):w.cell? ⟨b,off,none⟩=c[off]? :=by
 simp[World.cell?,hb]
theorem gH{b off:Nat}{c:Array Value}{el:TypeId}{fr:Nat×Nat}(hb:w.heap[b]? =some (.cells c el fr)):∀(n i:Nat) (acc:Array Value),off+i+n≤c.size→
  (loadCellsFrom ⟨b,off,none⟩ i n acc).run P w= .ok (acc++((c.toList.drop (off+i)).take n).toArray) w
 |0,i,acc,_=>by simp[loadCellsFrom]
 |n+1,i,acc,h=>by
  have hlt:off+i<c.size:=by omega
  simp only[loadCellsFrom,ao,load,kU,Sem.run,t6 hb,Array.getElem?_eq_getElem hlt]
  rw[gH hb n (i+1) _ (by omega)]
  congr 1
  have hl:off+i<c.toList.length:=by simpa using hlt
  rw[List.drop_eq_getElem_cons hl,←Nat.add_assoc off i 1]
  simp
theorem zv{t:T}{tid:Nat}(h:aW P t tid=true){b off:Nat}{c:Array Value}{el:TypeId}{fr:Nat×Nat}(hb:w.heap[b]? =some (.cells c el fr))(hs:off+t.size≤c.size){M:Mem}{x:t.D}
  (hr:Rep t M ((c.toList.drop off).take t.size) x):∃v,(loadVar tid ⟨b,off,none⟩).run P w= .ok v w∧Holds t M v x:=by
 refine⟨mk t ((c.toList.drop off).take t.size),?_,_,rfl,hr⟩
 unfold loadVar
 rw[ao,tu h]
 cases ha:t.isAgg with
 |true=>
  simp only[if_true,ao,dL h,loadCells,gH hb t.size 0 #[] (by omega),mk,ha,Nat.add_zero]
  simp
 |false=>
  obtain⟨v,e,_⟩:=nb ha hr
  simp only[Bool.false_eq_true,if_false,load,Sem.run,t6 hb]
  have h1:t.size=1:=by cases t<;>first|rfl|cases ha
  have hlt:off<c.size:=by omega
  simp only[mk,ha,Bool.false_eq_true,if_false]
  rw[List.drop_eq_getElem_cons (by simpa using hlt),h1]
  simp[Array.getElem?_eq_getElem hlt]
theorem ro:∀{t:T} {M:Mem} {cs:List Value} {x:t.D},Rep t M cs x→∀v∈cs,one v=true
 | .int _,_,_,_,h=>by rw[h.1];simp[one]
 | .bool,_,_,_,h=>by simp only[Rep]at h;rw[h];simp[one]
 | .str,_,_,_,h=>by rw[h.1];simp[one]
 | .unit,_,_,_,h=>by simp only[Rep]at h;rw[h];simp
 | .raw _,_,_,_,h=>by rw[h.1];simpa using h.2
 | .sl _ _,_,_,_,⟨a,cap,e,_⟩=>by rw[e];simp[one]
 | .ifc _ _ _,_,_,_,⟨v,e,h,_⟩=>by rw[e];simpa using z8 h
 | .pair a b,_,_,_,⟨c1,c2,e,h1,h2⟩=>by
   rw[e];intro v hv
   rcases List.mem_append.1 hv with g|g
   ·exact ro h1 v g
   ·exact ro h2 v g
 | .arr n t,M,cs,x,h=>by
   have:∀{cs:List Value} {xs:List t.D},RepL (Rep t M) cs xs→∀v∈cs,one v=true:=by
    intro cs xs
    induction xs generalizing cs with
    |nil=>intro h;simp only[RepL]at h;rw[h];simp
    |cons y ys ih=>
     rintro⟨c1,c2,e,h1,h2⟩
     rw[e];intro v hv
     rcases List.mem_append.1 hv with g|g
     ·exact ro h1 v g
     ·exact ih h2 v g
   exact this h.2
theorem uR{t:T}{M:Mem}:∀{cs:List Value} {xs:List t.D},RepL (Rep t M) cs xs→∀v∈cs,one v=true
 |_,[],h=>by simp only[RepL]at h;rw[h];simp
 |_,y::ys,⟨c1,c2,e,h1,h2⟩=>by
  rw[e];intro v hv
  rcases List.mem_append.1 hv with g|g
  ·exact ro h1 v g
  ·exact uR h2 v g
def fg(w:World)(b:Nat)(o:Obj):World:={w with heap:=w.heap.setIfInBounds b o}
theorem zw{b off:Nat}{c:Array Value}{el:TypeId}{fr:Nat×Nat}{v:Value}(hb:w.heap[b]? =some (.cells c el fr)):
  w.setCell ⟨b,off,none⟩ v=fg w b (.cells (c.setIfInBounds off v) el fr):=by
 have hlt:b<w.heap.size:=by
  rcases Nat.lt_or_ge b w.heap.size with g|g
  ·exact g
  ·simp[Array.getElem?_eq_none g]at hb
 have e:w.heap[b]= .cells c el fr:=by simpa [Array.getElem?_eq_getElem hlt]using hb
 unfold World.setCell fg
 congr 1
 apply Array.ext (by simp)
 intro i h1 h2
 by_cases hi:b=i
 ·subst hi;simp[Array.getElem_modify,e]
 ·have hi':i<w.heap.size:=by simpa using h1
  rw[Array.getElem_modify,Array.getElem_setIfInBounds hi']
  simp[hi]
theorem eA{b k:Nat}{o:Obj}(h:b<w.heap.size):(fg w b o).heap[k]? =if b=k then some o else w.heap[k]? :=by
 simp only[fg,Array.getElem?_setIfInBounds]
 by_cases hk:b=k
 ·simp[hk▸h,hk]
 ·simp[hk]
theorem xd{b:Nat}{o o':Obj}:fg (fg w b o) b o'=fg w b o':=by
 simp[fg]
def pT(fr:Nat×Nat)(size:Nat):Prop:=∀i,i<size→¬(fr.1≤i∧i<fr.2)
theorem ji{b off:Nat}{el:TypeId}{fr:Nat×Nat}:∀(ds:List Value) (i:Nat) (c:Array Value) (w:World),w.heap[b]? =some (.cells c el fr)→off+i+ds.length≤c.size→pT fr c.size→(∀v∈ds,one v=true)→
  (storeCells ⟨b,off,none⟩ ds i).run P w= .ok () (fg w b (.cells (c.toList.take (off+i)++ds++c.toList.drop (off+i+ds.length)).toArray el fr))
 |[],i,c,w,hb,hs,_,_=>by
  have hlt:b<w.heap.size:=by
   rcases Nat.lt_or_ge b w.heap.size with g|g
   ·exact g
   ·simp[Array.getElem?_eq_none g]at hb
  have e:w.heap[b]= .cells c el fr:=by simpa [Array.getElem?_eq_getElem hlt]using hb
  simp only[storeCells,aG]
  congr 1
  simp only[fg,List.append_nil,List.length_nil,Nat.add_zero,List.take_append_drop,Array.toArray_toList]
  have:w.heap.setIfInBounds b (.cells c el fr)=w.heap:=by
   apply Array.ext (by simp)
   intro j h1 h2
   by_cases hj:b=j
   ·subst hj;simp[e]
   ·rw[Array.getElem_setIfInBounds h2]
    simp[hj]
  simp only[this]
 |v::ds,i,c,w,hb,hs,hf,ho=>by
  simp only[List.length_cons]at hs
  have hlt:off+i<c.size:=by omega
  have hfz:w.frozen? ⟨b,off+i,none⟩=false:=by
   simp only[World.frozen?,hb]
   have:=hf (off+i) hlt
   simpa using this
  have hv:=ho v (by simp)
  have hst:(store ((⟨b,off,none⟩:Addr).add i) v).run P w= .ok () (w.setCell ⟨b,off+i,none⟩ v):=by
   rw[kU]
   cases v<;>first|(cases hv;done)|simp[store,Sem.run,t6 hb,hlt,hfz]
  simp only[storeCells,ao,hst]
  rw[zw hb]
  have hlt':b<w.heap.size:=by
   rcases Nat.lt_or_ge b w.heap.size with g|g
   ·exact g
   ·simp[Array.getElem?_eq_none g]at hb
  rw[ji (el:=el) (fr:=fr) ds (i+1) (c.setIfInBounds (off+i) v) _ (by rw[eA hlt'];simp) (by simp;omega) (by simpa using hf) (λu hu=>ho u (by simp[hu]))]
  rw[xd]
  congr 4
  simp only[Array.toList_setIfInBounds]
  have hl:off+i<c.toList.length:=by simpa using hlt
  rw[←Nat.add_assoc,List.take_add_one]
  simp only[List.getElem?_set_self hl,Option.toList_some,List.take_set_of_le (Nat.le_refl _)]
  rw[List.drop_set_of_lt (by omega)]
  simp[Nat.add_assoc,Nat.add_comm,Nat.add_left_comm]
theorem pU{t:T}{tid:Nat}(h:aW P t tid=true){b off:Nat}{c:Array Value}{el:TypeId}{fr:Nat×Nat}{w:World}(hb:w.heap[b]? =some (.cells c el fr))(hs:off+t.size≤c.size)(hf:pT fr c.size){M:Mem}{x:t.D}{v:Value}
  (hv:Holds t M v x):∃ds,Rep t M ds x∧(storeVar tid ⟨b,off,none⟩ v).run P w= .ok () (fg w b (.cells (c.toList.take off++ds++c.toList.drop (off+t.size)).toArray el fr)):=by
 have hr:=hv.cells
 refine⟨_,hr,?_⟩
 have hl:=hr.size
 unfold storeVar
 rw[ao,dL h]
 have hne:¬v.cells.size≠t.size:=by simpa using hl
 dsimp only
 rw[if_neg hne]
 have:=ji (P:=P) (el:=el) (fr:=fr) v.cells.toList 0 c w hb (by rw[hl];omega) hf (ro hr)
 simp only[Nat.add_zero,hl]at this
 simpa [aG]using this
theorem iz(n:Nat):pT (0,0) n:=λi _ h=>by simp at h
theorem cH{w:World}{k:Nat}{o:Obj}(h:w.heap[k]? =some o):k<w.heap.size:=by
 rcases Nat.lt_or_ge k w.heap.size with g|g
 ·exact g
 ·simp[Array.getElem?_eq_none g]at h
def Res.var(b:Nat)(e:TypeId)(t:T)(x:t.D):Res where
 sat M S w:=(∀k,S k↔k=b)∧∃cs:List Value,w.heap[b]? =some (.cells cs.toArray e (0,0))∧Rep t M cs x
 mono h:=λ⟨h1,cs,h2,h3⟩=>⟨h1,cs,h2,h3.mono h⟩
 loc h:=λ⟨h1,cs,h2,h3⟩=>⟨h1,cs,by rw[h b ((h1 b).2 rfl)];exact h2,h3⟩
 has:=λ⟨h1,cs,h2,_⟩ k hk=>by
  obtain rfl:=(h1 k).1 hk
  exact cH h2
variable {F:Fr}{M:Mem}{L:List Res}
theorem St.var{b:Nat}{e:TypeId}{t:T}{x:t.D}{i:Nat}(h:St F M w L)(hi:L[i]? =some (Res.var b e t x)):∃cs,w.heap[b]? =some (.cells cs.toArray e (0,0))∧Rep t M cs x:=by
 obtain⟨V,s,d⟩:=h.sep
 have:∀{L:List Res} {i:Nat} {V:Nat→Prop},Sep M w L V→L[i]? =some (Res.var b e t x)→∃cs,w.heap[b]? =some (.cells cs.toArray e (0,0))∧Rep t M cs x:=by
  intro L
  induction L with
  |nil=>intro i V _ hi;simp at hi
  |cons R L ih=>
   rintro i V ⟨S,V',r,s,_,_⟩ hi
   cases i with
   |zero=>simp only[List.getElem?_cons_zero,Option.some.injEq]at hi;subst hi;exact r.2
   |succ i=>exact ih s (by simpa using hi)
 exact this s hi
theorem Sep.turn{M M':Mem}{w w':World}(hM:M.le M'){R R':Res}(hR:∀S,R.sat M S w→R'.sat M' S w'){B:Nat→Prop}(hB:∀S,R.sat M S w→∀k,B k→S k)(hw:∀k,¬B k→k<w.heap.size→w'.heap[k]? =w.heap[k]?):
  ∀{L:List Res} {i:Nat} {V:Nat→Prop},Sep M w L V→L[i]? =some R→Sep M' w' (L.set i R') V
 |[],i,V,_,hi=>by simp at hi
 |R0::L,0,V,⟨S,V',r,s,d,e⟩,hi=>by
  simp only[List.getElem?_cons_zero,Option.some.injEq]at hi;subst hi
  refine⟨S,V',hR S r,Sep.mono hM (Sep.loc (λk hk=>?_) s),d,e⟩
  exact hw k (λhb=>d k (hB S r k hb) hk) (s.has k hk)
 |R0::L,i+1,V,⟨S,V',r,s,d,e⟩,hi=>by
  have hi':L[i]? =some R:=by simpa using hi
  have key:∀k,B k→V' k:=by
   have:∀{L:List Res} {i:Nat} {V:Nat→Prop},Sep M w L V→L[i]? =some R→∀k,B k→V k:=by
    intro L
    induction L with
    |nil=>intro i V _ hi;simp at hi
    |cons R1 L ih=>
     rintro i V ⟨S,V',r,s,_,e⟩ hi k hk
     cases i with
     |zero=>simp only[List.getElem?_cons_zero,Option.some.injEq]at hi;subst hi;exact(e k).2 (.inl (hB S r k hk))
     |succ i=>exact(e k).2 (.inr (ih s (by simpa using hi) k hk))
   exact this s hi'
  refine⟨S,V',R0.mono hM (R0.loc (λk hk=>?_) r),Sep.turn hM hR hB hw s hi',d,e⟩
  exact hw k (λhb=>d k hk (key k hb)) (R0.has r k hk)
theorem St.turn{w':World}(h:St F M w L){R R':Res}{i:Nat}(hi:L[i]? =some R){B:Nat→Prop}(hR:∀S,R.sat M S w→R'.sat M S w')(hB:∀S,R.sat M S w→∀k,B k→S k)
  (hw:∀k,¬B k→w'.heap[k]? =w.heap[k]?) (hos:w'.os=w.os) (htape:w'.tape=w.tape) (hout:w'.output=w.output) (hsz:w.heap.size≤w'.heap.size):St F M w' (L.set i R'):=by
 obtain⟨V,s,d⟩:=h.sep
 have key:∀k,B k→V k:=by
  have:∀{L:List Res} {i:Nat} {V:Nat→Prop},Sep M w L V→L[i]? =some R→∀k,B k→V k:=by
   intro L
   induction L with
   |nil=>intro i V _ hi;simp at hi
   |cons R1 L ih=>
    rintro i V ⟨S,V',r,s,_,e⟩ hi k hk
    cases i with
    |zero=>simp only[List.getElem?_cons_zero,Option.some.injEq]at hi;subst hi;exact(e k).2 (.inl (hB S r k hk))
    |succ i=>exact(e k).2 (.inr (ih s (by simpa using hi) k hk))
  exact this s hi
 exact{
  os:=hos.trans h.os,tape:=htape.trans h.tape,output:=hout.trans h.output,size:=Nat.le_trans h.size hsz,elder:=h.elder,fresh:=h.fresh
  frame:=λk o e=>by
   rw[hw k (λhb=>by have:=(d k (key k hb)).2;rw[this]at e;cases e)];exact h.frame k o e
  mem:=λk o e=>by
   rw[hw k (λhb=>by have:=(d k (key k hb)).1;rw[this]at e;cases e)];exact h.mem k o e
  sep:=⟨V,Sep.turn (Mem.le.refl _) hR hB (λk hk _=>hw k hk) s hi,d⟩}
theorem St.new(h:St F M w L){o:Obj}{R:Res}(hR:R.sat M (λk=>k=w.heap.size) {w with heap:=w.heap.push o}):St F M {w with heap:=w.heap.push o} (R::L):=by
 obtain⟨V,s,d⟩:=h.sep
 have hk:∀k,k<w.heap.size→(w.heap.push o)[k]? =w.heap[k]? :=λk hk=>by rw[Array.getElem?_push,if_neg (by omega)]
 exact{
  os:=h.os,tape:=h.tape,output:=h.output,size:=by simp;exact Nat.le_succ_of_le h.size,elder:=h.elder,fresh:=h.fresh
  frame:=λk ob e=>by dsimp only;rw[hk k (h.flt e)];exact h.frame k ob e
  mem:=λk ob e=>by dsimp only;rw[hk k (h.lt e)];exact h.mem k ob e
  sep:=by
   refine⟨λk=>k=w.heap.size∨V k,⟨_,V,hR,Sep.loc (λk hv=>hk k (s.has k hv)) s,?_,λ_=>Iff.rfl⟩,?_⟩
   ·rintro k rfl hv;exact absurd (s.has _ hv) (Nat.lt_irrefl _)
   ·rintro k (rfl|hv)
    ·constructor
     ·cases hm:M w.heap.size with
      |none=>rfl
      |some ob=>exact absurd (h.lt hm) (Nat.lt_irrefl _)
     ·cases hm:F.mem w.heap.size with
      |none=>rfl
      |some ob=>exact absurd (h.flt hm) (Nat.lt_irrefl _)
    ·exact d k hv}
def zc:T→List Value
 | .int k=>[.int k 0]| .bool=>[.bool false]| .str=>[.string .empty]| .unit=>[]| .raw z=>[z]
 | .pair a b=>zc a++zc b| .arr n t=>(List.replicate n (zc t)).flatten| .sl _ _=>[.slice none 0 0]| .ifc _ _ u=>zc u
def zok:T→Bool
 | .raw z=>one z| .pair a b=>zok a&&zok b| .arr _ t=>zok t| .ifc _ _ u=>zok u&&(match zc u with|[v]=>ifv v|_=>false)|_=>true
theorem jH{M:Mem}:∀{t:T},zok t=true→Rep t M (zc t) t.zero
 | .int k,_=>⟨rfl,by cases k<;>exact⟨by decide,by decide⟩⟩
 | .bool,_=>rfl
 | .str,_=>⟨rfl,λc hc=>by simp[T.zero]at hc,by simp[T.zero,most]⟩
 | .unit,_=>rfl
 | .raw z,h=>⟨rfl,h⟩
 | .pair a b,h=>by
   simp only[zok,Bool.and_eq_true]at h
   exact⟨_,_,rfl,jH h.1,jH h.2⟩
 | .arr n t,h=>by
   refine⟨by simp[T.zero],?_⟩
   simp only[zc,T.zero]
   have hz:Rep t M (zc t) t.zero:=jH (by simpa [zok]using h)
   clear h
   induction n with
   |zero=>rfl
   |succ n ih=>
    rw[List.replicate_succ,List.replicate_succ,List.flatten_cons]
    exact⟨_,_,rfl,hz,ih⟩
 | .sl e t,_=>⟨none,0,by simp[zc,T.zero],by simp[T.zero],by simp[T.zero],by simp[T.zero]⟩
 | .ifc e t u,h=>by
   simp only[zok,Bool.and_eq_true]at h
   have hr:Rep u M (zc u) u.zero:=jH h.1
   obtain⟨_,h2⟩:=h
   split at h2
   ·rename_i v hv;exact⟨v,hv,h2,hr⟩
   ·cases h2
end
structure CfgE(M:Mem)(n:Nat)(E:Env)(a:Act):Prop where
 defers:a.defers=[]
 size:a.tmps.size=n
 env:∀i t,E.get i=some t→∃v,a.tmps[i]? =some v∧t.holds M v
def Same(w w':World):Prop:=∀k,k<w.heap.size→w'.heap[k]? =w.heap[k]?
section
variable {P:Program}{Tb:Tab}{F:Fr}{n:Nat}{E E':Env}{L:List Res}{ops:Array Oper}{Q:Exit→Act→World→Prop}{rest:List Oper}{o:Oper}{t:TV}
def Yields(R:World→World→Prop)(P:Program)(F:Fr)(n:Nat)(E:Env)(L:List Res)(op:Op)(t:TV):Prop:=
 ∀(o:Oper),o.op=op→∀M a w,Cfg F M n E L a w→∃v,t.holds M v∧∀w',R w w'→(execOp a.eval o).run P w'= .ok (.value v) w'
theorem Same.refl(w:World):Same w w:=λ_ _=>rfl
theorem y{op:Op}(h:Yields Same P F n E L op t){d:Nat}{ty:TypeId}{pos:String}{after:Array Edge}(hd:Nat.ble (d+1) n=true)(g:Go F n ((d,t)::E) L (wpList P ops Q rest)):
  Go F n E L (wpList P ops Q (⟨some d,op,ty,pos,after,none⟩::rest)):=λM a w c=>by
 obtain⟨v,hv,hr⟩:=h ⟨some d,op,ty,pos,after,none⟩ rfl M a w c
 exact dG rfl (by simp[Region.wanted]) (hr w (Same.refl w)) (g M _ _ (c.put (Mem.le.refl _) c.st (Nat.le_of_ble_eq_true hd) hv))
theorem fY{R:World→World→Prop}(hT:Tb.chk P=true){op:Op}(h:pv Tb E op=some t):Yields R P F n E L op t:=λo ho M a w c=>by
 subst ho
 obtain⟨v,hv,hr⟩:=rT hT c h
 exact⟨v,hv,λw' _=>hr w'⟩
theorem xM{α:Type}{l:List α}{i:Nat}{v:α}(h:(l.drop i).take 1=[v]):l[i]? =some v:=by
 have:=congrArg (λl=>l[0]?) h
 simpa using this
theorem jn{u:T}{tid:Nat}{w:World}(ht:aW P u tid=true){b off:Nat}{c:Array Value}{el:TypeId}{fr:Nat×Nat}(hb:w.heap[b]? =some (.cells c el fr))(hs:off+u.size≤c.size){M:Mem}{x:u.D}
  (hr:Rep u M ((c.toList.drop off).take u.size) x):(loadVar tid ⟨b,off,none⟩).run P w= .ok (mk u ((c.toList.drop off).take u.size)) w:=by
 unfold loadVar
 rw[ao,tu ht]
 cases ha:u.isAgg with
 |true=>
  simp only[if_true,ao,dL ht,loadCells,gH hb u.size 0 #[] (by omega),mk,ha,Nat.add_zero]
  simp
 |false=>
  obtain⟨v,e,_⟩:=nb ha hr
  simp only[Bool.false_eq_true,if_false,load,Sem.run,t6 hb,mk,ha,e]
  have h1:u.size=1:=by cases u<;>first|rfl|cases ha
  rw[h1]at e
  have e':=xM e
  rw[Array.getElem?_toList]at e'
  rw[e']
  rfl
theorem aL{x:Operand}{z:Value}{b off:Nat}{e:TypeId}{t u:T}{xv:t.D}{tid:TypeId}(i:Nat)(p:Pth t u)(hx:ev E x=some (.one (.raw z) (.pointer (some ⟨b,off,none⟩))))(hi:L[i]? =some (Res.var b e t xv))
  (hp:p.off=off) (hok:p.ok) (ht:aW P u tid=true):Yields Same P F n E L (.load tid x) (.one u (p.get xv)):=λo ho M a w c=>by
 obtain⟨cs,hb,hr⟩:=c.st.var hi
 have hl:=hr.size
 have hf:=p.fits hok
 have hrep:=Rep.get p hok hr
 rw[hp]at hrep hf
 refine⟨mk u ((cs.drop off).take u.size),⟨_,rfl,hrep⟩,λw' hs=>?_⟩
 have hb':w'.heap[b]? =some (.cells cs.toArray e (0,0)):=by rw[hs b (cH hb)];exact hb
 have key:=jn (P:=P) (w:=w') ht hb' (by simp[hl];exact hf) (M:=M) (x:=p.get xv) (by simpa using hrep)
 obtain⟨dst,op,ty,pos,after,guard⟩:=o
 simp only at ho;subst ho
 have h1:=(holds_raw.1 (aJ c hx)).1
 exact bz (by rw[h1];simp only[Instr.loadAt,Instr.sureAddr,ao,aG];simpa using key)
theorem fP{x:Operand}{u:T}{xv:u.D}{tid:TypeId}(hx:ev E x=some (.ref u xv))(ht:aW P u tid=true):Yields Same P F n E L (.load tid x) (.one u xv):=λo ho M a w c=>by
 obtain⟨⟨b,off,sp⟩,e1,e2,cs,el,fr,hm,hs,hr⟩:=aJ c hx
 simp only at e2;subst e2
 have hb:=c.st.mem _ _ hm
 refine⟨_,⟨_,rfl,hr⟩,λw' hsm=>?_⟩
 obtain⟨dst,op,ty,pos,after,guard⟩:=o
 simp only at ho;subst ho
 have hb':w'.heap[b]? =some (.cells cs el fr):=by rw[hsm b (cH hb)];exact hb
 exact bz (by rw[e1];simp only[Instr.loadAt,Instr.sureAddr,ao,aG];exact jn ht hb' hs hr)
theorem xN{R:World→World→Prop}(hT:Tb.chk P=true){x:Operand}{t u:T}{xv:t.D}{s f off:Nat}{l:List Nat}(p:Pth t u)(hx:ev E x=some (.ref t xv))(hl:lk Tb.offs s=some l)(hf:l[f]? =some off)(hp:p.off=off)(hok:p.ok):
  Yields R P F n E L (.fieldAddr s x f) (.ref u (p.get xv)):=λo ho M a w c=>by
 obtain⟨⟨b,of,sp⟩,e1,e2,cs,el,fr,hm,hs,hr⟩:=aJ c hx
 simp only at e2;subst e2
 have hfit:=p.fits hok
 refine⟨.pointer (some ⟨b,of+off,none⟩),⟨_,rfl,rfl,cs,el,fr,hm,by simp only at hs⊢;omega,?_⟩,λw' hsm=>?_⟩
 ·have:=Rep.get p hok hr
  simp only at this⊢
  rw[gQ _ _ _ _ _ hfit,hp]at this
  exact this
 ·obtain⟨dst,op,ty,pos,after,guard⟩:=o
  simp only at ho;subst ho
  exact bz (by rw[e1];exact uE (Tab.off hT hl hf))
theorem eZ{R:World→World→Prop}(hT:Tb.chk P=true){x ix:Operand}{e:TypeId}{u:T}{xs:List u.D}{tid:TypeId}{k:IntKind}{i:Int}(hx:ev E x=some (.one (.sl e u) xs))(hix:ev E ix=some (.one (.int k) i))(h0:0≤i)(h1:i<xs.length)
  (hl:lk Tb.slices tid=some e) (ht:aW P u e=true):Yields R P F n E L (.indexAddr tid x ix) (.ref u (xs.getD i.toNat u.zero)):=λo ho M a w c=>by
 obtain⟨cs,e1,ad,cap,e2,h2,h3,h4⟩:=aJ c hx
 have hiv:=(holds_int.1 (aJ c hix)).1
 cases ad with
 |none=>simp only at h4;omega
 |some ad=>
  obtain⟨b,off,sp⟩:=ad
  obtain⟨e3,cc,el,fr,hm,hs,hr⟩:=h4.resolve_left (by omega)
  simp only at e3;subst e3
  simp only at hm hs hr
  have hlt:i.toNat<xs.length:=by omega
  have hget:xs[i.toNat]? =some (xs.getD i.toNat u.zero):=by simp[List.getD,hlt]
  have hrep:=RepL.get (s:=u.size) (λc x h=>Rep.size h) hr hget
  have hm2:i.toNat*u.size+u.size≤xs.length*u.size:=by rw[←Nat.succ_mul];exact Nat.mul_le_mul_right _ hlt
  rw[gQ _ _ _ _ _ hm2]at hrep
  refine⟨.pointer (some ⟨b,off+i.toNat*u.size,none⟩),⟨_,rfl,rfl,cc,el,fr,hm,by simp only;omega,hrep⟩,λw' hsm=>?_⟩
  obtain⟨dst,op,ty,pos,after,guard⟩:=o
  simp only at ho;subst ho
  refine bz ?_
  rw[e1,e2,hiv]
  have hmk:mk (.sl e u) [Value.slice (some ⟨b,off,none⟩) (List.length xs) cap]= .slice (some ⟨b,off,none⟩) (List.length xs) cap:=rfl
  rw[hmk]
  unfold Instr.indexAt
  simp only[ao,asIntOf,aG,run_underlying (Tab.slice hT hl)]
  have htiny:((List.length xs≤1)&&(match TypeDesc.slice e with| .array .. =>true|_=>false))=false:=by simp
  simp only[h0,h1,and_self,if_true,ao,dL ht,aG,kU]
theorem gq{R:World→World→Prop}(hT:Tb.chk P=true){x ix:Operand}{xs:List Int}{tid:TypeId}{k:IntKind}{i:Int}(hx:ev E x=some (.one .str xs))(hix:ev E ix=some (.one (.int k) i))(h0:0≤i)(h1:i<xs.length)
  (hl:lk Tb.strs tid=some ()):Yields R P F n E L (.index tid x ix) (.one (.int .u8) (xs.getD i.toNat 0)):=λo ho M a w c=>by
 obtain⟨e1,hb,hm⟩:=holds_str.1 (aJ c hx)
 have hiv:=(holds_int.1 (aJ c hix)).1
 have hlt:i.toNat<xs.length:=by omega
 have hmem:xs.getD i.toNat 0∈xs:=by simp[List.getD,hlt]
 have hby:=hb _ hmem
 refine⟨.int .u8 (xs.getD i.toNat 0),holds_int.2 ⟨rfl,by simp only[rng,lo,hi];omega⟩,λw' _=>?_⟩
 obtain⟨dst,op,ty,pos,after,guard⟩:=o
 simp only at ho;subst ho
 refine bz ?_
 rw[e1,hiv]
 unfold Instr.index
 simp only[ao,asIntOf,aG,run_underlying (Tab.str hT hl),h0,if_true]
 have:(bs xs:ByteArray)[(i.toNat:Nat)]? =some (UInt8.ofNat (xs.getD i.toNat 0).toNat):=by
  have hsz:i.toNat<(bs xs).size:=by rw[jY];exact hlt
  rw[getElem?_pos (bs xs) i.toNat hsz]
  congr 1
  show(bs xs).data[i.toNat]'_=_
  simp[bs,List.getD,hlt]
 rw[this]
 simp only[UInt8.toNat_ofNat']
 have e3:((xs.getD i.toNat 0).toNat % 2^8:Nat)=(xs.getD i.toNat 0).toNat:=Nat.mod_eq_of_lt (by omega)
 rw[e3]
 have e4:(((xs.getD i.toNat 0).toNat:Nat):Int)=xs.getD i.toNat 0:=by omega
 rw[e4];rfl
theorem t7{R:World→World→Prop}{x:Operand}{t u:T}{xv:t.D}{tid f:Nat}(p:Pth t u)(hx:ev E x=some (.one t xv))(hta:t.isAgg=true)(hok:p.ok){fs:Array Field}{fd:Field}(hu:P.underlying tid=some (.struct fs))(hf:fs[f]? =some fd)(ho':fd.offset=p.off)
  (ht:aW P u fd.type=true):Yields R P F n E L (.field tid x f) (.one u (p.get xv)):=λo ho M a w c=>by
 obtain⟨cs,e1,hr⟩:=aJ c hx
 have hrep:=Rep.get p hok hr
 have hfit:=p.fits hok
 have hl:=hr.size
 refine⟨mk u ((cs.drop p.off).take u.size),⟨_,rfl,hrep⟩,λw' _=>?_⟩
 obtain⟨dst,op,ty,pos,after,guard⟩:=o
 simp only at ho;subst ho
 refine bz ?_
 rw[e1]
 simp only[mk,hta,if_true]
 unfold Instr.field
 simp only[ao,run_underlying hu,hf,asAgg,aG,part,tu ht,ho']
 cases ha:u.isAgg with
 |true=>
  simp only[if_true,ao,dL ht,aG]
  congr 2
  apply Array.toList_inj.1
  simp[List.extract_eq_take_drop]
 |false=>
  obtain⟨v,e,_⟩:=nb ha hrep
  have hs1:u.size=1:=by cases u<;>first|rfl|cases ha
  have e0:=e
  rw[hs1]at e0
  have e':=xM e0
  simp only[Bool.false_eq_true,if_false,List.getElem?_toArray,e',e]
  rfl
theorem bY{R:World→World→Prop}{x ix:Operand}{z:Value}{b off m:Nat}{u:T}{tid el:TypeId}{k:IntKind}{i:Int}(hx:ev E x=some (.one (.raw z) (.pointer (some ⟨b,off,none⟩))))(hix:ev E ix=some (.one (.int k) i))(h0:0≤i)(h1:i<m)
  (hu:P.underlying tid=some (.array m el)) (ht:aW P u el=true):Yields R P F n E L (.indexAddr tid x ix) (.one (.raw z) (.pointer (some ⟨b,off+i.toNat*u.size,none⟩))):=λo ho M a w c=>by
 have h2:=(holds_raw.1 (aJ c hx)).1
 have hiv:=(holds_int.1 (aJ c hix)).1
 refine⟨_,holds_raw.2 ⟨rfl,rfl⟩,λw' _=>?_⟩
 obtain⟨dst,op,ty,pos,after,guard⟩:=o
 simp only at ho;subst ho
 refine bz ?_
 rw[h2,hiv]
 unfold Instr.indexAt
 have hc:0≤i∧i<(m:Int):=⟨h0,h1⟩
 simp only[ao,asIntOf,aG,run_underlying hu,Instr.sureAddr,hc,and_self,if_true,dL ht,kU]
theorem A0{xs ys:List Int}(h:aQ xs)(hs:∀c∈ys,c∈xs):aQ ys:=λc hc=>h c (hs c hc)
theorem rW{xs:List Int}{i j:Nat}:(bs xs).extract i j=bs ((xs.take j).drop i):=by
 apply ByteArray.ext
 simp only[bs,ByteArray.data_extract]
 apply Array.toList_inj.1
 simp[List.extract_eq_take_drop,List.map_drop,List.map_take,List.drop_take]
def nw(E:Env)(d:Int):Option Operand→Option Int
 |none=>some d
 |some x=>match ev E x with|some (.one (.int _) i)=>some i|_=>none
theorem rX{P:Program}{w:World}{isS:Bool}{len cap:Nat}{lo hi:Option Value}{i j:Int}(hl:(lo=none∧i=0)∨∃k,lo=some (.int k i))(hh:(hi=none∧j=len)∨∃k,hi=some (.int k j))(h0:0≤i)(h1:i≤j)(h2:j≤cap):
  (Instr.sliceBounds isS len cap lo hi none).run P w= .ok (i.toNat,j.toNat,cap) w:=by
 have hj:0≤j∧j≤(cap:Int):=⟨by omega,h2⟩
 have hi':0≤i∧i≤(j.toNat:Int):=⟨h0,by omega⟩
 rcases hl with⟨rfl,rfl⟩|⟨k,rfl⟩<;>rcases hh with⟨rfl,rfl⟩|⟨k',rfl⟩
 ·simp[Instr.sliceBounds]
 ·simp[Instr.sliceBounds,Instr.sliceBound,asIntOf,hj]
 ·have:i≤(len:Int):=h1
  simp[Instr.sliceBounds,Instr.sliceBound,asIntOf,h0,this]
 ·simp only[Instr.sliceBounds,ao,aG,Instr.sliceBound,asIntOf,hj,and_self,if_true,hi']
theorem nf{M:Mem}{a:Act}{w:World}(c:Cfg F M n E L a w){d:Int}{x:Option Operand}{i:Int}(h:nw E d x=some i):(x.map a.eval=none∧i=d)∨∃k,x.map a.eval=some (.int k i):=by
 cases x with
 |none=>simp only[nw,Option.some.injEq]at h;exact .inl ⟨rfl,h.symm⟩
 |some x=>
  simp only[nw]at h
  split at h<;>cases h
  rename_i k hk
  exact .inr ⟨k,by simp only[Option.map_some,(holds_int.1 (aJ c hk)).1]⟩
theorem jB{R:World→World→Prop}(hT:Tb.chk P=true){x:Operand}{xs:List Int}{tid:TypeId}{l h:Option Operand}{i j:Int}(hx:ev E x=some (.one .str xs))(hl:nw E 0 l=some i)(hh:nw E xs.length h=some j)
  (h0:0≤i) (h1:i≤j) (h2:j≤xs.length) (ht:lk Tb.strs tid=some ()):Yields R P F n E L (.slice tid x l h none) (.one .str ((xs.take j.toNat).drop i.toNat)):=λo ho M a w c=>by
 obtain⟨e1,hb,hm⟩:=holds_str.1 (aJ c hx)
 refine⟨_,holds_str.2 ⟨rfl,A0 hb (λc hc=>List.mem_of_mem_take (List.mem_of_mem_drop hc)),by simp;omega⟩,λw' _=>?_⟩
 obtain⟨dst,op,ty,pos,after,guard⟩:=o
 simp only at ho;subst ho
 refine bz ?_
 rw[e1]
 have hl:=nf c hl
 have hh:=nf c hh
 unfold Instr.sliceAt
 simp only[ao,run_underlying (Tab.str hT ht)]
 unfold Instr.slice
 have hbd:=rX (P:=P) (w:=w') (isS:=false) (len:=(bs xs).size) (cap:=(bs xs).size) hl (by rw[jY];exact hh) h0 h1 (by rw[jY];exact h2)
 simp only[ao,run_underlying (Tab.str hT ht),Option.map_none,Option.isSome_none,Bool.false_eq_true,if_false,hbd,rW]
 rfl
theorem BR{a b:List Int}:bs a++bs b=bs (a++b):=by
 apply ByteArray.ext
 simp[bs]
theorem jN{R:World→World→Prop}{x y':Operand}{xs ys:List Int}{tid u:TypeId}(hx:ev E x=some (.one .str xs))(hy:ev E y'=some (.one .str ys))(hm:xs.length+ys.length≤most):Yields R P F n E L (.binOp .add tid x y' u) (.one .str (xs++ys)):=λo ho M a w c=>by
 obtain⟨e1,hb1,hm1⟩:=holds_str.1 (aJ c hx)
 obtain⟨e2,hb2,hm2⟩:=holds_str.1 (aJ c hy)
 refine⟨_,holds_str.2 ⟨rfl,?_,by simpa using hm⟩,λw' _=>?_⟩
 ·intro d hd
  rcases List.mem_append.1 hd with g|g
  ·exact hb1 d g
  ·exact hb2 d g
 obtain⟨dst,op,ty,pos,after,guard⟩:=o
 simp only at ho;subst ho
 refine bz ?_
 rw[e1,e2]
 have hg:(eqGuard .add tid x y' (.string (bs xs)) (.string (bs ys))).run P w'= .ok () w':=by unfold eqGuard;rfl
 rw[ao,hg]
 have hlt:¬((((bs xs).size+(bs ys).size:Nat):Int)>IntKind.i64.max):=by
  rw[jY,jY]
  have:IntKind.i64.max=9223372036854775807:=rfl
  simp only[most]at hm
  omega
 simp only[binOp,Op.stringOp,hlt,if_false,BR]
 rfl
abbrev ptr(b off:Nat):TV:= .one (.raw (.pointer none)) (.pointer (some ⟨b,off,none⟩))
theorem BS{t:T}{xv:t.D}{el:TypeId}{d:Nat}{op:Op}{ty:TypeId}{pos:String}{after:Array Edge}(hd:Nat.ble (d+1) n=true)
  (hr:∀(o:Oper),o.op=op→∀M a w,Cfg F M n E L a w→∃v,Holds t M v xv∧(execOp a.eval o).run P w=(do let a←newVar el v;pure (Next.value (.pointer (some a)))).run P w)
  (g:∀b,Go F n ((d,ptr b 0)::E) (Res.var b el t xv::L) (wpList P ops Q rest)):Go F n E L (wpList P ops Q (⟨some d,op,ty,pos,after,none⟩::rest)):=λM a w c=>by
 obtain⟨v,hv,he⟩:=hr ⟨some d,op,ty,pos,after,none⟩ rfl M a w c
 have hrun:(do let a←newVar el v;pure (Next.value (.pointer (some a))):Sem Next).run P w= .ok (.value (.pointer (some ⟨w.heap.size,0,none⟩))) {w with heap:=w.heap.push (.cells v.cells el)}:=rfl
 rw[hrun]at he
 refine dG (d:=d) rfl (by simp[Region.wanted]) he (g w.heap.size M _ _ (c.put (Mem.le.refl _) (c.st.new ?_) (Nat.le_of_ble_eq_true hd) (holds_raw.2 ⟨rfl,rfl⟩)))
 exact⟨λk=>Iff.rfl,v.cells.toList,by simp,hv.cells⟩
theorem bA{x:Operand}{t:T}{xv:t.D}{el:TypeId}{d:Nat}{ty:TypeId}{pos:String}{after:Array Edge}(hd:Nat.ble (d+1) n=true)(hx:ev E x=some (.one t xv))
  (g:∀b,Go F n ((d,ptr b 0)::E) (Res.var b el t xv::L) (wpList P ops Q rest)):Go F n E L (wpList P ops Q (⟨some d,.box el x,ty,pos,after,none⟩::rest)):=
 BS hd (λo ho M a w c=>⟨a.eval x,aJ c hx,by obtain⟨dst,op,ty,pos,after,guard⟩:=o;simp only at ho;subst ho;rfl⟩) g
theorem aC{t:T}{el:TypeId}{d:Nat}{ty:TypeId}{pos:String}{after:Array Edge}(hd:Nat.ble (d+1) n=true)(hz:(P.info? el).bind (·.zero)=some (mk t (zc t)))(ho:zok t=true)
  (g:∀b,Go F n ((d,ptr b 0)::E) (Res.var b el t t.zero::L) (wpList P ops Q rest)):Go F n E L (wpList P ops Q (⟨some d,.alloc el,ty,pos,after,none⟩::rest)):=
 BS hd (λo ho' M a w c=>⟨mk t (zc t),⟨_,rfl,jH ho⟩,by
  obtain⟨dst,op,ty,pos,after,guard⟩:=o;simp only at ho';subst ho'
  cases hi:P.info? el with
  |none=>simp[hi]at hz
  |some i=>
   simp only[hi,Option.bind_some]at hz
   simp only[execOp,Instr.alloc,ao,zeroValue,typeInfo,program,Sem.run,hi,hz,aG]
   rfl⟩) g
theorem kV{x y':Operand}{z:Value}{b off:Nat}{e:TypeId}{t u:T}{xv:t.D}{yv:u.D}{tid:TypeId}{ty:TypeId}{pos:String}{after:Array Edge}(i:Nat)(p:Pth t u)(hx:ev E x=some (.one (.raw z) (.pointer (some ⟨b,off,none⟩))))(hy:ev E y'=some (.one u yv))(hi:L[i]? =some (Res.var b e t xv))
  (hp:p.off=off) (hok:p.ok) (ht:aW P u tid=true) (g:Go F n E (L.set i (Res.var b e t (p.set xv yv))) (wpList P ops Q rest)):Go F n E L (wpList P ops Q (⟨none,.store tid x y',ty,pos,after,none⟩::rest)):=λM a w c=>by
 obtain⟨cs,hb,hr⟩:=c.st.var hi
 have hl:=hr.size
 have hf:=p.fits hok
 have h1:=(holds_raw.1 (aJ c hx)).1
 obtain⟨ds,hds,hrun⟩:=pU (P:=P) (w:=w) ht hb (off:=off) (by simp[hl,←hp];exact hf) (iz _) (aJ c hy)
 unfold wpList
 rw[if_pos (by simp[Region.wanted])]
 left
 unfold Oper.wp
 have he:(execOp a.eval ⟨none,.store tid x y',ty,pos,after,none⟩).run P w= .ok .skip (fg w b (.cells (cs.take off++ds++cs.drop (off+u.size)).toArray e (0,0))):=by
  have hrun':(storeVar tid ⟨b,off,none⟩ (a.eval y')).run P w= .ok () (fg w b (.cells (cs.take off++ds++cs.drop (off+u.size)).toArray e (0,0))):=hrun
  simp only[execOp,ao,h1,Instr.storeAt,Instr.sureAddr,aG,hrun']
 rw[he,Oper.upon_skip]
 refine g M _ _ (c.same (Mem.le.refl _) (c.st.turn hi (B:=λk=>k=b) ?_ ?_ ?_ rfl rfl rfl (by simp[fg])))
 ·rintro S ⟨hS,cs',hb',hr'⟩
  refine⟨hS,cs.take off++ds++cs.drop (off+u.size),by rw[eA (cH hb)];simp,?_⟩
  rw[←hp]
  exact Rep.set p hok hr hds
 ·rintro S ⟨hS,_⟩ k rfl;exact(hS _).2 rfl
 ·intro k hk;rw[eA (cH hb),if_neg (λh=>hk h.symm)]
end
def Cls(F:Fr)(M:Mem)(L:List Res)(w w':World):Prop:=St F M w' L∧Same w w'
def QGo(P:Program)(ops:Array Oper)(F:Fr)(n:Nat)(E:Env)(L:List Res)(K:Mem→World→Act→Prop)(l:List Oper):Prop:=
 ∀M a w,Cfg F M n E L a w→wpQuiet P ops (Cls F M L w) (K M w) l a
def xO(F:Fr)(L:List Res)(X:Act→World→Prop)(M:Mem)(w:World)(a:Act):Prop:=∀w',Cls F M L w w'→X a w'
def Ee(F:Fr)(n:Nat)(E:Env)(L:List Res)(M:Mem)(w:World)(a:Act):Prop:=Cfg F M n E L a w
def BU(F:Fr)(n:Nat){σ ρ:Type}(E:σ→Env)(L:List Res)(k:σ→Option ρ)(r:ρ)(M:Mem)(w:World)(a:Act):Prop:=∃s,k s=some r∧Cfg F M n (E s) L a w
theorem St.alone{F:Fr}{M:Mem}{w:World}{L:List Res}(h:St F M w L):
  ∃F',F'.base=M∧F'.size=w.heap.size∧St F' M w []∧∀M' w',St F' M' w' []→St F M w' L∧Same w w':=by
 refine⟨{F with mem:=λk=>w.heap[k]?,base:=M,size:=w.heap.size},rfl,rfl,?_,?_⟩
 ·exact{os:=h.os,tape:=h.tape,output:=h.output,size:=Nat.le_refl _,elder:=Mem.le.refl _,fresh:=λk o e=> .inl e,frame:=λk o e=>e,mem:=h.mem,sep:=⟨λ_=>False,λ_ h=>h,λ_ h=>h.elim⟩}
 ·intro M' w' h'
  have hs:Same w w':=λk hk=>by
   have:=h'.frame k w.heap[k] (by simp[hk])
   rw[this];simp[hk]
  obtain⟨V,s,d⟩:=h.sep
  refine⟨?_,hs⟩
  exact{os:=h'.os,tape:=h'.tape,output:=h'.output,size:=Nat.le_trans h.size h'.size,elder:=h.elder,fresh:=h.fresh
        frame:=λk o e=>by rw[hs k (h.flt e)];exact h.frame k o e
        mem:=λk o e=>by rw[hs k (h.lt e)];exact h.mem k o e
        sep:=⟨V,Sep.loc (λk hk=>hs k (s.has k hk)) s,d⟩}
section
variable {P:Program}{Tb:Tab}{F:Fr}{n:Nat}{E E':Env}{L:List Res}{ops:Array Oper}{Q:Exit→Act→World→Prop}{rest:List Oper}{t:TV}{X:Act→World→Prop}{K:Mem→World→Act→Prop}
theorem eL{id:Nat}{l:List Oper}(hm:P.follows .mixedOrders=true)(hB:Region.lexB .any l.toArray=true)(g:QGo P l.toArray F n E L (xO F L (Q .normal)) l):Go F n E L ((Code.region id l.toArray true).wp P Q):=
 λM a w c=>wp_region_quiet (C:=Cls F M L w) hm hB ⟨c.st.drew,λ_ _=>rfl⟩ (by show wpQuiet P _ _ (xO F L (Q .normal) M w) _ _;simpa using g M a w c)
theorem fa(g:Go F n E L X):QGo P ops F n E L (xO F L X) []:=λM a _ c=>wpQuiet_nil λw' h=>g M a w' {c with st:=h.1}
theorem qq{a:Act}{C:World→Prop}{K:Act→Prop}{o:Oper}{d:Nat}{v:Value}(hd:o.dst=some d)(hw:Region.wanted o (yielded ops a.tmps)=true)(hr:∀w',C w'→(execOp a.eval o).run P w'= .ok (.value v) w')
  (g:wpQuiet P ops C K rest (a.put (some d) v)):wpQuiet P ops C K (o::rest) a:=by
 unfold wpQuiet
 rw[if_pos hw]
 refine⟨v,λw' hC=>?_,by rw[hd];exact g⟩
 unfold Oper.quietAt
 rw[hr w' hC]
 exact⟨rfl,rfl⟩
theorem qr{a:Act}{C:World→Prop}{K:Act→Prop}{o:Oper}(hw:Region.wanted o (yielded ops a.tmps)=false)(g:wpQuiet P ops C K rest (a.put o.dst undef)):wpQuiet P ops C K (o::rest) a:=by
 unfold wpQuiet
 rw[if_neg (by simp[hw])]
 exact g
theorem q_y{op:Op}(h:Yields Same P F n E L op t){d:Nat}{ty:TypeId}{pos:String}{after:Array Edge}(hd:Nat.ble (d+1) n=true)(g:QGo P ops F n ((d,t)::E) L K rest):
  QGo P ops F n E L K (⟨some d,op,ty,pos,after,none⟩::rest):=λM a w c=>by
 obtain⟨v,hv,hr⟩:=h ⟨some d,op,ty,pos,after,none⟩ rfl M a w c
 exact qq rfl (by simp[Region.wanted]) (λw' hC=>hr w' hC.2) (g M _ w (c.put (Mem.le.refl _) c.st (Nat.le_of_ble_eq_true hd) hv))
theorem ng(hT:Tb.chk P=true){C:World→Prop}{K:Act→Prop}:∀{l:List Oper} {E E1:Env},dZ Tb n ops l E=some E1→∀{M:Mem} {a:Act} {w:World},Cfg F M n E L a w→
  (∀a',Cfg F M n E1 L a' w→wpQuiet P ops C K rest a')→wpQuiet P ops C K (l++rest) a
 |[],E,E1,h,M,a,w,c,g=>by simp only[dZ,Option.some.injEq]at h;subst h;exact g a c
 |o::l,E,E1,h,M,a,w,c,g=>by
  simp only[dZ]at h
  split at h
  ·rename_i hg
   split at h
   ·rename_i d hd
    split at h
    ·rename_i hn
     split at h
     ·rename_i t ht
      obtain⟨v,hv,hr⟩:=rT hT c ht
      exact qq hd (by simp[Region.wanted,hg]) (λw' _=>hr w') (ng hT h (c.put (Mem.le.refl _) c.st (Nat.le_of_ble_eq_true hn) hv) g)
     ·cases h
    ·cases h
   ·cases h
  ·rename_i j want hg
   split at h
   ·rename_i dj hdj
    split at h
    ·rename_i b hb
     have hw:=ky (o:=o) (ops:=ops) c hg hdj hb
     split at h
     ·split at h
      ·rename_i d hd
       split at h
       ·rename_i hn
        split at h
        ·rename_i t ht
         obtain⟨v,hv,hr⟩:=rT hT c ht
         exact qq hd (by rw[hw];rfl) (λw' _=>hr w') (ng hT h (c.put (Mem.le.refl _) c.st (Nat.le_of_ble_eq_true hn) hv) g)
        ·cases h
       ·cases h
      ·cases h
     ·split at h
      ·rename_i d hd
       split at h
       ·rename_i hn
        split at h
        ·rename_i t ht
         obtain⟨v,hv,hr⟩:=rT hT c ht
         exact qq hd (by rw[hw];rfl) (λw' _=>hr w') (ng hT h (c.put (Mem.le.refl _) c.st (Nat.le_of_ble_eq_true hn) hv) g)
        ·cases h
       ·cases h
      ·cases h
     ·have hne:Region.wanted o (yielded ops a.tmps)=false:=by
       rw[hw]
       rename_i h1 h2
       cases b<;>cases want<;>first|rfl|exact absurd rfl (h1 rfl)|exact absurd rfl (h2 rfl)|simp_all
      split at h
      ·rename_i d hd
       refine qr hne ?_
       rw[hd]
       exact ng hT h (c.skip d) g
      ·rename_i hd
       have:=c.void none undef
       refine qr hne ?_
       rw[hd]
       exact ng hT h this g
    ·rename_i hb
     have hne:=nu (o:=o) (ops:=ops) c hg hdj hb
     split at h
     ·rename_i d hd
      refine qr hne ?_
      rw[hd]
      exact ng hT h (c.skip d) g
     ·rename_i hd
      have:=c.void none undef
      refine qr hne ?_
      rw[hd]
      exact ng hT h this g
    ·cases h
   ·cases h
theorem ay(hT:Tb.chk P=true){l:List Oper}(k:Nat)(keys:List Nat)(h:seg Tb n ops (l.take k) E keys=some E')(g:QGo P ops F n E' L K (l.drop k)):QGo P ops F n E L K l:=by
 intro M a w c
 unfold seg at h
 split at h
 ·rename_i E1 h1
  have:=ng (P:=P) (ops:=ops) (rest:=l.drop k) (C:=Cls F M L w) (K:=K M w) hT h1 c λa' c'=>g M a' w (c'.less (m4 h))
  rwa [List.take_append_drop]at this
 ·cases h
theorem oY{k:FuncId}(hk:dQ P k=true){xs:List Operand}{tys:Array TypeId}{dst:Option Tmp}{ty:TypeId}{pos:String}{after:Array Edge}{guard:Option (Nat×Bool)}{a:Act}{w:World}:
  (execOp a.eval ⟨dst,.call ⟨.value (.func k),xs.toArray,tys⟩,ty,pos,after,guard⟩).run P w= .ok (.enter k (xs.map a.eval).toArray) w:=by
 simp only[execOp,resolve,ao,aG,Act.eval,Deferred.ofValue,invoke]
 rw[gn hk]
 simp
theorem jZ{k:FuncId}{args:List TV}{res:TV}(hc:bm P k args res)(hk:dQ P k=true)(hf:res.flat=true){xs:List Operand}{tys:Array TypeId}{d:Nat}{ty:TypeId}{pos:String}{after:Array Edge}
  (hx:evs E xs=some args) (hd:Nat.ble (d+1) n=true) (g:QGo P ops F n ((d,res)::E) L K rest):
  QGo P ops F n E L K (⟨some d,.call ⟨.value (.func k),xs.toArray,tys⟩,ty,pos,after,none⟩::rest):=λM a w c=>by
 have key:∀w',Cls F M L w w'→Calls P k (xs.map a.eval).toArray w' λe w''=>∃v M',e= .returned v∧res.holds M' v∧Cls F M L w w'':=by
  intro w' hC
  obtain⟨F',hb,hs,st',hback⟩:=hC.1.alone
  have:=hc F' w' (xs.map a.eval) (by rw[hb];exact st') hs (by rw[hb];exact oX c hx)
  refine this.mono ?_
  rintro e w'' ⟨v,M',rfl,st2,hv⟩
  obtain⟨st3,sm⟩:=hback _ _ st2
  refine⟨v,M',rfl,hv,st3,λk hk=>?_⟩
  rw[sm k (Nat.lt_of_lt_of_le hk ?_),hC.2 k hk]
  rcases Nat.lt_or_ge w'.heap.size w.heap.size with h|h
  ·have h1:=hC.2 w'.heap.size h
   rw[Array.getElem?_eq_none (Nat.le_refl _),Array.getElem?_eq_getElem h]at h1
   cases h1
  ·exact h
 obtain⟨e0,w0,_,⟨v,M0,rfl,hv,_⟩,_⟩:=key w ⟨c.st,Same.refl w⟩ []
 unfold wpQuiet
 rw[if_pos (by simp[Region.wanted])]
 refine⟨v,λw' hC=>?_,g M _ w (c.put (Mem.le.refl _) c.st (Nat.le_of_ble_eq_true hd) (TV.any hf hv))⟩
 unfold Oper.quietAt
 rw[oY hk]
 refine⟨rfl,(key w' hC).mono ?_⟩
 rintro e w'' ⟨v',M',rfl,hv',hC'⟩
 rw[TV.unique hf hv' hv]
 exact⟨rfl,hC'⟩
theorem qs{C:World→Prop}{K:Act→Prop}:∀{l1 l2:List Oper} {a:Act},wpQuiet P ops C (λa'=>wpQuiet P ops C K l2 a') l1 a→wpQuiet P ops C K (l1++l2) a
 |[],_,_,h=>h
 |o::l1,l2,a,h=>by
  unfold wpQuiet at h
  rw[List.cons_append]
  unfold wpQuiet
  split
  ·rename_i hw
   rw[if_pos hw]at h
   obtain⟨v,h1,h2⟩:=h
   exact⟨v,h1,qs h2⟩
  ·rename_i hw
   rw[if_neg hw]at h
   exact qs h
theorem rY{C:World→Prop}{K K':Act→Prop}(hK:∀a,K a→K' a):∀{l:List Oper} {a:Act},wpQuiet P ops C K l a→wpQuiet P ops C K' l a
 |[],a,h=>hK a h
 |o::l,a,h=>by
  unfold wpQuiet at h⊢
  split
  ·rename_i hw
   rw[if_pos hw]at h
   obtain⟨v,h1,h2⟩:=h
   exact⟨v,h1,rY hK h2⟩
  ·rename_i hw
   rw[if_neg hw]at h
   exact rY hK h
theorem fZ(g:∀M a w,Cfg F M n E L a w→K M w a):QGo P ops F n E L K []:=λM a w c=>g M a w c
theorem iF(hE:E=E'):∀M a w,Cfg F M n E L a w→Ee F n E' L M w a:=λ_ _ _ c=>by subst hE;exact c
theorem t8{σ ρ:Type}(s:σ)(keys:List Nat){E2:σ→Env}{k:σ→Option ρ}{r:ρ}(hk:k s=some r)(h:ly E keys=some (E2 s)):∀M a w,Cfg F M n E L a w→BU F n E2 L k r M w a:=
 λ_ _ _ c=>⟨s,hk,c.less (m4 h)⟩
theorem lE{l:List Oper}(k:Nat)(E':Env)(h1:QGo P ops F n E L (Ee F n E' L) (l.take k))(h2:QGo P ops F n E' L K (l.drop k)):QGo P ops F n E L K l:=λM a w c=>by
 rw[←List.take_append_drop k l]
 exact qs (rY (λa' c'=>h2 M a' w c') (h1 M a w c))
theorem wJ{σ ρ:Type}{l:List Oper}(k:Nat)(E2:σ→Env)(kf:σ→Option ρ)(r:ρ)(h1:QGo P ops F n E L (BU F n E2 L kf r) (l.take k))(h2:∀s,kf s=some r→QGo P ops F n (E2 s) L K (l.drop k)):QGo P ops F n E L K l:=λM a w c=>by
 rw[←List.take_append_drop k l]
 exact qs (rY (λa' ⟨s,hk,c'⟩=>h2 s hk M a' w c') (h1 M a w c))
end
theorem Ad{w w':World}{k:Nat}(h:w'.heap[k]? =w.heap[k]?)(hk:k<w.heap.size):k<w'.heap.size:=by
 rcases Nat.lt_or_ge k w'.heap.size with g|g
 ·exact g
 ·rw[Array.getElem?_eq_none g,Array.getElem?_eq_getElem hk]at h;cases h
theorem wK{α:Type}{l ds:List α}{o k:Nat}(h:o+k+ds.length≤l.length):((l.take (o+k)++ds++l.drop (o+k+ds.length)).drop o).take (k+ds.length)=(l.drop o).take k++ds:=by
 have h0:l.take (o+k)=l.take o++(l.drop o).take k:=List.take_add
 rw[h0,List.append_assoc,List.append_assoc]
 have h1:(l.take o).length=o:=by simp;omega
 rw[List.drop_left' h1,←List.append_assoc]
 have h2:((l.drop o).take k++ds).length=k+ds.length:=by simp;omega
 exact List.take_left' h2
def Gt(M:Mem)(S:Nat→Prop)(w:World)(v:Value)(e:TypeId)(t:T)(xs:List t.D)(b o cap:Nat):Prop:=
 v= .slice (some ⟨b,o,none⟩) (List.length xs) cap∧(∀k,S k↔k=b)∧∃(c:Array Value) (fr:Nat×Nat),w.heap[b]? =some (.cells c e fr)∧RepL (Rep t M) ((c.toList.drop o).take (List.length xs*t.size)) xs∧
  c.size=o+cap*t.size∧List.length xs≤cap∧List.length xs≤most∧pT fr c.size
def Res.own(v:Value)(e:TypeId)(t:T)(xs:List t.D):Res where
 sat M S w:=((∃a,v= .slice a 0 0)∧xs=[]∧∀k,S k→k<w.heap.size)∨∃b o cap,Gt M S w v e t xs b o cap
 mono h:=λg=>g.elim .inl λ⟨b,o,cap,h1,h2,c,fr,h3,h4,h5⟩=> .inr ⟨b,o,cap,h1,h2,c,fr,h3,RepL.mono (λ_ _ r=>r.mono h) h4,h5⟩
 loc h:=λg=>g.elim (λ⟨h1,h2,h3⟩=> .inl ⟨h1,h2,λk hk=>Ad (h k hk) (h3 k hk)⟩) λ⟨b,o,cap,h1,h2,c,fr,h3,h4⟩=> .inr ⟨b,o,cap,h1,h2,c,fr,by rw[h b ((h2 b).2 rfl)];exact h3,h4⟩
 has:=λg k hk=>by
  rcases g with⟨_,_,h⟩|⟨b,o,cap,_,h2,c,fr,h3,_⟩
  ·exact h k hk
  ·obtain rfl:=(h2 k).1 hk;exact cH h3
section
variable {P:Program}{Tb:Tab}{F:Fr}{n:Nat}{E E':Env}{L:List Res}{ops:Array Oper}{Q:Exit→Act→World→Prop}{rest:List Oper}{X:Act→World→Prop}
theorem St.res{M:Mem}{w:World}{R:Res}{i:Nat}(h:St F M w L)(hi:L[i]? =some R):∃S,R.sat M S w:=by
 obtain⟨V,s,d⟩:=h.sep
 have:∀{L:List Res} {i:Nat} {V:Nat→Prop},Sep M w L V→L[i]? =some R→∃S,R.sat M S w:=by
  intro L
  induction L with
  |nil=>intro i V _ hi;simp at hi
  |cons R L ih=>
   rintro i V ⟨S,V',r,s,_,_⟩ hi
   cases i with
   |zero=>simp only[List.getElem?_cons_zero,Option.some.injEq]at hi;subst hi;exact⟨S,r⟩
   |succ i=>exact ih s (by simpa using hi)
 exact this s hi
theorem St.free{M:Mem}{w:World}{R:Res}(h:St F M w L)(hR:R.sat M (λ_=>False) w):St F M w (R::L):=
 {h with
  sep:=by
   obtain⟨V,s,d⟩:=h.sep
   exact⟨V,⟨λ_=>False,V,hR,s,λ_ h=>h.elim,λk=>⟨.inr,λh=>h.elim False.elim id⟩⟩,d⟩}
theorem bT(v:Value)(hv:v= .slice none 0 0)(e:TypeId)(t:T)(g:Go F n E (Res.own v e t []::L) X):Go F n E L X:=λM a w c=>
 g M a w {c with st:=c.st.free (.inl ⟨⟨none,hv⟩,rfl,λ_ h=>h.elim⟩)}
theorem St.lose{M:Mem}{w:World}{L':List Res}(p:L'.Sublist L)(h:St F M w L):St F M w L':=by
 have key:∀{L L':List Res},L'.Sublist L→∀{V:Nat→Prop},Sep M w L V→∃V',Sep M w L' V'∧∀k,V' k→V k:=by
  intro L L' p
  induction p with
  |slnil=>intro V s;exact⟨V,s,λ_ h=>h⟩
  |cons R p ih=>
   rintro V ⟨S,V',r,s,d,e⟩
   obtain⟨W,sw,hw⟩:=ih s
   exact⟨W,sw,λk hk=>(e k).2 (.inr (hw k hk))⟩
  |cons_cons R p ih=>
   rintro V ⟨S,V',r,s,d,e⟩
   obtain⟨W,sw,hw⟩:=ih s
   exact⟨λk=>S k∨W k,⟨S,W,r,sw,λk hk h=>d k hk (hw k h),λ_=>Iff.rfl⟩,λk hk=>(e k).2 (hk.imp id (hw k))⟩
 obtain⟨V,s,d⟩:=h.sep
 obtain⟨W,sw,hw⟩:=key p s
 exact{h with sep:=⟨W,sw,λk hk=>d k (hw k hk)⟩}
theorem xP{L':List Res}(p:L'.Sublist L)(g:Go F n E L' X):Go F n E L X:=λM a w c=>g M a w {c with st:=c.st.lose p}
theorem ny{L':List Res}(p:L.Perm L')(g:Go F n E L' X):Go F n E L X:=λM a w c=>g M a w {c with st:=c.st.perm p}
theorem kN{M:Mem}{e:TypeId}{t:T}{a:Option Addr}:Rep (.sl e t) M [.slice a 0 0] ([]:List t.D):=⟨a,0,rfl,by simp[most],by simp,by cases a with|none=>exact rfl|some ad=>exact .inl rfl⟩
open Classical in
theorem kB{v:Value}{z:Value}{e:TypeId}{t:T}{xs:List t.D}{i k:Nat}(hk:E.get k=some (.one (.raw z) v))(hi:L[i]? =some (Res.own v e t xs))(g:Go F n ((k,.one (.sl e t) xs)::E) (L.eraseIdx i) X):Go F n E L X:=λM a w c=>by
 have key:∀{L:List Res} {i:Nat} {V:Nat→Prop},Sep M w L V→L[i]? =some (Res.own v e t xs)→∃S V',(Res.own v e t xs).sat M S w∧Sep M w (L.eraseIdx i) V'∧(∀k,S k→¬V' k)∧∀k,V k↔(S k∨V' k):=by
  intro L
  induction L with
  |nil=>intro i V _ hi;simp at hi
  |cons R L ih=>
   rintro i V ⟨S,V',r,s,d,e⟩ hi
   cases i with
   |zero=>simp only[List.getElem?_cons_zero,Option.some.injEq]at hi;subst hi;exact⟨S,V',r,s,d,e⟩
   |succ i=>
    obtain⟨S1,V1,r1,s1,d1,e1⟩:=ih s (by simpa using hi)
    refine⟨S1,λk=>S k∨V1 k,r1,⟨S,V1,r,s1,λk hk h=>d k hk ((e1 k).2 (.inr h)),λ_=>Iff.rfl⟩,?_,?_⟩
    ·rintro k hk (h|h)
     ·exact d k h ((e1 k).2 (.inl hk))
     ·exact d1 k hk h
    ·intro k;rw[e k,e1 k];exact or_left_comm
 obtain⟨V,s,d⟩:=c.st.sep
 obtain⟨S,V',r,s',dj,ev⟩:=key s hi
 obtain⟨u,hu,hh⟩:=c.get hk
 have hval:=(holds_raw.1 hh).1
 let M':Mem:=λk=>if S k then w.heap[k]? else M k
 have hle:M.le M':=λk o e=>by
  have:¬S k:=λh=>by have:=(d k ((ev k).2 (.inl h))).1;rw[this]at e;cases e
  show(if S k then _ else _)=_
  rw[if_neg this];exact e
 have hold:Holds (.sl e t) M' u xs:=by
  rw[hval]
  rcases r with⟨⟨a0,rfl⟩,rfl,_⟩|⟨b,o,cap,rfl,h2,cc,fr,h3,h4,h5,h6,h7,h8⟩
  ·exact⟨_,rfl,kN⟩
  ·refine⟨_,rfl,some ⟨b,o,none⟩,cap,rfl,h7,h6,.inr ⟨rfl,cc,e,fr,?_,?_,?_⟩⟩
   ·show(if S b then _ else _)=_
    rw[if_pos ((h2 b).2 rfl)];exact h3
   ·have:=Nat.mul_le_mul_right t.size h6
    simp only;omega
   ·exact RepL.mono (λ_ _ r=>Rep.mono hle r) h4
 have st':St F M' w (L.eraseIdx i):=by
  refine{c.st with elder:=c.st.elder.trans hle,fresh:= ?_,mem:= ?_,sep:=⟨V',Sep.mono hle s',?_⟩}
  ·intro k o e
   by_cases hS:S k
   ·exact .inr (d k ((ev k).2 (.inl hS))).2
   ·have e':M k=some o:=by simpa [M',hS]using e
    exact c.st.fresh k o e'
  ·intro k o e
   by_cases hS:S k
   ·simpa [M',hS]using e
   ·exact c.st.mem k o (by simpa [M',hS]using e)
  ·intro k hk
   have hS:¬S k:=λh=>dj k h hk
   have:=d k ((ev k).2 (.inr hk))
   refine⟨?_,this.2⟩
   show(if S k then _ else _)=_
   rw[if_neg hS];exact this.1
 refine g M' a w ⟨st',c.defers,c.size,?_⟩
 intro j t' hj
 simp only[Env.get]at hj
 split at hj
 ·rename_i hb
  obtain rfl:=Nat.eq_of_beq_eq_true hb
  cases hj
  exact⟨u,hu,hold⟩
 ·obtain⟨x,e,hx⟩:=c.env j t' hj
  exact⟨x,e,TV.mono hle hx⟩
def Src(P:Program)(F:Fr)(n:Nat)(E:Env)(L:List Res)(x:Operand)(t:T)(ys:List t.D):Prop:=
 ∀M a w,Cfg F M n E L a w→∃ds,RepL (Rep t M) ds ys∧∀w',w'.heap=w.heap→(Builtin.lenOf (a.eval x)).run P w'= .ok (List.length ys) w'∧
  (Builtin.firstCells t.size (List.length ys) (a.eval x)).run P w'= .ok ds.toArray w'
theorem tw{P:Program}{w:World}{a:Option Addr}{s:Nat}:(Builtin.firstCells s 0 (.slice a 0 0)).run P w= .ok #[] w:=by
 cases a with
 |none=>rfl
 |some ad=>simp[Builtin.firstCells,loadCells,loadCellsFrom,aG]
theorem bL{x:Operand}{z v:Value}{e:TypeId}{t:T}{ys:List t.D}(j:Nat)(hx:ev E x=some (.one (.raw z) v))(hj:L[j]? =some (Res.own v e t ys)):Src P F n E L x t ys:=λM a w c=>by
 obtain⟨S,hs⟩:=c.st.res hj
 have hv:=(holds_raw.1 (aJ c hx)).1
 rw[hv]
 rcases hs with⟨⟨a0,rfl⟩,rfl,_⟩|⟨b,o,cap,rfl,h2,cc,fr,h3,h4,h5,h6,h7,h8⟩
 ·exact⟨[],rfl,λw' _=>⟨rfl,tw⟩⟩
 ·refine⟨_,h4,λw' hw=>⟨rfl,?_⟩⟩
  have hm:=Nat.mul_le_mul_right t.size h6
  have:=gH (P:=P) (w:=w') (b:=b) (off:=o) (c:=cc) (el:=e) (fr:=fr) (by rw[hw];exact h3) (List.length ys*t.size) 0 #[] (by omega)
  simp only[Builtin.firstCells,loadCells,this]
  simp
theorem pV{x:Operand}{e:TypeId}{t:T}{ys:List t.D}(hx:ev E x=some (.one (.sl e t) ys)):Src P F n E L x t ys:=λM a w c=>by
 obtain⟨cs,e1,ad,cap,e2,h2,h3,h4⟩:=aJ c hx
 have hv:a.eval x= .slice ad (List.length ys) cap:=by rw[e1,e2];rfl
 rw[hv]
 cases ad with
 |none=>
  simp only at h4
  have:ys=[]:=List.length_eq_zero_iff.1 h4
  subst this
  exact⟨[],rfl,λw' _=>⟨rfl,rfl⟩⟩
 |some ad=>
  rcases h4 with h4|h4
  ·have:ys=[]:=List.length_eq_zero_iff.1 h4
   subst this
   exact⟨[],rfl,λw' _=>⟨rfl,by simp[Builtin.firstCells,loadCells];rfl⟩⟩
  obtain⟨b,off,sp⟩:=ad
  obtain⟨e3,cc,el,fr,hm,hs,hr⟩:=h4
  simp only at e3;subst e3
  refine⟨_,hr,λw' hw=>⟨rfl,?_⟩⟩
  have:=gH (P:=P) (w:=w') (b:=b) (off:=off) (c:=cc) (el:=el) (fr:=fr) (by rw[hw];exact c.st.mem _ _ hm) (List.length ys*t.size) 0 #[] (by simp only at hs;omega)
  simp only[Builtin.firstCells,loadCells,this]
  simp
theorem py{M:Mem}:∀{ys:List Int},aQ ys→RepL (Rep (.int .u8) M) (ys.map λy=>Value.int .u8 y) ys
 |[],_=>rfl
 |y::ys,h=>⟨[.int .u8 y],_,rfl,⟨rfl,by have:=h y (by simp);simp only[rng,lo,hi];omega⟩,py λc hc=>h c (by simp[hc])⟩
theorem Ae{x:Operand}{ys:List Int}(hx:ev E x=some (.one .str ys)):Src P F n E L x (.int .u8) ys:=λM a w c=>by
 obtain⟨e1,hb,hm⟩:=holds_str.1 (aJ c hx)
 rw[e1]
 refine⟨_,py hb,λw' _=>⟨by simp[Builtin.lenOf,jY],?_⟩⟩
 simp only[Builtin.firstCells,aG]
 congr 1
 have h1:(bs ys).extract 0 (List.length ys)=bs ys:=by rw[rW];simp
 rw[h1]
 simp only[bs,List.map_toArray,List.map_map]
 congr 1
 apply List.map_congr_left
 intro c hc
 have:=hb c hc
 simp only[Function.comp]
 rw[UInt8.toNat_ofNat']
 congr 1
 omega
theorem wL(need:Nat):∀(r c:Nat),256≤c→c<need→Builtin.growBy need r c<2*need
 |0,c,_,h=>by simp[Builtin.growBy];omega
 |r+1,c,h0,h=>by
  simp only[Builtin.growBy]
  rw[if_neg (by omega)]
  by_cases hh:c+(c+768)/4<need
  ·exact wL need r _ (by omega) hh
  ·cases r with
   |zero=>simp[Builtin.growBy];omega
   |succ r=>simp only[Builtin.growBy];rw[if_pos (by omega)];omega
theorem vw{need cap:Nat}(h:cap<need):Builtin.nextslicecap need cap≤2*need:=by
 unfold Builtin.nextslicecap
 split
 ·omega
 ·split
  ·omega
  ·exact Nat.le_of_lt (wL _ _ _ (by omega) h)
theorem oD{k:Nat}{w:World}:(askRoom k).run P w= .ok () w:=by
 unfold askRoom;split<;>rfl
theorem eH{tid:TypeId}{i:TypeInfo}{w:World}(h:P.info? tid=some i):(typeInfo tid).run P w= .ok i w:=by
 simp only[typeInfo,ao,program,Sem.run,h];rfl
theorem wh(z:Array Value)(k:Nat):(Builtin.zeroCells z k).size=k*z.size:=by simp[Builtin.zeroCells]
def xr(P:Program)(t:TypeId):Bool:=match P.underlying t with|some (.slice _)=>true|some .string=>true|_=>false
theorem A1{sT xT elem:TypeId}{t:T}{s x:Value}{base:Option Addr}{sLen sCap m B:Nat}{w:World}{ds olds:List Value}{ty:TypeId}{i:TypeInfo}
  (hu:P.underlying sT=some (.slice elem)) (ht:aW P t elem=true) (hx:xr P xT=true) (hi:P.info? elem=some i) (hB:i.bytes=B) (hz:∃z,i.zero=some z∧z.cells.size=t.size) (hB1:1≤B)
  (hs:s= .slice base sLen sCap) (hl:∀w',w'.heap=w.heap→(Builtin.lenOf x).run P w'= .ok m w') (hf:∀w',w'.heap=w.heap→(Builtin.firstCells t.size m x).run P w'= .ok ds.toArray w')
  (ho:∀w',w'.heap=w.heap→(Builtin.firstCells t.size sLen s).run P w'= .ok olds.toArray w') (bU:(sLen+m)*B≤140737488355328):
  (sLen+m≤sCap→∀w',(match base with|some a=>storeCells (a.add (sLen*t.size)) ds|none=>pure ()).run P w= .ok () w'→
    (Builtin.append_ #[sT,xT] ty #[s,x]).run P w= .ok (.slice base (sLen+m) sCap) w')∧
  (sCap<sLen+m→∃newCap zs d,sLen+m≤newCap∧zs.length=(newCap - (sLen+m))*t.size∧
    (Builtin.append_ #[sT,xT] ty #[s,x]).run P w= .ok (.slice (some ⟨w.heap.size,0,none⟩) (sLen+m) newCap) {w with drawn:=d,heap:=w.heap.push (.cells (olds++ds++zs).toArray elem)}):=by
 obtain⟨z,hz1,hz2⟩:=hz
 have hxu:(∃u,P.underlying xT=some (.slice u))∨P.underlying xT=some .string:=by
  unfold xr at hx
  split at hx
  ·rename_i h;exact .inl ⟨_,h⟩
  ·rename_i h;exact .inr h
  ·cases hx
 subst hs
 have hl':=hl w rfl
 have hf':=hf w rfl
 constructor
 ·intro hle w' hst
  have key:(match base with|some a=>storeCells (a.add (sLen*t.size)) ds|none=>pure PUnit.unit).run P w= .ok PUnit.unit w':=hst
  rcases hxu with⟨u,hdx⟩|hdx
  all_goals
   simp only[Builtin.append_,List.getElem?_toArray,List.getElem?_cons_zero,List.getElem?_cons_succ,ao,run_underlying hu,dL ht,run_underlying hdx,aG,Bool.false_eq_true,if_false,hl',hle,if_true,Bool.not_false,hf']
   cases base with
   |none=>simp only at key⊢;cases key;rfl
   |some ad=>simp only at key⊢;rw[ao,key];rfl
 ·intro hlt
  have hnl:¬(sLen+m≤sCap):=by omega
  have hb0:¬i.bytes=0:=by omega
  have hcap:=vw hlt
  have hn2:¬(Builtin.nextslicecap (sLen+m) sCap*i.bytes>2^48):=by
   have h1:=Nat.mul_le_mul_right i.bytes hcap
   have h2:2*(sLen+m)*i.bytes=2*((sLen+m)*i.bytes):=by rw[Nat.mul_assoc]
   rw[hB]at h1 h2⊢
   omega
  rcases hxu with⟨u,hdx⟩|hdx
  all_goals
   simp only[Builtin.append_,List.getElem?_toArray,List.getElem?_cons_zero,List.getElem?_cons_succ,ao,run_underlying hu,dL ht,run_underlying hdx,aG,Bool.false_eq_true,if_false,hl',hnl,eH hi,hb0,false_or,and_false,hn2,choose,Sem.run,Question.forced,Question.cut]
   generalize hnc:sLen+m+w.tape w.drawn (.appendCap (sLen+m) sCap elem) % (2^63 - (sLen+m))=newCap
   have ho':=ho {w with drawn:=w.drawn+1} rfl
   have hf'':=hf {w with drawn:=w.drawn+1} rfl
   have hzv:∀w',(zeroValue elem).run P w'= .ok z w':=λw'=>by simp only[zeroValue,ao,eH hi,hz1];rfl
   refine⟨newCap,(Builtin.zeroCells z.cells (newCap - (sLen+m))).toList,w.drawn+1,by omega,by rw[Array.length_toList,wh,hz2],?_⟩
   have harr:olds.toArray++ds.toArray++Builtin.zeroCells z.cells (newCap - (sLen+m))=(olds++ds++(Builtin.zeroCells z.cells (newCap - (sLen+m))).toList).toArray:=by
    apply Array.toList_inj.1;simp
   simp only[ao,oD,ho',hf'',hzv,newRow,newObj,aG,Sem.run,Bool.not_false,if_true,harr]
theorem St.drewTo{M:Mem}{w:World}(d:Nat)(h:St F M w L):St F M {w with drawn:=d} L:=
 {os:=h.os,tape:=h.tape,output:=h.output,size:=h.size,elder:=h.elder,fresh:=h.fresh,frame:=h.frame,mem:=h.mem,sep:=let⟨V,s,d⟩:=h.sep;⟨V,Sep.loc (w:=w) (λ_ _=>rfl) s,d⟩}
theorem St.renew{M:Mem}{w:World}{R R':Res}{i:Nat}{o:Obj}(h:St F M w L)(hi:L[i]? =some R)(hR:∀S,R.sat M S w→R'.sat M (λk=>k=w.heap.size) {w with heap:=w.heap.push o}):St F M {w with heap:=w.heap.push o} (L.set i R'):=by
 have hk:∀k,k<w.heap.size→(w.heap.push o)[k]? =w.heap[k]? :=λk hk=>by rw[Array.getElem?_push,if_neg (by omega)]
 have key:∀{L:List Res} {i:Nat} {V:Nat→Prop},Sep M w L V→L[i]? =some R→∃V',Sep M {w with heap:=w.heap.push o} (L.set i R') V'∧∀k,V' k→V k∨k=w.heap.size:=by
  intro L
  induction L with
  |nil=>intro i V _ hi;simp at hi
  |cons R1 L ih=>
   rintro i V ⟨S,V',r,s,d,e⟩ hi
   cases i with
   |zero=>
    simp only[List.getElem?_cons_zero,Option.some.injEq]at hi;subst hi
    refine⟨λk=>k=w.heap.size∨V' k,⟨_,V',hR S r,Sep.loc (λk hv=>hk k (s.has k hv)) s,?_,λ_=>Iff.rfl⟩,?_⟩
    ·rintro k rfl hv;exact absurd (s.has _ hv) (Nat.lt_irrefl _)
    ·rintro k (h|h)
     ·exact .inr h
     ·exact .inl ((e k).2 (.inr h))
   |succ i=>
    obtain⟨W,sw,hw⟩:=ih s (by simpa using hi)
    refine⟨λk=>S k∨W k,⟨S,W,R1.loc (λk hv=>hk k (R1.has r k hv)) r,sw,?_,λ_=>Iff.rfl⟩,?_⟩
    ·intro k hs hW
     rcases hw k hW with h|h
     ·exact d k hs h
     ·have:=R1.has r k hs;omega
    ·rintro k (h|h)
     ·exact .inl ((e k).2 (.inl h))
     ·rcases hw k h with h|h
      ·exact .inl ((e k).2 (.inr h))
      ·exact .inr h
 obtain⟨V,s,d⟩:=h.sep
 obtain⟨W,sw,hw⟩:=key s hi
 exact{
  os:=h.os,tape:=h.tape,output:=h.output,size:=by simp;exact Nat.le_succ_of_le h.size,elder:=h.elder,fresh:=h.fresh
  frame:=λk ob e=>by dsimp only;rw[hk k (h.flt e)];exact h.frame k ob e
  mem:=λk ob e=>by dsimp only;rw[hk k (h.lt e)];exact h.mem k ob e
  sep:=by
   refine⟨W,sw,λk hW=>?_⟩
   rcases hw k hW with hv|rfl
   ·exact d k hv
   ·constructor
    ·cases hm:M w.heap.size with
     |none=>rfl
     |some ob=>exact absurd (h.lt hm) (Nat.lt_irrefl _)
    ·cases hm:F.mem w.heap.size with
     |none=>rfl
     |some ob=>exact absurd (h.flt hm) (Nat.lt_irrefl _)}
def fG(P:Program)(t:T)(elem B:Nat):Bool:=aW P t elem&&(match P.info? elem with
 |some i=>Nat.beq i.bytes B&&(match i.zero with|some z=>Nat.beq z.cells.size t.size|none=>false)
 |none=>false)
theorem pz{t:T}{elem B:Nat}(h:fG P t elem B=true):aW P t elem=true∧∃i,P.info? elem=some i∧i.bytes=B∧∃z,i.zero=some z∧z.cells.size=t.size:=by
 simp only[fG,Bool.and_eq_true]at h
 refine⟨h.1,?_⟩
 have h2:=h.2
 split at h2
 ·rename_i i hi
  simp only[Bool.and_eq_true]at h2
  obtain⟨h3,h4⟩:=h2
  split at h4
  ·rename_i z hz;exact⟨i,hi,Nat.eq_of_beq_eq_true h3,z,hz,Nat.eq_of_beq_eq_true h4⟩
  ·cases h4
 ·cases h2
theorem uS{t:T}{M:Mem}(ho:zok t=true):∀k,RepL (Rep t M) (List.replicate k (zc t)).flatten (List.replicate k t.zero)
 |0=>rfl
 |k+1=>by rw[List.replicate_succ,List.replicate_succ,List.flatten_cons];exact⟨_,_,rfl,jH ho,uS ho k⟩
def pj(v:Value):Prop:=∀b o l c,v= .slice (some ⟨b,o,none⟩) l c→o=0
theorem wM(base:Option Addr){l c:Nat}(l' c':Nat):pj (.slice base l c)→pj (.slice base l' c'):=λh b o l2 c2 e=>by
 cases e
 exact h _ _ _ _ rfl
theorem Da(b l c:Nat):pj (.slice (some ⟨b,0,none⟩) l c):=λb' o l2 c2 e=>by cases e;rfl
theorem Db(l c:Nat):pj (.slice none l c):=λb' o l2 c2 e=>by cases e
theorem wN(hT:Tb.chk P=true){s x:Operand}{z v:Value}{elem B:Nat}{t:T}{xs ys:List t.D}{sT xT:TypeId}{d:Nat}{ty:TypeId}{pos:String}{after:Array Edge}(i:Nat)
  (hs:ev E s=some (.one (.raw z) v)) (hi:L[i]? =some (Res.own v elem t xs)) (src:Src P F n E L x t ys) (hsT:lk Tb.slices sT=some elem) (he:fG P t elem B=true) (hx:xr P xT=true) (hB:Nat.ble 1 B=true)
  (bU:(xs.length+ys.length)*B≤140737488355328) (hd:Nat.ble (d+1) n=true)
  (g:∀v',(pj v→pj v')→Go F n ((d,.one (.raw (.slice none 0 0)) v')::E) (L.set i (Res.own v' elem t (xs++ys))) (wpList P ops Q rest)):
  Go F n E L (wpList P ops Q (⟨some d,.call ⟨.builtin .append,#[s,x],#[sT,xT]⟩,ty,pos,after,none⟩::rest)):=λM a w c=>by
 obtain⟨ht,inf,hinf,hbytes,hzero⟩:=pz he
 obtain⟨ds,hds,hsrc⟩:=src M a w c
 have hdl:=RepL.length (s:=t.size) (λc x h=>Rep.size h) hds
 have hB1:1≤B:=Nat.le_of_ble_eq_true hB
 have hv:=(holds_raw.1 (aJ c hs)).1
 obtain⟨S,hsat⟩:=c.st.res hi
 have hred:∀{v':Value} {w':World},(Builtin.append_ #[sT,xT] ty #[v,a.eval x]).run P w= .ok v' w'→
   (execOp a.eval ⟨some d,.call ⟨.builtin .append,#[s,x],#[sT,xT]⟩,ty,pos,after,none⟩).run P w= .ok (.value v') w':=by
  intro v' w' h
  have: #[s,x].map a.eval= #[v,a.eval x]:=by simp[hv]
  simp only[execOp,resolve,ao,aG,invoke,Go.builtin,this,h]
 have hmost:xs.length+ys.length≤most:=by
  have:=Nat.le_mul_of_pos_right (xs.length+ys.length) hB1
  simp only[most];omega
 have hnd:Nat.le (d+1) n:=Nat.le_of_ble_eq_true hd
 have hform:∃base sCap olds,v= .slice base xs.length sCap∧RepL (Rep t M) olds xs∧(∀w':World,w'.heap=w.heap→(Builtin.firstCells t.size xs.length v).run P w'= .ok olds.toArray w'):=by
  rcases hsat with⟨⟨a0,rfl⟩,rfl,_⟩|⟨b,o,cap,rfl,h2,cc,fr,h3,h4,h5,h6,h7,h8⟩
  ·exact⟨a0,0,[],rfl,rfl,λw' _=>tw⟩
  ·refine⟨_,_,_,rfl,h4,λw' hw=>?_⟩
   have hm:=Nat.mul_le_mul_right t.size h6
   have:=gH (P:=P) (w:=w') (b:=b) (off:=o) (c:=cc) (el:=elem) (fr:=fr) (by rw[hw];exact h3) (xs.length*t.size) 0 #[] (by omega)
   simp only[Builtin.firstCells,loadCells,this]
   simp
 obtain⟨base,sCap,olds,hvf,holds,hol⟩:=hform
 have hol':=RepL.length (s:=t.size) (λc x h=>Rep.size h) holds
 obtain⟨hroom,hgrow⟩:=A1 (P:=P) (ty:=ty) (w:=w) (ds:=ds) (olds:=olds) (Tab.slice hT hsT) ht hx hinf hbytes hzero hB1 hvf (λw' h=>(hsrc w' h).1) (λw' h=>(hsrc w' h).2) hol bU
 by_cases hle:xs.length+ys.length≤sCap
 ·
  by_cases hcz:sCap=0
  ·subst hcz
   have hx0:xs=[]:=List.eq_nil_of_length_eq_zero (by omega)
   have hy:ys=[]:=List.eq_nil_of_length_eq_zero (by omega)
   subst hx0
   subst hy
   subst hvf
   have hd0:ds=[]:=List.eq_nil_of_length_eq_zero (by simpa using hdl)
   have hr:=hroom hle w (by subst hd0;cases base<;>rfl)
   refine dG (d:=d) rfl (by simp[Region.wanted]) (hred hr) (g _ (wM _ _ _) M _ _ (c.put (Mem.le.refl _) ?_ hnd (holds_raw.2 ⟨rfl,rfl⟩)))
   have:L.set i (Res.own (.slice base 0 0) elem t ([]++[]))=L:=by
    apply List.ext_getElem?
    intro j
    by_cases hj:i=j
    ·subst hj
     rw[List.getElem?_set_self (by
      rcases Nat.lt_or_ge i L.length with h|h
      ·exact h
      ·simp[List.getElem?_eq_none h]at hi),hi]
     rfl
    ·rw[List.getElem?_set_ne hj]
   show St F M w (L.set i (Res.own (.slice base 0 0) elem t ([]++[])))
   rw[this];exact c.st
  rcases hsat with⟨⟨a0,rfl⟩,rfl,hS⟩|⟨b,o,cap,rfl,h2,cc,fr,h3,h4,h5,h6,h7,h8⟩
  ·cases hvf;exact absurd rfl hcz
  ·cases hvf
   have hm:=Nat.mul_le_mul_right t.size hle
   rw[Nat.add_mul]at hm
   have hst:=ji (P:=P) (el:=elem) (fr:=fr) (off:=o+xs.length*t.size) ds 0 cc w h3 (by rw[hdl];omega) (by simpa using h8) (uR hds)
   have hr:=hroom hle _ (by simp only[kU,Nat.zero_add];exact hst)
   refine dG (d:=d) rfl (by simp[Region.wanted]) (hred hr) (g _ (wM _ _ _) M _ _ (c.put (Mem.le.refl _) ?_ hnd (holds_raw.2 ⟨rfl,rfl⟩)))
   refine c.st.turn hi (B:=λk=>k=b) ?_ ?_ ?_ rfl rfl rfl (by simp[fg])
   ·rintro S' hS'
    rcases hS' with⟨⟨_,h⟩,_,_⟩|⟨b',o',cap',h,h2',cc',fr',h3',_⟩
    ·injection h with _ _ h;exact absurd h hcz
    ·cases h
     refine .inr ⟨b,o,sCap,by simp,h2',(cc.toList.take (o+xs.length*t.size+0)++ds++cc.toList.drop (o+xs.length*t.size+0+ds.length)).toArray,fr,by rw[eA (cH h3)];simp,?_,?_,by simpa using hle,by simpa using hmost,?_⟩
     ·have e1:(xs++ys).length*t.size=xs.length*t.size+ds.length:=by rw[hdl,List.length_append,Nat.add_mul]
      rw[e1]
      have hcl:o+xs.length*t.size+ds.length≤cc.toList.length:=by simp;omega
      rw[Nat.add_zero,List.toList_toArray,wK hcl]
      exact RepL.append h4 hds
     ·simp;omega
     ·have hsz:(cc.toList.take (o+xs.length*t.size+0)++ds++cc.toList.drop (o+xs.length*t.size+0+ds.length)).toArray.size=cc.size:=by simp;omega
      rw[hsz];exact h8
   ·rintro S' hS' k rfl
    rcases hS' with⟨⟨_,h⟩,_,_⟩|⟨b',o',cap',h,h2',_⟩
    ·injection h with _ _ h;exact absurd h hcz
    ·cases h;exact(h2' _).2 rfl
   ·intro k hk;rw[eA (cH h3),if_neg (λh=>hk h.symm)]
 ·obtain⟨newCap,zs,dr,hnc,hzs,hr⟩:=hgrow (by omega)
  refine dG (d:=d) rfl (by simp[Region.wanted]) (hred hr) (g _ (λ_=>Da _ _ _) M _ _ (c.put (Mem.le.refl _) ?_ hnd (holds_raw.2 ⟨rfl,rfl⟩)))
  have hst:=St.drewTo dr c.st
  refine hst.renew (R':=Res.own (.slice (some ⟨w.heap.size,0,none⟩) (xs.length+ys.length) newCap) elem t (xs++ys)) (o:= .cells (olds++ds++zs).toArray elem) hi ?_
  intro S' _
  refine .inr ⟨w.heap.size,0,newCap,by simp,λk=>Iff.rfl,(olds++ds++zs).toArray,(0,0),by simp,?_,?_,by simpa using hnc,by simpa using hmost,iz _⟩
  ·have e1:(xs++ys).length*t.size=(olds++ds).length:=by rw[List.length_append,Nat.add_mul,List.length_append,hol',hdl]
   rw[e1]
   have e2:((olds++ds++zs).toArray.toList.drop 0).take (olds++ds).length=olds++ds:=by rw[List.drop_zero];exact List.take_left
   rw[e2]
   exact RepL.append holds hds
  ·simp only[List.size_toArray,List.length_append,hol',hdl,hzs,Nat.zero_add]
   rw[←Nat.add_mul,←Nat.add_mul]
   congr 1;omega
theorem bd(hT:Tb.chk P=true){s x:Operand}{z v:Value}{elem B:Nat}{t:T}{xs ys:List t.D}{sT xT:TypeId}{d:Nat}{ty:TypeId}{pos:String}{after:Array Edge}(i:Nat)
  (hs:ev E s=some (.one (.raw z) v)) (hi:L[i]? =some (Res.own v elem t xs)) (src:Src P F n E L x t ys) (hsT:lk Tb.slices sT=some elem) (he:fG P t elem B=true) (hx:xr P xT=true) (hB:Nat.ble 1 B=true)
  (bU:(xs.length+ys.length)*B≤140737488355328) (hd:Nat.ble (d+1) n=true)
  (g:∀v',Go F n ((d,.one (.raw (.slice none 0 0)) v')::E) (L.set i (Res.own v' elem t (xs++ys))) (wpList P ops Q rest)):
  Go F n E L (wpList P ops Q (⟨some d,.call ⟨.builtin .append,#[s,x],#[sT,xT]⟩,ty,pos,after,none⟩::rest)):=
 wN hT i hs hi src hsT he hx hB bU hd λv' _=>g v'
end
theorem Fz{α:Type}{l ds:List α}{J p U S N:Nat}(h1:J+S≤N)(h2:N≤l.length)(h3:p+U≤S)(h4:ds.length=U):
  l.take J++((((l.drop J).take S).take p)++ds++((l.drop J).take S).drop (p+U))++(l.take N).drop (J+S)=(l.take (J+p)++ds++l.drop (J+p+U)).take N:=by
 have hA:(l.take (J+p)).length=J+p:=by simp;omega
 have hAd:(l.take (J+p)++ds).length=J+p+U:=by rw[List.length_append,hA,h4]
 have e1:(l.take (J+p)++ds++l.drop (J+p+U)).take N=l.take (J+p)++ds++(l.drop (J+p+U)).take (N - (J+p+U)):=by
  rw[List.take_append,hAd,List.take_of_length_le (by rw[hAd];omega)]
 rw[e1,List.take_take,Nat.min_eq_left (by omega),List.take_add (i:=J) (j:=p)]
 have e2:(l.drop (J+p+U)).take (N - (J+p+U))=((l.drop J).take S).drop (p+U)++(l.take N).drop (J+S):=by
  rw[List.drop_take,List.drop_drop,List.drop_take]
  have e3:N - (J+p+U)=(S - (p+U))+(N - (J+S)):=by omega
  rw[e3,List.take_add,List.drop_drop]
  have e4:J+(p+U)=J+p+U:=by omega
  have e5:J+p+U+(S - (p+U))=J+S:=by omega
  rw[e4,e5]
 rw[e2];simp[List.append_assoc]
theorem wO{α:Type}{l ds:List α}{o k u:Nat}(h:o≤l.length):(l.take (o+k)++ds++l.drop (o+k+u)).drop o=(l.drop o).take k++ds++(l.drop o).drop (k+u):=by
 have h0:l.take (o+k)=l.take o++(l.drop o).take k:=List.take_add
 have h1:(l.take o).length=o:=by simp;omega
 rw[h0,List.append_assoc,List.append_assoc,List.drop_left' h1,List.drop_drop,List.append_assoc,Nat.add_assoc]
section
variable {P:Program}{Tb:Tab}{F:Fr}{n:Nat}{E E':Env}{L:List Res}{ops:Array Oper}{Q:Exit→Act→World→Prop}{rest:List Oper}{X:Act→World→Prop}
theorem ce{v:Value}{e:TypeId}{t:T}{xs:List t.D}(i:Nat)(hi:L[i]? =some (Res.own v e t xs))(h0:0<xs.length)(g:∀b o cap,v= .slice (some ⟨b,o,none⟩) xs.length cap→Go F n E L X):Go F n E L X:=λM a w c=>by
 obtain⟨S,hs⟩:=c.st.res hi
 rcases hs with⟨_,rfl,_⟩|⟨b,o,cap,hv,_⟩
 ·simp at h0
 ·exact g b o cap hv M a w c
theorem cx{R:World→World→Prop}(hT:Tb.chk P=true){x ix:Operand}{z:Value}{b off len cap:Nat}{u:T}{tid el:TypeId}{k:IntKind}{i:Int}(hx:ev E x=some (.one (.raw z) (.slice (some ⟨b,off,none⟩) len cap)))(hix:ev E ix=some (.one (.int k) i))(h0:0≤i)(h1:i<len)
  (hl:lk Tb.slices tid=some el) (ht:aW P u el=true):Yields R P F n E L (.indexAddr tid x ix) (ptr b (off+i.toNat*u.size)):=λo ho M a w c=>by
 have h2:=(holds_raw.1 (aJ c hx)).1
 have hiv:=(holds_int.1 (aJ c hix)).1
 refine⟨_,holds_raw.2 ⟨rfl,rfl⟩,λw' _=>?_⟩
 obtain⟨dst,op,ty,pos,after,guard⟩:=o
 simp only at ho;subst ho
 refine bz ?_
 rw[h2,hiv]
 unfold Instr.indexAt
 have hc:0≤i∧i<(len:Int):=⟨h0,h1⟩
 simp only[ao,asIntOf,aG,run_underlying (Tab.slice hT hl),hc,and_self,if_true,dL ht,kU]
theorem dE{x:Operand}{z:Value}{b o0 off len cap:Nat}{e:TypeId}{t u:T}{xs:List t.D}{tid:TypeId}(i j:Nat)(p:Pth t u)(hx:ev E x=some (.one (.raw z) (.pointer (some ⟨b,off,none⟩))))(hi:L[i]? =some (Res.own (.slice (some ⟨b,o0,none⟩) len cap) e t xs))
  (hj:j<xs.length) (hp:o0+j*t.size+p.off=off) (hok:p.ok) (ht:aW P u tid=true):Yields Same P F n E L (.load tid x) (.one u (p.get (xs.getD j t.zero))):=λo ho M a w c=>by
 obtain⟨S,hs⟩:=c.st.res hi
 rcases hs with⟨_,h,_⟩|⟨b',o',cap',h,h2,cc,fr,h3,h4,h5,h6,h7,h8⟩
 ·rw[h]at hj;simp at hj
 ·cases h
  have hget:xs[j]? =some (xs.getD j t.zero):=by simp[List.getD,hj]
  have hrep:=RepL.get (s:=t.size) (λc x h=>Rep.size h) h4 hget
  have hm:j*t.size+t.size≤xs.length*t.size:=by rw[←Nat.succ_mul];exact Nat.mul_le_mul_right _ hj
  have hm2:=Nat.mul_le_mul_right t.size h6
  have hf:=p.fits hok
  have e1:(((cc.toList.drop o0).take (xs.length*t.size)).drop (j*t.size)).take t.size=(cc.toList.drop (o0+j*t.size)).take t.size:=by
   rw[List.drop_take,List.take_take,Nat.min_eq_left (by omega),List.drop_drop]
  rw[e1]at hrep
  have hr2:=Rep.get p hok hrep
  rw[gQ _ _ _ _ _ hf,hp]at hr2
  refine⟨_,⟨_,rfl,hr2⟩,λw' hsm=>?_⟩
  have hb':w'.heap[b]? =some (.cells cc e fr):=by rw[hsm b (cH h3)];exact h3
  have key:=jn (P:=P) (w:=w') ht hb' (by omega) hr2
  obtain⟨dst,op,ty,pos,after,guard⟩:=o
  simp only at ho;subst ho
  have h1:=(holds_raw.1 (aJ c hx)).1
  exact bz (by rw[h1];simp only[Instr.loadAt,Instr.sureAddr,ao,aG];exact key)
theorem mw{x y':Operand}{z:Value}{b o0 off len cap:Nat}{e:TypeId}{t u:T}{xs:List t.D}{yv:u.D}{tid:TypeId}{ty:TypeId}{pos:String}{after:Array Edge}(i j:Nat)(p:Pth t u)(hx:ev E x=some (.one (.raw z) (.pointer (some ⟨b,off,none⟩))))(hy:ev E y'=some (.one u yv))
  (hi:L[i]? =some (Res.own (.slice (some ⟨b,o0,none⟩) len cap) e t xs)) (hj:j<xs.length) (hp:o0+j*t.size+p.off=off) (hok:p.ok) (ht:aW P u tid=true)
  (g:Go F n E (L.set i (Res.own (.slice (some ⟨b,o0,none⟩) len cap) e t (xs.set j (p.set (xs.getD j t.zero) yv)))) (wpList P ops Q rest)):Go F n E L (wpList P ops Q (⟨none,.store tid x y',ty,pos,after,none⟩::rest)):=λM a w c=>by
 obtain⟨S,hs⟩:=c.st.res hi
 rcases hs with⟨_,h,_⟩|⟨b',o',cap',h,h2,cc,fr,h3,h4,h5,h6,h7,h8⟩
 ·rw[h]at hj;simp at hj
 ·cases h
  have hget:xs[j]? =some (xs.getD j t.zero):=by simp[List.getD,hj]
  have hrep:=RepL.get (s:=t.size) (λc x h=>Rep.size h) h4 hget
  have hm:j*t.size+t.size≤xs.length*t.size:=by rw[←Nat.succ_mul];exact Nat.mul_le_mul_right _ hj
  have hm2:=Nat.mul_le_mul_right t.size h6
  have hf:=p.fits hok
  have hcl:cc.toList.length=o0+cap*t.size:=by simpa using h5
  have h1:=(holds_raw.1 (aJ c hx)).1
  obtain⟨ds,hds,hrun⟩:=pU (P:=P) (w:=w) ht h3 (off:=off) (by omega) h8 (aJ c hy)
  have hdl:=hds.size
  unfold wpList
  rw[if_pos (by simp[Region.wanted])]
  left
  unfold Oper.wp
  have he:(execOp a.eval ⟨none,.store tid x y',ty,pos,after,none⟩).run P w= .ok .skip (fg w b (.cells (cc.toList.take off++ds++cc.toList.drop (off+u.size)).toArray e fr)):=by
   simp only[execOp,ao,h1,Instr.storeAt,Instr.sureAddr,aG,hrun]
  rw[he,Oper.upon_skip]
  refine g M _ _ (c.same (Mem.le.refl _) (c.st.turn hi (B:=λk=>k=b) ?_ ?_ ?_ rfl rfl rfl (by simp[fg])))
  ·rintro S' hS'
   rcases hS' with⟨_,h,_⟩|⟨b',o',cap',h,h2',_⟩
   ·rw[h]at hj;simp at hj
   ·cases h
    have hsz:(cc.toList.take off++ds++cc.toList.drop (off+u.size)).toArray.size=cc.size:=by simp;omega
    refine .inr ⟨b,o0,cap,by simp,h2',(cc.toList.take off++ds++cc.toList.drop (off+u.size)).toArray,fr,by rw[eA (cH h3)];simp,?_,by rw[hsz];exact h5,by simpa using h6,by simpa using h7,by rw[hsz];exact h8⟩
    have e1:(((cc.toList.drop o0).take (xs.length*t.size)).drop (j*t.size)).take t.size=((cc.toList.drop o0).drop (j*t.size)).take t.size:=by
     rw[List.drop_take,List.take_take,Nat.min_eq_left (by omega)]
    have hset:=Rep.set p hok hrep hds
    have:=RepL.set (s:=t.size) (λc x h=>Rep.size h) h4 hj hset
    have e2:List.take (j*t.size) ((cc.toList.drop o0).take (xs.length*t.size))++(List.take p.off ((((cc.toList.drop o0).take (xs.length*t.size)).drop (j*t.size)).take t.size)++ds++List.drop (p.off+u.size) ((((cc.toList.drop o0).take (xs.length*t.size)).drop (j*t.size)).take t.size))++List.drop (j*t.size+t.size) ((cc.toList.drop o0).take (xs.length*t.size))
      =List.take ((xs.set j (p.set (xs.getD j t.zero) yv)).length*t.size) ((cc.toList.take off++ds++cc.toList.drop (off+u.size)).drop o0):=by
     rw[e1,List.length_set,←hp]
     have:=Fz (l:=cc.toList.drop o0) (ds:=ds) (J:=j*t.size) (p:=p.off) (U:=u.size) (S:=t.size) (N:=xs.length*t.size) hm (by rw[List.length_drop];omega) hf hdl
     rw[List.take_take,Nat.min_eq_left (by omega)]
     refine this.trans ?_
     congr 1
     rw[Nat.add_assoc o0,wO (by omega)]
    rw[e2]at this
    simpa using this
  ·rintro S' hS' k rfl
   rcases hS' with⟨_,h,_⟩|⟨b',o',cap',h,h2',_⟩
   ·rw[h]at hj;simp at hj
   ·cases h;exact(h2' _).2 rfl
  ·intro k hk;rw[eA (cH h3),if_neg (λh=>hk h.symm)]
theorem bW{R:World→World→Prop}(hT:Tb.chk P=true){x:Operand}{z v:Value}{e:TypeId}{t:T}{xs:List t.D}{tid el:TypeId}(i:Nat)(hx:ev E x=some (.one (.raw z) v))(hi:L[i]? =some (Res.own v e t xs))(hl:lk Tb.slices tid=some el):
  Yields R P F n E L (.call ⟨.builtin .len,#[x],#[tid]⟩) (.one (.int .i64) xs.length):=λo ho M a w c=>by
 obtain⟨S,hs⟩:=c.st.res hi
 have hv:=(holds_raw.1 (aJ c hx)).1
 have hform:∃base cap,v= .slice base xs.length cap∧xs.length≤most:=by
  rcases hs with⟨⟨a0,rfl⟩,rfl,_⟩|⟨b,o',cap,rfl,h2,cc,fr,h3,h4,h5,h6,h7,h8⟩
  ·exact⟨_,0,rfl,by simp[most]⟩
  ·exact⟨_,_,rfl,h7⟩
 obtain⟨base,cap,e1,hm⟩:=hform
 refine⟨.int .i64 xs.length,holds_int.2 ⟨rfl,by simp only[rng,lo,Sx.hi,most]at*;omega⟩,λw' _=>?_⟩
 obtain⟨dst,op,ty,pos,after,guard⟩:=o
 simp only at ho;subst ho
 simp only[execOp,resolve,ao,aG,invoke,Go.builtin]
 have: #[x].map a.eval= #[a.eval x]:=by simp
 rw[this,hv,e1]
 simp only[Builtin.len_,List.getElem?_toArray,List.getElem?_cons_zero,ao,run_underlying (Tab.slice hT hl)]
 rfl
inductive EvAll(E:Env)(u:T):Nat→List (Nat×Operand)→List u.D→Prop
 |nil {k:Nat}:EvAll E u k [] []
 |cons {k:Nat} {x:Operand} {y:u.D} {l:List (Nat×Operand)} {ys:List u.D} (h:ev E x=some (.one u y)) (r:EvAll E u (k+1) l ys):EvAll E u k ((k,x)::l) (y::ys)
theorem tx:∀(ds:List Value) (k off:Nat) (cs:Array Value),off+k+ds.length≤cs.size→
  ((ds.zipIdx k).foldl (λcs (p:Value×Nat)=>cs.setIfInBounds (off+p.2) p.1) cs).toList=cs.toList.take (off+k)++ds++cs.toList.drop (off+k+ds.length)
 |[],k,off,cs,_=>by simp
 |d::ds,k,off,cs,h=>by
  simp only[List.length_cons]at h
  rw[List.zipIdx_cons,List.foldl_cons,tx ds (k+1) off _ (by simp;omega)]
  have hl:off+k<cs.toList.length:=by simp;omega
  simp only[Array.toList_setIfInBounds]
  rw[←Nat.add_assoc,List.take_add_one]
  simp only[List.getElem?_set_self hl,Option.toList_some,List.take_set_of_le (Nat.le_refl _)]
  rw[List.drop_set_of_lt (by omega)]
  simp[Nat.add_assoc,Nat.add_comm,Nat.add_left_comm]
theorem xQ{u:T}{M:Mem}{a:Act}{w:World}(c:Cfg F M n E L a w):∀{l:List (Nat×Operand)} {k:Nat} {ys:List u.D},EvAll E u k l ys→∀(cs:Array Value),(k+l.length)*u.size≤cs.size→
  ∃ds,RepL (Rep u M) ds ys∧(∃r,Instr.fill (λi=>some (i*u.size,u.size)) cs (l.map λp=>(p.1,a.eval p.2))=some r∧r.toList=cs.toList.take (k*u.size)++ds++cs.toList.drop (k*u.size+ds.length))
 |_,k,_,.nil,cs,h=>⟨[],rfl,cs,rfl,by simp⟩
 |_,k,_,.cons (x:=x) (y:=y) (l:=l) (ys:=ys) hx r,cs,h=>by
  have hr:=(aJ c hx).cells
  have hsz:=hr.size
  have hsz':(a.eval x).cells.size=u.size:=by simpa using hsz
  simp only[List.length_cons]at h
  have h':(k+1+l.length)*u.size≤cs.size:=by rw[show k+1+l.length=k+(l.length+1)by omega];exact h
  have e1:(k+1)*u.size=k*u.size+u.size:=by rw[Nat.add_mul];omega
  have h2:(k+1)*u.size≤cs.size:=Nat.le_trans (Nat.mul_le_mul_right _ (by omega)) h'
  have hf:=tx (a.eval x).cells.toList 0 (k*u.size) cs (by rw[hsz];omega)
  have hzip:(a.eval x).cells.zipIdx.foldl (λcs (p:Value×Nat)=>cs.setIfInBounds (k*u.size+p.2) p.1) cs=((a.eval x).cells.toList.zipIdx 0).foldl (λcs (p:Value×Nat)=>cs.setIfInBounds (k*u.size+p.2) p.1) cs:=by
   rw[←Array.foldl_toList];simp
  generalize ((a.eval x).cells.toList.zipIdx 0).foldl (λcs (p:Value×Nat)=>cs.setIfInBounds (k*u.size+p.2) p.1) cs=cs' at hf hzip
  have hl':cs'.size=cs.size:=by
   have:=congrArg List.length hf
   simp only[List.length_append,List.length_take,List.length_drop,Array.length_toList,hsz,Nat.add_zero]at this
   rw[this];omega
  obtain⟨ds,hds,res,hfill,hres⟩:=xQ c r cs' (by rw[hl'];exact h')
  refine⟨(a.eval x).cells.toList++ds,⟨_,_,rfl,hr,hds⟩,res,?_,?_⟩
  ·simp only[List.map_cons,Instr.fill]
   rw[if_neg (by rw[hsz'];simp;omega),hzip]
   exact hfill
  ·rw[hres,hf,hsz,e1]
   simp only[Nat.add_zero]
   have bU:(cs.toList.take (k*u.size)++(a.eval x).cells.toList).length=k*u.size+u.size:=by simp[hsz'];omega
   rw[List.take_append_of_le_length (by omega),List.take_of_length_le (by omega),List.drop_append,bU]
   rw[List.drop_of_length_le (by rw[bU];omega)]
   simp only[List.nil_append,List.append_assoc,List.drop_drop,List.length_append,hsz]
   congr 3
   congr 1
   omega
theorem bu(hT:Tb.chk P=true){tid elem B len:Nat}{t:T}{ys:List t.D}{l:List (Nat×Operand)}{d:Nat}{ty:TypeId}{pos:String}{after:Array Edge}(hl:lk Tb.slices tid=some elem)(he:fG P t elem B=true)(bU:Nat.beq l.length len=true)(hsm:Nat.ble (len*t.size) 16777216=true)(hm:Nat.ble len 1000000=true)
  (ha:EvAll E t 0 l ys) (hd:Nat.ble (d+1) n=true) (g:∀v,Go F n ((d,.one (.raw (.slice none 0 0)) v)::E) (Res.own v elem t ys::L) (wpList P ops Q rest)):
  Go F n E L (wpList P ops Q (⟨some d,.buildSlice tid len l.toArray,ty,pos,after,none⟩::rest)):=λM a w c=>by
 obtain⟨ht,inf,hinf,hbytes,z,hz1,hz2⟩:=pz he
 have bU:=Nat.eq_of_beq_eq_true bU
 have hsm:=Nat.le_of_ble_eq_true hsm
 have hys:ys.length=len:=by
  have:∀{k:Nat} {l:List (Nat×Operand)} {ys:List t.D},EvAll E t k l ys→ys.length=l.length:=by
   intro k l ys h
   induction h with
   |nil=>rfl
   |cons _ _ ih=>simp[ih]
  rw[this ha,bU]
 obtain⟨ds,hds,r,hfill,hr⟩:=xQ c ha ((Array.range (len*t.size)).map ((if len*t.size=0 then(#[]:Array Value)else z.cells)[·% (if len*t.size=0 then(#[]:Array Value)else z.cells).size]!)) (by simp[bU])
 have hdl:=RepL.length (s:=t.size) (λc x h=>Rep.size h) hds
 have hr':r=ds.toArray:=by
  apply Array.toList_inj.1
  rw[hr]
  simp only[Nat.zero_mul,List.take_zero,List.nil_append,Nat.zero_add]
  rw[List.drop_of_length_le (by simp[hdl,hys])]
  simp
 have hrun:(execOp a.eval ⟨some d,.buildSlice tid len l.toArray,ty,pos,after,none⟩).run P w= .ok (.value (.slice (some ⟨w.heap.size,0,none⟩) len len)) {w with heap:=w.heap.push (.cells ds.toArray elem)}:=by
  simp only[execOp]
  refine bz ?_
  unfold Instr.buildSlice
  have hmap:(l.toArray.map λx=>match x with|(i,x)=>(i,a.eval x)).toList=l.map λp=>(p.1,a.eval p.2):=by simp
  have hzv:(zeroValue elem).run P w= .ok z w:=by simp only[zeroValue,ao,eH hinf,hz1];rfl
  simp only[ao,run_underlying (Tab.slice hT hl),dL ht]
  rw[if_neg (by omega)]
  by_cases h0:len*t.size=0
  ·simp only[if_pos h0]at hfill⊢
   simp only[ao,aG,hmap,hfill]
   simp only[hr',newRow,newObj,ao,aG,Sem.run]
  ·simp only[if_neg h0]at hfill⊢
   simp only[ao,aG,hzv,hmap,hfill]
   simp only[hr',newRow,newObj,ao,aG,Sem.run]
 refine dG (d:=d) rfl (by simp[Region.wanted]) hrun (g _ M _ _ (c.put (Mem.le.refl _) (c.st.new ?_) (Nat.le_of_ble_eq_true hd) (holds_raw.2 ⟨rfl,rfl⟩)))
 refine .inr ⟨w.heap.size,0,len,by rw[hys],λk=>Iff.rfl,ds.toArray,(0,0),by simp,?_,by simp[hdl,hys],by omega,?_,iz _⟩
 ·have e1:ys.length*t.size=ds.length:=hdl.symm
  rw[e1]
  simpa using hds
 ·have:=Nat.le_of_ble_eq_true hm
  simp only[most];omega
end
section
variable {P:Program}{ops:Array Oper}{md:Region.Mode}{Q:Exit→Act→World→Prop}
def iR(Q:Exit→Act→World→Prop):Prop:=∀ch a d v w,Q (.panic ch) (Act.put a d v) w→Q (.panic ch) a w
theorem A3{fn:Func}{R:Ending→World→Prop}:iR (bodyPost P fn R):=λch a d v w h=>by
 cases d<;>exact h
theorem A4{K:Act→World→Prop}(h:iR Q):iR (Exit.then K Q):=λch a d v w g=>h ch a d v w g
theorem zC{id:Nat}(h:iR Q):iR (Exit.inBlock id Q):=λch a d v w g=>h ch a d v w g
theorem Dc{j:Nat}{oi oj:Oper}{v:Value}(hQ:iR Q)(hj:ops[j]? =some oj)(hap:oi.apart ops oj=true)(hsj:∀cs b,oj.op≠.select cs b){K:Act→World→Prop}{a:Act}{w:World}
  (h:wpOp P ops Q j K (a.put oi.dst v) w):wpOp P ops Q j (λa' w'=>K (a'.put oi.dst v) w') a w:=by
 obtain⟨h1,h2,h3⟩:=Oper.apart_spec hap
 unfold wpOp at*
 simp only[hj]at*
 rw[wanted_put oj a oi.dst v h1]at h
 split
 ·rename_i hw
  simp only[hw,if_true]at h
  rcases h with h|⟨h,hl⟩
  ·left
   unfold Oper.wp at*
   rw[execOp_put oj hsj a oi.dst v h1]at h
   generalize (execOp a.eval oj).run P w=r at*
   cases r with
   |ok n w'=>
    cases n<;>simp only[Oper.upon]at h⊢
    case value u=>rw[←Act.put_comm a v u h2];exact h
    case skip=>rw[←Act.put_comm a v undef h2];exact h
    case defer d=>
     have e:(({a with defers:=d::a.defers}:Act).put oj.dst undef).put oi.dst v=({a.put oi.dst v with defers:=d::(a.put oi.dst v).defers}:Act).put oj.dst undef:=by
      rw[Act.put_defers]
      exact(Act.put_comm ({a with defers:=d::a.defers}:Act) v undef h2).symm
     rw[e];exact h
    case enter f args=>
     refine Calls.mono h λe w'' he=>?_
     cases e with
     |returned u=>simp only at he⊢;rw[←Act.put_comm a v u h2];exact he
     |panicked ch=>exact hQ _ _ _ _ _ he
     |outgrown=>exact he
    case row row args=>
     refine Rows.mono h λu w'' he=>?_
     rw[←Act.put_comm a v u h2];exact he
   |halt x w'=>
    cases x<;>simp only[Oper.upon]at h⊢
    exact hQ _ _ _ _ _ h
  ·right
   refine⟨?_,hl⟩
   unfold Oper.asks at*
   rw[execOp_put oj hsj a oi.dst v h1]at h
   exact h
 ·rename_i hw
  simp only[hw]at h
  rw[←Act.put_comm a v undef h2]
  exact h
def Floats(P:Program)(ops:Array Oper)(o:Oper)(v:Value)(a:Act):Prop:=
 (Region.wanted o (yielded ops a.tmps)=true∧∀w,(execOp a.eval o).run P w= .ok (.value v) w)∨(Region.wanted o (yielded ops a.tmps)=false∧v=undef)
theorem Floats.op{i:Nat}{o:Oper}{v:Value}{a:Act}{w:World}(hi:ops[i]? =some o)(hf:Floats P ops o v a){K:Act→World→Prop}(h:K (a.put o.dst v) w):wpOp P ops Q i K a w:=by
 unfold wpOp
 simp only[hi]
 rcases hf with⟨hw,hr⟩|⟨hw,rfl⟩
 ·simp only[hw,if_true]
  left
  unfold Oper.wp
  rw[hr w];exact h
 ·simp only[hw,Bool.false_eq_true,if_false];exact h
theorem Floats.put{oi oj:Oper}{v u:Value}{a:Act}(hap:oi.apart ops oj=true)(hsi:∀cs b,oi.op≠.select cs b)(hf:Floats P ops oi v a):Floats P ops oi v (a.put oj.dst u):=by
 obtain⟨_,_,h3⟩:=Oper.apart_spec hap
 unfold Floats at*
 rw[wanted_put oi a oj.dst u h3,execOp_put oi hsi a oj.dst u h3]
 exact hf
theorem BV{j:Nat}{oj:Oper}(hj:ops[j]? =some oj){K:Act→World→Prop}{G:Act→Prop}{a:Act}{w:World}(hG:∀u,G (a.put oj.dst u))(hd:∀d u,G (({a with defers:=d::a.defers}:Act).put oj.dst u))(h:wpOp P ops Q j K a w):
  wpOp P ops Q j (λa' w'=>G a'∧K a' w') a w:=by
 unfold wpOp at*
 simp only[hj]at*
 split
 ·rename_i hw
  simp only[hw,if_true]at h
  refine h.imp ?_ id
  intro h
  unfold Oper.wp at*
  generalize (execOp a.eval oj).run P w=r at*
  cases r with
  |ok n w'=>
   cases n<;>simp only[Oper.upon]at h⊢
   case value=>exact⟨hG _,h⟩
   case skip=>exact⟨hG _,h⟩
   case defer=>exact⟨hd _ _,h⟩
   case enter f args=>
    refine Calls.mono h λe w'' he=>?_
    cases e with
    |returned u=>exact⟨hG u,he⟩
    |panicked ch=>exact he
    |outgrown=>exact he
   case row row args=>exact Rows.mono h λu w'' he=>⟨hG u,he⟩
  |halt x w'=>cases x<;>simp only[Oper.upon]at h⊢;exact h
 ·rename_i hw
  simp only[hw]at h
  exact⟨hG _,h⟩
theorem qH{i:Nat}{oi:Oper}{v:Value}(hQ:iR Q)(hi:ops[i]? =some oi)(hsel:∀(j:Nat) (o:Oper) cs b,ops[j]? =some o→o.op≠.select cs b):
  ∀(fuel:Nat) (listed:Array Bool) (a:Act) (w:World),
   (∀j oj,ops[j]? =some oj→j≠i→listed.getD j true=false→(∀e∈oj.after,Region.binds md e=true→e.on≠i)→oi.apart ops oj=true)→
   i∈Region.ready md ops listed→Floats P ops oi v a→
   wpAny P md ops Q fuel (listed.setIfInBounds i true) (a.put oi.dst v) w→wpAny P md ops Q (fuel+1) listed a w:=by
 intro fuel
 induction fuel with
 |zero=>
  intro listed a w _ hr hy H
  refine⟨λh=>(by rw[h]at hr;cases hr),λj hj=>?_⟩
  by_cases hji:j=i
  ·subst hji;exact hy.op hi H
  ·have:=ready_mono hj hji
   rw[H.1]at this
   cases this
 |succ fuel ih=>
  intro listed a w hfree hr hy H
  refine⟨λh=>(by rw[h]at hr;cases hr),λj hj=>?_⟩
  by_cases hji:j=i
  ·subst hji;exact hy.op hi H
  ·have h1:=H.2 j (ready_mono hj hji)
   obtain⟨hjun,oj,hoj,hall⟩:=mem_ready.1 hj
   have hnot:∀e∈oj.after,Region.binds md e=true→e.on≠i:=λe he hb heq=>by
    have h1:=hall e he hb
    have h0:=(mem_ready.1 hr).1
    rw[heq]at h1
    rcases Nat.lt_or_ge i listed.size with h'|h'
    ·simp[h']at h0 h1;rw[h0]at h1;cases h1
    ·simp[Array.getElem?_eq_none h']at h1
   have hap:=hfree j oj hoj hji hjun hnot
   have h2:=Dc hQ hoj hap (λcs b=>hsel j oj cs b hoj) h1
   have h3:=BV (G:=λa'=>Floats P ops oi v a') hoj (λu=>hy.put hap (λcs b=>hsel i oi cs b hi)) (λd u=>(show Floats P ops oi v (({a with defers:=d::a.defers}:Act).put oj.dst u)from Floats.put (a:=({a with defers:=d::a.defers}:Act)) hap (λcs b=>hsel i oi cs b hi) hy)) h2
   have hfree':∀k ok,ops[k]? =some ok→k≠i→(listed.setIfInBounds j true).getD k true=false→
     (∀e∈ok.after,Region.binds md e=true→e.on≠i)→oi.apart ops ok=true:=λk ok hk hki hun hno=>by
    refine hfree k ok hk hki ?_ hno
    by_cases hjk:j=k
    ·subst hjk;exact hjun
    ·rw[getD_set_ne true hjk]at hun;exact hun
   refine wpOp_mono (λa' w' h4=>ih (listed.setIfInBounds j true) a' w' hfree' (ready_mono hr (Ne.symm hji)) h4.1 ?_) h3
   rw[Array.setIfInBounds_comm _ _ hji]
   exact h4.2
end
section
variable {P:Program}{Tb:Tab}{F:Fr}{n:Nat}{E E':Env}{L:List Res}{ops:Array Oper}{Q:Exit→Act→World→Prop}{K:Act→World→Prop}
theorem dS{id:Nat}{l:List Oper}(hm:P.follows .mixedOrders=true)(g:Go F n E L (wpAny P .any l.toArray Q l.toArray.size (Array.replicate l.toArray.size false))):Go F n E L ((Code.region id l.toArray true).wp P Q):=
 λM a _ c=>wp_region_any hm (g M a _ {c with st:=c.st.drew})
theorem aN{listed:Array Bool}(hr:Region.ready .any ops listed=[])(g:Go F n E L (Q .normal)):Go F n E L (wpAny P .any ops Q 0 listed):=λM a w c=>⟨hr,g M a w c⟩
theorem gr{i:Nat}{o:Oper}(hi:ops[i]? =some o){a:Act}{w:World}(h:wpList P ops (Exit.then K Q) [o] a w):wpOp P ops Q i K a w:=by
 unfold wpOp
 simp only[hi]
 unfold wpList at h
 split
 ·rename_i hw
  simp only[hw,if_true]at h
  refine h.imp (λh=>?_) (λ⟨h,b,v,q⟩=>⟨h,b,v,q⟩)
  unfold Oper.wp at*
  generalize (execOp a.eval o).run P w=r at*
  cases r with
  |ok n w'=>
   cases n<;>simp only[Oper.upon]at h⊢<;>first
    |exact h
    |exact Calls.mono h (λe w'' he=>by cases e<;>first|exact he|(obtain⟨b,v,q⟩:=he;exact⟨b,v,q⟩))
    |exact Rows.mono h (λ_ _ he=>he)
  |halt x w'=>cases x<;>simp only[Oper.upon]at h⊢;exact h
 ·rename_i hw
  simp only[hw]at h
  exact h
theorem Gu{fuel i:Nat}{o:Oper}{listed:Array Bool}(hr:Region.ready .any ops listed=[i])(hi:ops[i]? =some o)(g:Go F n E L (wpList P ops (Exit.then (wpAny P .any ops Q fuel (listed.setIfInBounds i true)) Q) [o])):
  Go F n E L (wpAny P .any ops Q (fuel+1) listed):=λM a w c=>by
 refine⟨λh=>(by rw[hr]at h;cases h),λj hj=>?_⟩
 rw[hr]at hj
 obtain rfl:=List.mem_singleton.1 hj
 exact gr hi (g M a w c)
theorem br{fuel i j:Nat}{o o':Oper}{listed:Array Bool}(hr:Region.ready .any ops listed=[i,j])(hi:ops[i]? =some o)(hj:ops[j]? =some o')(g:Go F n E L (wpList P ops (Exit.then (wpAny P .any ops Q fuel (listed.setIfInBounds i true)) Q) [o]))
  (g':Go F n E L (wpList P ops (Exit.then (wpAny P .any ops Q fuel (listed.setIfInBounds j true)) Q) [o'])):
  Go F n E L (wpAny P .any ops Q (fuel+1) listed):=λM a w c=>by
 refine⟨λh=>(by rw[hr]at h;cases h),λk hk=>?_⟩
 rw[hr]at hk
 rcases List.mem_cons.1 hk with rfl|hk
 ·exact gr hi (g M a w c)
 ·obtain rfl:=List.mem_singleton.1 hk
  exact gr hj (g' M a w c)
theorem Af{fuel i:Nat}{op:Op}{d:Nat}{ty:TypeId}{pos:String}{after:Array Edge}{listed:Array Bool}{t:TV}(hQ:iR Q)(hi:ops[i]? =some ⟨some d,op,ty,pos,after,none⟩)(hs:Region.noSelect ops=true)
  (hr:(Region.ready .any ops listed).contains i=true) (hf:Region.free .any ops listed i=true) (h:Yields (λ_ _=>True) P F n E L op t) (hd:Nat.ble (d+1) n=true)
  (g:Go F n ((d,t)::E) L (wpAny P .any ops Q fuel (listed.setIfInBounds i true))):Go F n E L (wpAny P .any ops Q (fuel+1) listed):=λM a w c=>by
 obtain⟨v,hv,hrun⟩:=h ⟨some d,op,ty,pos,after,none⟩ rfl M a w c
 refine qH (oi:=⟨some d,op,ty,pos,after,none⟩) (v:=v) hQ hi (Region.noSelect_spec hs) fuel listed a w (Region.free_spec hi hf) (by simpa using hr) (.inl ⟨by simp[Region.wanted],λw'=>hrun w' trivial⟩) ?_
 exact g M _ w (c.put (Mem.le.refl _) c.st (Nat.le_of_ble_eq_true hd) hv)
end
section
variable {P:Program}{Tb:Tab}{F:Fr}{n:Nat}{E E':Env}{L:List Res}{ops:Array Oper}{Q:Exit→Act→World→Prop}{rest:List Oper}{X:Act→World→Prop}
inductive RetV(P:Program)(E:Env)(L:List Res):ResultVar→(u:T)→u.D→Prop
 |tmp {i:Nat} {u:T} {x:u.D} (h:E.get i=some (.one u x)):RetV P E L (.tmp i) u x
 |cell {a:Nat} {tid:TypeId} {z:Value} {b off:Nat} {e:TypeId} {t u:T} {xv:t.D} (i:Nat) (p:Pth t u) (h:E.get a=some (.one (.raw z) (.pointer (some ⟨b,off,none⟩)))) (hi:L[i]? =some (Res.var b e t xv)) (hp:p.off=off) (hok:p.ok)
   (ht:aW P u tid=true):RetV P E L (.cell a tid) u (p.get xv)
def oE(tmps:Array Value):ResultVar→Sem Value
 | .tmp t=>pure (tmps.getD t undef)
 | .cell a t=>do loadVar t (←asAddr (tmps.getD a undef))
theorem RetV.run{M:Mem}{a:Act}{w:World}(c:Cfg F M n E L a w){r:ResultVar}{u:T}{x:u.D}(h:RetV P E L r u x):∃v,(oE a.tmps r).run P w= .ok v w∧Holds u M v x:=by
 cases h with
 |tmp h=>
  obtain⟨v,e,hv⟩:=c.get h
  exact⟨v,by simp[oE,e],hv⟩
 | @cell ad tid z b off e0 t u xv i p h hi hp hok ht=>
   obtain⟨v,e,hv⟩:=c.get h
   obtain⟨cs,hb,hr⟩:=c.st.var hi
   have hl:=hr.size
   have hf:=p.fits hok
   have hrep:=Rep.get p hok hr
   rw[hp]at hrep hf
   obtain⟨v',h1,h2⟩:=zv (P:=P) (w:=w) ht hb (by simp[hl];exact hf) (M:=M) (x:=p.get _) (by simpa using hrep)
   refine⟨v',?_,h2⟩
   have hv':=(holds_raw.1 hv).1
   simp only[oE,ao]
   have:a.tmps.getD ad undef=v:=by simp[e]
   rw[this,hv']
   exact h1
inductive RetL(P:Program)(E:Env)(L:List Res):List ResultVar→List ((t:T)×t.D)→Prop
 |nil:RetL P E L [] []
 |cons {r:ResultVar} {u:T} {x:u.D} {rs:List ResultVar} {l:List ((t:T)×t.D)} (h:RetV P E L r u x) (q:RetL P E L rs l):RetL P E L (r::rs) (⟨u,x⟩::l)
theorem RetL.run{M:Mem}{a:Act}{w:World}(c:Cfg F M n E L a w):∀{rs:List ResultVar} {l:List ((t:T)×t.D)},RetL P E L rs l→∃vs,(rs.mapM (oE a.tmps)).run P w= .ok vs w∧HoldsL M vs l
 |_,_,.nil=>⟨[],rfl,.nil⟩
 |_,_,.cons h q=>by
  obtain⟨v,h1,h2⟩:=RetV.run c h
  obtain⟨vs,h3,h4⟩:=RetL.run c q
  refine⟨v::vs,?_,.cons h2 h4⟩
  rw[List.mapM_cons,ao,h1]
  simp only[ao,h3];rfl
theorem uF{fn:Func}{rs:List ResultVar}(hr:fn.results=rs.toArray){tmps:Array Value}{w:World}{vs:List Value}(h:(rs.mapM (oE tmps)).run P w= .ok vs w):
  (results fn tmps).run P w= .ok (if h:vs.toArray.size=1 then vs.toArray[0]else .tuple vs.toArray) w:=by
 have e:results fn tmps=(fn.results.mapM (oE tmps)>>=λvs=>pure (if h:vs.size=1 then vs[0]else .tuple vs)):=by
  unfold results
  congr 1
 have e2:(rs.toArray.mapM (oE tmps)).run P w= .ok vs.toArray w:=by
  rw[List.mapM_toArray]
  have:(List.toArray<$>rs.mapM (oE tmps))=(do let l←rs.mapM (oE tmps);pure l.toArray):=by rw[←bind_pure_comp]
  rw[this,ao,h];rfl
 rw[e,hr,ao,e2]
 rfl
theorem aS{fn:Func}{r:ResultVar}{u:T}{x:u.D}(hr:fn.results= #[r])(h:RetV P E L r u x){res:Value→TV}{L':Value→List Res}(hres:∀M v,Holds u M v x→(res v).holds M v)(hL:∀M v,Holds u M v x→(L' v).Sublist L):
  Go (Fr.nd F) n E L (bodyPost P fn (mg F res L') .ret):=λM a w c=>by
 obtain⟨v,h1,h2⟩:=RetV.run c h
 have hm:([r].mapM (oE a.tmps)).run P w= .ok [v] w:=by
  rw[List.mapM_cons,ao,h1];rfl
 have:=uF (rs:=[r]) hr hm
 exact bodyPost_ret (by rw[this];rfl) c.defers ⟨v,M,rfl,c.st.un.lose (hL M v h2),hres M v h2⟩
theorem rp{fn:Func}(hr:fn.results= #[]){res:Value→TV}{L':Value→List Res}(hres:∀M,(res (.tuple #[])).holds M (.tuple #[]))(hL:(L' (.tuple #[])).Sublist L):
  Go (Fr.nd F) n E L (bodyPost P fn (mg F res L') .ret):=λM _ _ c=>
 bodyPost_ret (results_none hr _ _ _) c.defers ⟨_,M,rfl,c.st.un.lose hL,hres M⟩
theorem et{fn:Func}(hr:fn.results= #[]){res:Value→TV}{L':Value→List Res}(hres:∀M,(res (.tuple #[])).holds M (.tuple #[]))(hL:(L' (.tuple #[])).Sublist L):
  Go (Fr.nd F) n E L (bodyPost P fn (mg F res L') .normal):=λM _ _ c=>
 bodyPost_end (results_none hr _ _ _) c.defers ⟨_,M,rfl,c.st.un.lose hL,hres M⟩
theorem aE{fn:Func}{rs:List ResultVar}{l:List ((t:T)×t.D)}(hr:fn.results=rs.toArray)(h:RetL P E L rs l)(h2:Nat.ble 2 rs.length=true){res:Value→TV}{L':Value→List Res}(hres:∀M vs,HoldsL M vs l→(res (.tuple vs.toArray)).holds M (.tuple vs.toArray))
  (hL:∀M vs,HoldsL M vs l→(L' (.tuple vs.toArray)).Sublist L):Go (Fr.nd F) n E L (bodyPost P fn (mg F res L') .ret):=λM a w c=>by
 obtain⟨vs,h1,h3⟩:=RetL.run c h
 have:=uF hr h1
 have bU:∀{rs:List ResultVar} {l:List ((t:T)×t.D)} {vs:List Value},RetL P E L rs l→HoldsL M vs l→rs.length=vs.length:=by
  intro rs l vs h
  induction h generalizing vs with
  |nil=>intro g;cases g;rfl
  |cons _ _ ih=>intro g;cases g with|cons _ g=>simp[ih g]
 have hl:=bU h h3
 have h2:=Nat.le_of_ble_eq_true h2
 rw[dif_neg (by simp;omega)]at this
 exact bodyPost_ret this c.defers ⟨_,M,rfl,c.st.un.lose (hL M vs h3),hres M vs h3⟩
theorem aI{M:Mem}{l:List ((t:T)×t.D)}:∀vs,HoldsL M vs l→(TV.tup l).holds M (.tuple vs.toArray):=λvs h=>⟨vs,rfl,h⟩
theorem BW(hT:Tb.chk P=true){tid elem B:Nat}{t:T}{x y':Operand}{k k':IntKind}{i:Int}{d:Nat}{ty:TypeId}{pos:String}{after:Array Edge}(hl:lk Tb.slices tid=some elem)(he:fG P t elem B=true)(hB:Nat.ble 1 B=true)(hzero:(P.info? elem).bind (·.zero)=some (mk t (zc t)))(hzo:zok t=true)
  (hx:ev E x=some (.one (.int k) i)) (hy:ev E y'=some (.one (.int k') i)) (h0:0≤i) (h1:i*B≤140737488355328) (hd:Nat.ble (d+1) n=true)
  (g:∀v,Go F n ((d,.one (.raw (.slice none 0 0)) v)::E) (Res.own v elem t (List.replicate i.toNat t.zero)::L) (wpList P ops Q rest)):
  Go F n E L (wpList P ops Q (⟨some d,.makeSlice tid x y',ty,pos,after,none⟩::rest)):=λM a w c=>by
 obtain⟨ht,inf,hinf,hbytes,z,hz1,hz2⟩:=pz he
 have hB:=Nat.le_of_ble_eq_true hB
 have e1:=(holds_int.1 (aJ c hx)).1
 have e2:=(holds_int.1 (aJ c hy)).1
 have hz:z=mk t (zc t):=by simpa [hinf,hz1]using hzero
 have hrep:Rep t (λ_=>none) (zc t) t.zero:=jH hzo
 have hzl:=hrep.size
 have hzc:z.cells.toList=zc t:=by
  have:Rep t (λ_=>none) z.cells.toList t.zero:=Holds.cells ⟨_,hz,hrep⟩
  have hh:Holds t (λ_=>none) z t.zero:=⟨_,hz,hrep⟩
  rw[hz]
  cases ha:t.isAgg with
  |true=>simp[mk,ha,Value.cells]
  |false=>
   obtain⟨v,e,ho⟩:=nb ha hrep
   rw[e];simp only[mk,ha,Bool.false_eq_true,if_false,List.headD_cons]
   cases v<;>first|rfl|cases ho
 have hi1:i≤140737488355328:=by
  have:i*1≤i*B:=Int.mul_le_mul_of_nonneg_left (by omega) h0
  omega
 have hw:IntKind.i64.wrap i=i:=Aa (by simp only[rng,lo,hi];omega)
 have hBi:(inf.bytes:Int)*i≤2^48:=by rw[hbytes,Int.mul_comm];omega
 have hng:¬i<0:=by omega
 have hd48:decide (2^48<(inf.bytes:Int)*i)=false:=decide_eq_false (by omega)
 have htl:(decide (i<0)||decide ((inf.bytes:Int)*i>2^48))=false:=by
  simp only[Bool.or_eq_false_iff,decide_eq_false_iff_not];omega
 have hcells:∀(zs:Array Value),zs.toList=zc t→((Array.range (i.toNat*t.size)).map (zs[·% zs.size]!)).toList=(List.replicate i.toNat (zc t)).flatten:=by
  intro zs hzs
  have hs:zs.size=t.size:=by rw[←Array.length_toList,hzs];exact hzl
  rw[Array.toList_map,Array.toList_range,hs]
  generalize i.toNat=m
  induction m with
  |zero=>simp
  |succ m ih=>
   rw[Nat.succ_mul,List.range_add,List.map_append,ih]
   rw[List.replicate_succ',List.flatten_append,List.flatten_singleton]
   congr 1
   rw[List.map_map,←hzs]
   apply List.ext_getElem
   ·simp[hs]
   ·intro j h1 h2
    simp only[List.length_map,List.length_range]at h1
    simp only[List.getElem_map,List.getElem_range,Function.comp]
    have hmod:(m*t.size+j) % t.size=j:=by rw[Nat.add_comm,Nat.add_mul_mod_self_right,Nat.mod_eq_of_lt h1]
    rw[hmod]
    have hj:j<zs.size:=by rw[hs];exact h1
    simp[hj]
 have hrun:∃cs:Array Value,cs.toList=(List.replicate i.toNat (zc t)).flatten∧(execOp a.eval ⟨some d,.makeSlice tid x y',ty,pos,after,none⟩).run P w= .ok (.value (.slice (some ⟨w.heap.size,0,none⟩) i.toNat i.toNat)) {w with heap:=w.heap.push (.cells cs elem)}:=by
  have hzv:(zeroValue elem).run P w= .ok z w:=by simp only[zeroValue,ao,eH hinf,hz1];rfl
  by_cases h00:i.toNat*t.size=0
  ·refine⟨(Array.range (i.toNat*t.size)).map ((#[]:Array Value)[·% 0]!),?_,?_⟩
   ·rw[h00]
    have:(List.replicate i.toNat (zc t)).flatten.length=0:=by simp[hzl,h00]
    simp[List.length_eq_zero_iff.1 this]
   ·simp only[execOp]
    refine bz ?_
    rw[e1,e2]
    unfold Instr.makeSlice
    simp only[ao,run_underlying (Tab.slice hT hl),asInt,asIntOf,aG,eH hinf,hw,hd48,hng,decide_false,Bool.false_or,Int.lt_irrefl,gt_iff_lt,Bool.or_self,Bool.false_eq_true,if_false,oD,dL ht,h00,if_true]
    rfl
  ·refine⟨(Array.range (i.toNat*t.size)).map (z.cells[·% z.cells.size]!),hcells _ hzc,?_⟩
   simp only[execOp]
   refine bz ?_
   rw[e1,e2]
   unfold Instr.makeSlice
   simp only[ao,run_underlying (Tab.slice hT hl),asInt,asIntOf,aG,eH hinf,hw,hd48,hng,decide_false,Bool.false_or,Int.lt_irrefl,gt_iff_lt,Bool.or_self,Bool.false_eq_true,if_false,oD,dL ht,h00,hzv]
   rfl
 obtain⟨cs,hcs,hrun⟩:=hrun
 refine dG (d:=d) rfl (by simp[Region.wanted]) hrun (g _ M _ _ (c.put (Mem.le.refl _) (c.st.new ?_) (Nat.le_of_ble_eq_true hd) (holds_raw.2 ⟨rfl,rfl⟩)))
 have hzs:=uS (t:=t) (M:=M) hzo i.toNat
 have hcl:cs.toList.length=i.toNat*t.size:=by rw[hcs];simp[hzl]
 refine .inr ⟨w.heap.size,0,i.toNat,by simp,λk=>Iff.rfl,cs,(0,0),by simp,?_,by simpa using hcl,by simp,by simp only[List.length_replicate,most];omega,iz _⟩
 rw[List.length_replicate,←hcl,List.drop_zero,List.take_length,hcs]
 exact hzs
end
section
variable {P:Program}{Tb:Tab}{F:Fr}{n:Nat}{E E':Env}{L:List Res}{ops:Array Oper}{Q:Exit→Act→World→Prop}{rest:List Oper}{X:Act→World→Prop}
theorem tA{w:World}:∀(ys:List Int) (s:ByteArray),
  (forIn (ys.map fun y=>Value.int .u8 y) s fun c r=>((match c with| .int .u8 m=>pure (ForInStep.yield (r.push (UInt8.ofNat m.toNat)))|_=>do stuck "bytesToString: byte expected";pure (ForInStep.yield r)):Sem (ForInStep ByteArray))).run P w= .ok (s++bs ys) w
 |[],s=>by
  show Result.ok s w=_
  congr 1
  apply ByteArray.ext;simp[bs]
 |y::ys,s=>by
  rw[List.map_cons,List.forIn_cons,ao]
  simp only[aG]
  rw[tA ys]
  congr 1
  apply ByteArray.ext
  simp[bs]
theorem jO{b off len cap:Nat}{c:Array Value}{el:TypeId}{fr:Nat×Nat}{w:World}{ys:List Int}(hb:w.heap[b]? =some (.cells c el fr))(hs:off+len≤c.size)(hy:(c.toList.drop off).take len=ys.map λy=>Value.int .u8 y):
  (Conv.bytesToString (.slice (some ⟨b,off,none⟩) len cap)).run P w= .ok (.string (bs ys)) w:=by
 unfold Conv.bytesToString
 have h1:=gH (P:=P) hb len 0 #[] (by omega)
 simp only[Nat.add_zero,hy]at h1
 simp only[ao,loadCells,h1]
 have h2:=tA (P:=P) (w:=w) ys ByteArray.empty
 have e:ByteArray.empty++bs ys=bs ys:=by apply ByteArray.ext;simp
 rw[e]at h2
 have e3:(#[]++(ys.map λy=>Value.int .u8 y).toArray)=(ys.map λy=>Value.int .u8 y).toArray:=by simp
 rw[e3,List.forIn_toArray]
 have h5:∀{f g:Value→ByteArray→Sem (ForInStep ByteArray)},(∀c r,f c r=g c r)→(forIn (ys.map λy=>Value.int .u8 y) ByteArray.empty g).run P w= .ok (bs ys) w→(forIn (ys.map λy=>Value.int .u8 y) ByteArray.empty f).run P w= .ok (bs ys) w:=by
  intro f g h e
  have:f=g:=by funext c r;exact h c r
  rw[this];exact e
 split
 ·rename_i x w' heq
  rw[h5 (λc r=>?_) h2]at heq
  ·cases heq;rfl
  ·cases c<;>rfl
 ·rename_i h w' heq
  rw[h5 (λc r=>?_) h2]at heq
  ·cases heq
  ·cases c<;>rfl
theorem lS{M:Mem}:∀{cs:List Value} {ys:List Int},RepL (Rep (.int .u8) M) cs ys→cs=(ys.map λy=>Value.int .u8 y)∧aQ ys
 |_,[],h=>⟨h,λc hc=>by simp at hc⟩
 |_,y::ys,⟨c1,c2,e,h1,h2⟩=>by
  obtain⟨e2,hb⟩:=lS h2
  refine⟨by rw[e,h1.1,e2];rfl,?_⟩
  intro c hc
  rcases List.mem_cons.1 hc with rfl|hc
  ·have:=h1.2;simp only[rng,lo,hi]at this;omega
  ·exact hb c hc
theorem vx(hT:Tb.chk P=true){sT dT elem:TypeId}{x:Operand}{z v:Value}{ys:List Int}(i:Nat)(hx:ev E x=some (.one (.raw z) v))(hi:L[i]? =some (Res.own v elem (.int .u8) ys))(hs:lk Tb.slices sT=some elem)(hd:lk Tb.strs dT=some ())(he:lk Tb.ints elem=some .u8):
  Yields Same P F n E L (.convert sT dT x) (.one .str ys):=λo ho M a w c=>by
 obtain⟨S,hsat⟩:=c.st.res hi
 have hv:=(holds_raw.1 (aJ c hx)).1
 have key:aQ ys∧ys.length≤most∧∀w',Same w w'→(Conv.bytesToString v).run P w'= .ok (.string (bs ys)) w':=by
  rcases hsat with⟨⟨a0,rfl⟩,rfl,_⟩|⟨b,o',cap,rfl,h2,cc,fr,h3,h4,h5,h6,h7,h8⟩
  ·exact⟨λc hc=>by simp at hc,by simp[most],λw' _=>by cases a0<;>simp[Conv.bytesToString,loadCells,loadCellsFrom,aG,ao]<;>rfl⟩
  ·obtain⟨e1,hb⟩:=lS h4
   simp only[T.size,Nat.mul_one]at e1 h5
   exact⟨hb,h7,λw' hsm=>jO (by rw[hsm b (cH h3)];exact h3) (by omega) e1⟩
 refine⟨_,holds_str.2 ⟨rfl,key.1,key.2.1⟩,λw' hsm=>?_⟩
 obtain⟨dst,op,ty,pos,after,guard⟩:=o
 simp only at ho;subst ho
 refine bz ?_
 rw[hv]
 have hform:∃base len cap,v= .slice base len cap:=by
  rcases hsat with⟨⟨_,rfl⟩,_,_⟩|⟨b,o',cap,rfl,_⟩<;>exact⟨_,_,_,rfl⟩
 obtain⟨base,len,cap,rfl⟩:=hform
 have hk:=key.2.2 w' hsm
 simp only[Go.convert,ao,run_underlying (Tab.slice hT hs),run_underlying (Tab.str hT hd)]
 cases base<;>simp only[run_underlying (Tab.int hT he)]<;>exact hk
def ua(P:Program)(tid:TypeId)(i:Nat):Option (Nat×Nat):=
 match P.underlying tid with
 |some (.struct fs)=>(match fs[i]? with|some f=>(match P.info? f.type with|some inf=>some (f.offset,inf.size)|none=>none)|none=>none)
 |some (.array _ e)=>(match P.info? e with|some inf=>some (i*inf.size,inf.size)|none=>none)
 |_=>none
inductive Fills(P:Program)(E:Env)(tid:TypeId)(t:T):List (Nat×Operand)→t.D→t.D→Prop
 |nil {x:t.D}:Fills P E tid t [] x x
 |cons {i:Nat} {o:Operand} {u:T} {y:u.D} {l:List (Nat×Operand)} {x r:t.D} (p:Pth t u) (h:ev E o=some (.one u y)) (hp:ua P tid i=some (p.off,u.size)) (hok:p.ok) (q:Fills P E tid t l (p.set x y) r):Fills P E tid t ((i,o)::l) x r
def Ag(P:Program)(tid:TypeId):Bool:=
 match P.underlying tid with
 |some (.struct fs)=>fs.toList.all λf=>(P.info? f.type).isSome
 |some (.array _ e)=>(P.info? e).isSome
 |_=>false
theorem uT{M:Mem}{a:Act}{w:World}(c:Cfg F M n E L a w){tid:TypeId}{t:T}{place:Nat→Option (Nat×Nat)}(hpl:∀i p,ua P tid i=some p→place i=some p):∀{l:List (Nat×Operand)} {x r:t.D},Fills P E tid t l x r→∀cs:Array Value,Rep t M cs.toList x→
  ∃ds,Instr.fill place cs (l.map λp=>(p.1,a.eval p.2))=some ds∧Rep t M ds.toList r
 |_,_,_,.nil,cs,h=>⟨cs,rfl,h⟩
 |_,x,r,.cons (i:=i) (o:=o) (u:=u) (y:=y) (l:=l) p h hp hok q,cs,hr=>by
  have hv:=(aJ c h).cells
  have hsz:=hv.size
  have hsz':(a.eval o).cells.size=u.size:=by simpa using hsz
  have hcs:=hr.size
  have hcs':cs.size=t.size:=by simpa using hcs
  have hf:=p.fits hok
  have hfold:=tx (a.eval o).cells.toList 0 p.off cs (by rw[hsz];omega)
  have hzip:(a.eval o).cells.zipIdx.foldl (λcs (q:Value×Nat)=>cs.setIfInBounds (p.off+q.2) q.1) cs=((a.eval o).cells.toList.zipIdx 0).foldl (λcs (q:Value×Nat)=>cs.setIfInBounds (p.off+q.2) q.1) cs:=by
   rw[←Array.foldl_toList];simp
  generalize ((a.eval o).cells.toList.zipIdx 0).foldl (λcs (q:Value×Nat)=>cs.setIfInBounds (p.off+q.2) q.1) cs=cs' at hfold hzip
  have hset:=Rep.set p hok hr hv
  have hrep:Rep t M cs'.toList (p.set x y):=by
   rw[hfold,hsz]
   simpa using hset
  obtain⟨ds,h1,h2⟩:=uT c hpl q cs' hrep
  refine⟨ds,?_,h2⟩
  simp only[List.map_cons,Instr.fill,hpl _ _ hp]
  rw[if_neg (by rw[hsz'];simp;omega),hzip]
  exact h1
theorem aY{R:World→World→Prop}{tid:TypeId}{t:T}{l:List (Nat×Operand)}{r:t.D}(hta:t.isAgg=true)(hz:(P.info? tid).bind (·.zero)=some (mk t (zc t)))(hzo:zok t=true)(hi:Ag P tid=true)(h:Fills P E tid t l t.zero r):
  Yields R P F n E L (.build tid l.toArray) (.one t r):=λo ho M a w c=>by
 have hrep:Rep t M (zc t).toArray.toList t.zero:=by simpa using jH (M:=M) hzo
 have hmap:(l.toArray.map λx=>match x with|(i,x)=>(i,a.eval x)).toList=l.map λp=>(p.1,a.eval p.2):=by simp
 have hzv:∀w',(zeroValue tid).run P w'= .ok (mk t (zc t)) w':=λw'=>by
  cases hinf:P.info? tid with
  |none=>simp[hinf]at hz
  |some inf=>
   simp only[hinf,Option.bind_some]at hz
   simp only[zeroValue,ao,eH hinf,hz];rfl
 have hzc:(mk t (zc t)).cells=(zc t).toArray:=by simp[mk,hta,Value.cells]
 unfold Ag at hi
 split at hi
 ·rename_i fs hu
  have hall:∀f∈fs.toList,∃inf,P.info? f.type=some inf:=λf hf=>Option.isSome_iff_exists.1 (List.all_eq_true.1 hi f hf)
  have hplaces:∀w',∃places:Array (Nat×Nat),((fs.mapM λ(f:Field)=>do pure (f.offset,←Go.sizeOf f.type)):Sem (Array (Nat×Nat))).run P w'= .ok places w'∧∀i:Nat,places[i]? =(match fs[i]? with|some f=>(match P.info? f.type with|some inf=>some (f.offset,inf.size)|none=>none)|none=>none):=by
   intro w'
   have key:∀(l:List Field),(∀f∈l,∃inf,P.info? f.type=some inf)→∃ps:List (Nat×Nat),((l.mapM λ(f:Field)=>do pure (f.offset,←Go.sizeOf f.type)):Sem (List (Nat×Nat))).run P w'= .ok ps w'∧∀i:Nat,ps[i]? =(match l[i]? with|some f=>(match P.info? f.type with|some inf=>some (f.offset,inf.size)|none=>none)|none=>none):=by
    intro l
    induction l with
    |nil=>intro _;exact⟨[],rfl,λi=>by simp⟩
    |cons f l ih=>
     intro h
     obtain⟨inf,hinf⟩:=h f (by simp)
     obtain⟨ps,h1,h2⟩:=ih λf hf=>h f (by simp[hf])
     refine⟨(f.offset,inf.size)::ps,?_,?_⟩
     ·rw[List.mapM_cons,ao,ao]
      have:(Go.sizeOf f.type).run P w'= .ok inf.size w':=by simp only[Go.sizeOf,ao,eH hinf];rfl
      rw[this]
      simp only[aG,ao,h1]
     ·intro i
      cases i with
      |zero=>simp[hinf]
      |succ i=>simpa using h2 i
   obtain⟨ps,h1,h2⟩:=key fs.toList hall
   refine⟨ps.toArray,?_,λi=>by simpa using h2 i⟩
   have:fs=fs.toList.toArray:=by simp
   rw[this,List.mapM_toArray]
   rw[←bind_pure_comp,ao]
   rw[show fs.toList.toArray.toList=fs.toList by simp]
   rw[h1];rfl
  obtain⟨places0,_,hp0⟩:=hplaces w
  obtain⟨ds,hfill,hds⟩:=uT c (place:=(places0[·]?)) (λi p hp=>by
   rw[hp0];unfold ua at hp;rw[hu]at hp;exact hp) h _ hrep
  refine⟨.agg ds,⟨ds.toList,by simp[mk,hta],hds⟩,λw' _=>?_⟩
  obtain⟨places,hpr,hp1⟩:=hplaces w'
  have hpp:places=places0:=Array.ext_getElem? λi=>by rw[hp1,hp0]
  subst hpp
  obtain⟨dst,op,ty,pos,after,guard⟩:=o
  simp only at ho;subst ho
  refine bz ?_
  unfold Instr.build
  simp only[ao,hzv,run_underlying hu,hpr,hzc,hmap,hfill]
  rfl
 ·rename_i k e hu
  obtain⟨inf,hinf⟩:=Option.isSome_iff_exists.1 hi
  obtain⟨ds,hfill,hds⟩:=uT c (place:=λi=>some (i*inf.size,inf.size)) (λi p hp=>by
   unfold ua at hp;rw[hu]at hp;simp only[hinf]at hp;exact hp) h _ hrep
  refine⟨.agg ds,⟨ds.toList,by simp[mk,hta],hds⟩,λw' _=>?_⟩
  have hsz:(Go.sizeOf e).run P w'= .ok inf.size w':=by simp only[Go.sizeOf,ao,eH hinf];rfl
  obtain⟨dst,op,ty,pos,after,guard⟩:=o
  simp only at ho;subst ho
  refine bz ?_
  unfold Instr.build
  simp only[ao,hzv,run_underlying hu,hsz,hzc,hmap,hfill]
  rfl
 ·cases hi
end
@[inline] def bnd{α β:Type}(a:α)(f:α→β):β:=f a
theorem aP{α β:Type}(a:α)(f:α→β):bnd a f=f a:=id rfl
theorem aT{α β:Type}(a:α)(f:α→Option β):(some a).bind f=f a:=id rfl
theorem al{α β:Type}{a:α}{f:α→β}{r:β}(h:bnd a f=r):∃x,a=x∧f x=r:=⟨a,rfl,h⟩
theorem ED{α β:Type}{o:Option α}{f:α→Option β}{r:β}(h:o.bind f=some r):∃x,o=some x∧f x=some r:=by
 cases o with
 |none=>simp at h
 |some x=>exact⟨x,rfl,h⟩
theorem cj{α:Type}{c:Prop}[Decidable c]{a:Option α}{r:α}(h:(if c then a else none)=some r):c∧a=some r:=by
 split at h
 ·exact⟨‹_›,h⟩
 ·cases h
theorem aa{t:T}:(Pth.here:Pth t t).ok:=trivial
theorem aq{a b u:T}{p:Pth a u}(h:p.ok):(Pth.fst p:Pth (.pair a b) u).ok:=h
theorem ab{a b u:T}{p:Pth b u}(h:p.ok):(Pth.snd p:Pth (.pair a b) u).ok:=h
theorem av{n i:Nat}{t u:T}{p:Pth t u}(h1:i<n)(h:p.ok):(Pth.elem i p:Pth (.arr n t) u).ok:=⟨h1,h⟩
def au(v:Value)(i:Nat):Value:=match v with| .tuple vs=>vs.getD i undef|_=>undef
section
variable {P:Program}{Tb:Tab}{F:Fr}{n:Nat}{E E':Env}{L:List Res}{ops:Array Oper}{Q:Exit→Act→World→Prop}{rest:List Oper}{X:Act→World→Prop}{c1 c2:Code}
def xu(F:Fr)(n:Nat){γ:Type}(E:γ→Env)(L:γ→List Res)(a:Act)(w:World):Prop:=∃g M,Cfg F M n (E g) (L g) a w
theorem EE{γ:Type}(g:γ){E':γ→Env}{L':γ→List Res}(hE:E=E' g)(hL:L=L' g):Go F n E L (xu F n E' L'):=λM a w c=>⟨g,M,by subst hE;subst hL;exact c⟩
def qt(F:Fr)(n:Nat){σ γ ρ:Type}(E:σ→γ→Env)(L:σ→γ→List Res)(k:σ→Option ρ)(r:ρ)(a:Act)(w:World):Prop:=∃s g M,k s=some r∧Cfg F M n (E s g) (L s g) a w
theorem EF{σ γ ρ:Type}(E':σ→γ→Env)(L':σ→γ→List Res)(k:σ→Option ρ)(r:ρ)(h1:Go F n E L (c1.wp P (Exit.then (qt F n E' L' k r) Q)))(h2:∀s g,k s=some r→Go F n (E' s g) (L' s g) (c2.wp P Q)):
  Go F n E L ((Code.seq c1 c2).wp P Q):=by
 intro M a w c
 refine wp_seq (wp_mono (h1 M a w c) ?_)
 intro e a w q
 cases e<;>first|exact q|skip
 obtain⟨s,g,M',hk,c'⟩:=q
 exact h2 s g hk M' a w c'
theorem EG{σ γ ρ:Type}(s:σ)(g:γ){E':σ→γ→Env}{L':σ→γ→List Res}{k:σ→Option ρ}{r:ρ}(hk:k s=some r)(hE:E=E' s g)(hL:L=L' s g):Go F n E L (qt F n E' L' k r):=λM a w c=>⟨s,g,M,hk,by subst hE;subst hL;exact c⟩
theorem rq{σ γ ρ:Type}(E':σ→γ→Env)(L':σ→γ→List Res)(k:σ→Option ρ)(r:ρ)(h1:Go F n E L (c1.wp P (Exit.then (qt F n E' L' k r) Q)))(h2:∀s g,k s=some r→Go F n (E' s g) (L' s g) (Q .normal)):
  Go F n E L (c1.wp P Q):=by
 intro M a w c
 refine wp_mono (h1 M a w c) ?_
 intro e a w q
 cases e<;>first|exact q|skip
 obtain⟨s,g,M',hk,c'⟩:=q
 exact h2 s g hk M' a w c'
def xw(F:Fr)(n:Nat){σ γ ρ:Type}(S:σ→γ→Env)(R:σ→γ→List Res)(f:Nat→σ→Option ρ)(out:ρ)(m:Nat)(a:Act)(w:World):Prop:=
 ∃m' s' g M,m'<m∧f m' s'=some out∧Cfg F M n (S s' g) (R s' g) a w
theorem EH{σ γ ρ:Type}(S:σ→γ→Env)(R:σ→γ→List Res)(f:Nat→σ→Option ρ){out:ρ}{m:Nat}(s:σ)(g:γ)(hf:f m s=some out)(hE:E=S s g)(hL:L=R s g)
  (round:∀m s g,f m s=some out→Go F n (S s g) (R s g) (c1.wp P (Exit.then (xw F n S R f out m) Q))):Go F n E L ((Code.loop c1).wp P Q):=by
 intro M a w c
 refine nv (λm a w=>∃s' g M,f m s'=some out∧Cfg F M n (S s' g) (R s' g) a w) ?_ (m:=m) ⟨s,g,M,hf,by subst hE;subst hL;exact c⟩
 rintro m a w ⟨s',g',M',hf',c'⟩
 refine wp_mono (round m s' g' hf' M' a w c') ?_
 intro e a w q
 cases e<;>first|exact q|skip
 obtain⟨m',s'',g'',M'',h1,h3,h4⟩:=q
 exact⟨m',h1,s'',g'',M'',h3,h4⟩
theorem EI{σ γ ρ:Type}{S:σ→γ→Env}{R:σ→γ→List Res}{f:Nat→σ→Option ρ}{out:ρ}{m m':Nat}(s:σ)(g:γ)(hlt:m'<m)(hf:f m' s=some out)(hE:E=S s g)(hL:L=R s g):
  Go F n E L (xw F n S R f out m):=λM a w c=>⟨m',s,g,M,hlt,hf,by subst hE;subst hL;exact c⟩
theorem xR{l1 l2:List Oper}{a:Act}{w:World}(h:wpList P ops (Exit.then (wpList P ops Q l2) Q) l1 a w):wpList P ops Q (l1++l2) a w:=by
 induction l1 generalizing a w with
 |nil=>exact h
 |cons o l1 ih=>
  rw[List.cons_append]
  unfold wpList at h⊢
  split
  ·rename_i hw
   rw[if_pos hw]at h
   rcases h with h|⟨h,b,v,q⟩
   ·left
    unfold Oper.wp at*
    generalize (execOp a.eval o).run P w=r at*
    cases r with
    |ok n w'=>
     cases n<;>simp only[Oper.upon]at h⊢<;>first
      |exact ih h
      |exact Calls.mono h (λe w'' he=>by cases e<;>first|exact ih he|exact he|(obtain⟨b,v,q⟩:=he;exact⟨b,v,q⟩))
      |exact Rows.mono h (λ_ _ he=>ih he)
    |halt x w'=>cases x<;>simp only[Oper.upon]at h⊢;exact h
   ·exact .inr ⟨h,b,v,q⟩
  ·rename_i hw
   rw[if_neg hw]at h
   exact ih h
theorem Ah{K K':Act→World→Prop}(hK:∀a w,K a w→K' a w){l1:List Oper}{a:Act}{w:World}(h:wpList P ops (Exit.then K Q) l1 a w):wpList P ops (Exit.then K' Q) l1 a w:=by
 induction l1 generalizing a w with
 |nil=>exact hK _ _ h
 |cons o l1 ih=>
  unfold wpList at h⊢
  split
  ·rename_i hw
   rw[if_pos hw]at h
   rcases h with h|⟨h,b,v,q⟩
   ·left
    unfold Oper.wp at*
    generalize (execOp a.eval o).run P w=r at*
    cases r with
    |ok n w'=>
     cases n<;>simp only[Oper.upon]at h⊢<;>first
      |exact ih h
      |exact Calls.mono h (λe w'' he=>by cases e<;>first|exact ih he|exact he|(obtain⟨b,v,q⟩:=he;exact⟨b,v,q⟩))
      |exact Rows.mono h (λ_ _ he=>ih he)
    |halt x w'=>cases x<;>simp only[Oper.upon]at h⊢;exact h
   ·exact .inr ⟨h,b,v,q⟩
  ·rename_i hw
   rw[if_neg hw]at h
   exact ih h
theorem Dd{γ:Type}{l:List Oper}(k:Nat)(E':γ→Env)(L':γ→List Res)(h1:Go F n E L (wpList P ops (Exit.then (xu F n E' L') Q) (l.take k)))(h2:∀g,Go F n (E' g) (L' g) (wpList P ops Q (l.drop k))):Go F n E L (wpList P ops Q l):=by
 intro M a w c
 rw[←List.take_append_drop k l]
 exact xR (Ah (λa w ⟨g,M',c'⟩=>h2 g M' a w c') (h1 M a w c))
theorem BX{σ γ ρ:Type}{l:List Oper}(k:Nat)(E':σ→γ→Env)(L':σ→γ→List Res)(kf:σ→Option ρ)(r:ρ)(h1:Go F n E L (wpList P ops (Exit.then (qt F n E' L' kf r) Q) (l.take k)))
  (h2:∀s g,kf s=some r→Go F n (E' s g) (L' s g) (wpList P ops Q (l.drop k))):Go F n E L (wpList P ops Q l):=by
 intro M a w c
 rw[←List.take_append_drop k l]
 exact xR (Ah (λa w ⟨s,g,M',hk,c'⟩=>h2 s g hk M' a w c') (h1 M a w c))
theorem am{dst:Option Tmp}{op:Op}{ty:TypeId}{pos:String}{after:Array Edge}{j dj:Nat}{want:Bool}(hd:(ops[j]?).bind (·.dst)=some dj)(hE:E.get dj=some (.one .bool want))
  (g:Go F n E L (wpList P ops Q (⟨dst,op,ty,pos,after,none⟩::rest))):Go F n E L (wpList P ops Q (⟨dst,op,ty,pos,after,some (j,want)⟩::rest)):=λM a w c=>by
 have h1:Region.wanted (⟨dst,op,ty,pos,after,some (j,want)⟩:Oper) (yielded ops a.tmps)=true:=by
  rw[ky (o:=⟨dst,op,ty,pos,after,some (j,want)⟩) (ops:=ops) c rfl hd hE];simp
 have:=g M a w c
 unfold wpList at this⊢
 rw[if_pos h1]
 rw[if_pos (by simp[Region.wanted])]at this
 exact this
theorem dH{K:Mem→World→Act→Prop}{dst:Option Tmp}{op:Op}{ty:TypeId}{pos:String}{after:Array Edge}{j dj:Nat}{want:Bool}(hd:(ops[j]?).bind (·.dst)=some dj)(hE:E.get dj=some (.one .bool want))
  (g:QGo P ops F n E L K (⟨dst,op,ty,pos,after,none⟩::rest)):QGo P ops F n E L K (⟨dst,op,ty,pos,after,some (j,want)⟩::rest):=λM a w c=>by
 have h1:Region.wanted (⟨dst,op,ty,pos,after,some (j,want)⟩:Oper) (yielded ops a.tmps)=true:=by
  rw[ky (o:=⟨dst,op,ty,pos,after,some (j,want)⟩) (ops:=ops) c rfl hd hE];simp
 have:=g M a w c
 unfold wpQuiet at this⊢
 rw[if_pos h1]
 rw[if_pos (by simp[Region.wanted])]at this
 exact this
theorem Ef{R:World→World→Prop}{op:BinOp}{x y':Operand}{tid u:TypeId}{k k':IntKind}{p q:Int}{t:TV}(hx:ev E x=some (.one (.int k) p))(hy:ev E y'=some (.one (.int k') q))
  (h:∀M w,∃v,t.holds M v∧(binOp op tid (.int k p) (.int k' q)).run P w= .ok v w∧∀w',(binOp op tid (.int k p) (.int k' q)).run P w'= .ok v w'):Yields R P F n E L (.binOp op tid x y' u) t:=λo ho M a w c=>by
 have e1:=(holds_int.1 (aJ c hx)).1
 have e2:=(holds_int.1 (aJ c hy)).1
 obtain⟨v,hv,_,hr⟩:=h M w
 refine⟨v,hv,λw' _=>?_⟩
 obtain⟨dst,op',ty,pos,after,guard⟩:=o
 simp only at ho;subst ho
 refine bz ?_
 rw[e1,e2,ao]
 have:(eqGuard op tid x y' (.int k p) (.int k' q)).run P w'= .ok () w':=by unfold eqGuard;split<;>rfl
 rw[this];exact hr w'
theorem Gv{R:World→World→Prop}{x y':Operand}{tid u:TypeId}{k k':IntKind}{p q:Int}(hx:ev E x=some (.one (.int k) p))(hy:ev E y'=some (.one (.int k') q))(h:0≤q):Yields R P F n E L (.binOp .shl tid x y' u) (.one (.int k) (kA k p q)):=
 Ef hx hy λM w=>⟨_,holds_int.2 ⟨rfl,jm _ _⟩,by simp only[binOp,Op.shift,if_neg (show¬q<0 by omega)];rfl,λw'=>by simp only[binOp,Op.shift,if_neg (show¬q<0 by omega)];rfl⟩
theorem oF{R:World→World→Prop}{x y':Operand}{tid u:TypeId}{k k':IntKind}{p q:Int}(hx:ev E x=some (.one (.int k) p))(hy:ev E y'=some (.one (.int k') q))(h:0≤q):Yields R P F n E L (.binOp .shr tid x y' u) (.one (.int k) (bS k p q)):=λo ho M a w c=>
 Ef (t:= .one (.int k) (bS k p q)) hx hy (λM w=>⟨.int k (bS k p q),holds_int.2 ⟨rfl,Ab (holds_int.1 (aJ c hx)).2⟩,by simp only[binOp,Op.shift,if_neg (show¬q<0 by omega)];rfl,λw'=>by simp only[binOp,Op.shift,if_neg (show¬q<0 by omega)];rfl⟩) o ho M a w c
theorem xS{w:World}{d:Nat}{tid:TypeId}{p q:Bool}(hu:P.underlying tid=some .bool):(Op.equalIn (d+1) tid (.bool p) (.bool q)).run P w= .ok (p==q) w:=by
 simp only[Op.equalIn,ao,run_underlying hu]
 rfl
theorem EJ{w:World}{tid:TypeId}{p q:Bool}(hu:P.underlying tid=some .bool):(Op.equal tid (.bool p) (.bool q)).run P w= .ok (p==q) w:=by
 exact xS (d:=9999) hu
theorem Gw{R:World→World→Prop}{x y':Operand}{tid u:TypeId}{p q:Bool}(hx:ev E x=some (.one .bool p))(hy:ev E y'=some (.one .bool q))(hu:P.underlying tid=some .bool):Yields R P F n E L (.binOp .neq tid x y' u) (.one .bool (p !=q)):=λo ho M a w c=>by
 have e1:=holds_bool.1 (aJ c hx)
 have e2:=holds_bool.1 (aJ c hy)
 refine⟨_,holds_bool.2 rfl,λw' _=>?_⟩
 obtain⟨dst,op',ty,pos,after,guard⟩:=o
 simp only at ho;subst ho
 refine bz ?_
 rw[e1,e2,ao]
 have:(eqGuard .neq tid x y' (.bool p) (.bool q)).run P w'= .ok () w':=by unfold eqGuard;rfl
 rw[this]
 simp only[binOp,ao,EJ hu];rfl
end
@[reducible] def eqT:T→Bool
  | .int _=>true| .bool=>true| .str=>true| .unit=>true
  | .raw _=>false| .sl _ _=>false| .ifc _ _ _=>false
  | .pair a b=>eqT a&&eqT b
  | .arr _ t=>eqT t
def eqL{α:Type}(f:α→α→Bool):List α→List α→Bool
 |[],[]=>true
 |x::xs,y::ys=>f x y&&eqL f xs ys
 |_,_=>false
def eqD:(t:T)→t.D→t.D→Bool
 | .int _,a,b=>(show Int from a)==(show Int from b)
 | .bool,a,b=>(show Bool from a)==(show Bool from b)
 | .str,a,b=>(show List Int from a)==(show List Int from b)
 | .unit,_,_=>true
 | .raw _,_,_=>false
 | .sl _ _,_,_=>false
 | .ifc _ _ _,_,_=>false
 | .pair a b,x,y=>eqD a x.1 y.1&&eqD b x.2 y.2
 | .arr _ t,x,y=>eqL (eqD t) x y
theorem Ai{α:Type}{f:α→α→Bool}(h:∀a b,f a b=true↔a=b):∀(x y:List α),eqL f x y=true↔x=y
 |[],[]=>by simp[eqL]
 |_::_,[]=>by simp[eqL]
 |[],_::_=>by simp[eqL]
 |a::x,b::y=>by simp only[eqL,Bool.and_eq_true,h,Ai h x y,List.cons.injEq]
theorem kW:∀{t:T},eqT t=true→∀(x y:t.D),eqD t x y=true↔x=y
 | .int _,_,x,y=>by simp[eqD]
 | .bool,_,x,y=>by simp[eqD]
 | .str,_,x,y=>by simp[eqD]
 | .unit,_,_,_=>by simp[eqD]
 | .raw _,h,_,_=>by simp[eqT]at h
 | .sl _ _,h,_,_=>by simp[eqT]at h
 | .ifc _ _ _,h,_,_=>by simp[eqT]at h
 | .pair a b,h,x,y=>by
   simp only[eqT,Bool.and_eq_true]at h
   simp only[eqD,Bool.and_eq_true,kW h.1,kW h.2]
   exact⟨λg=>Prod.ext g.1 g.2,λg=>by rw[g];exact⟨rfl,rfl⟩⟩
 | .arr _ t,h,x,y=>Ai (λa b=>kW (t:=t) h a b) x y
def jz:(t:T)→t.D→List Lit
 | .int k,x=>[.int k x]
 | .bool,x=>[.bool x]
 | .str,x=>[.string (bs x).data.toList]
 | .unit,_=>[]
 | .raw _,_=>[]
 | .sl _ _,_=>[]
 | .ifc _ _ _,_=>[]
 | .pair a b,x=>jz a x.1++jz b x.2
 | .arr _ t,x=>(List.map (jz t) x).flatten
@[reducible] def dep:T→Nat
  | .pair a b=>max (dep a+1) (dep b)
  | .arr _ t=>dep t+1
  |_=>1
theorem FA{k:IntKind}{n:Int}(h:rng k n):(Lit.int k n).wf=true:=by
 cases k<;>simp only[rng,lo,hi]at h<;>simp[Lit.wf,IntKind.min,IntKind.max,IntKind.signed,IntKind.bits]<;>omega
section
variable {P:Program}{M:Mem}
theorem oG{t:T}{tid:TypeId}(h:aW P t tid=true):P.cellsOf tid=t.size:=by
 obtain⟨i,_,hi,hs,_⟩:=lR h
 simp[Program.cellsOf,hi,hs]
def Hp(P:Program)(M:Mem)(t:T):Prop:=∀{tid:TypeId} {m:Nat},aW P t tid=true→eqT t=true→P.keyTypeAt m tid=true→∀{cs:List Value} {x:t.D},Rep t M cs x→∀D,dep t≤D→P.keyLits D tid cs=some (jz t x)
def FB(P:Program)(M:Mem)(t:T):Prop:=∀{r:List Field} {off m:Nat},dp P t r off=true→eqT t=true→(∀f∈r,P.keyTypeAt m f.type=true)→∀{pre cs:List Value} {x:t.D},pre.length=off→Rep t M cs x→∀D,dep t≤D+1→
 ∃ls,(r.mapM λf=>P.keyLits D f.type (((pre++cs).drop f.offset).take (P.cellsOf f.type)))=some ls∧ls.flatten=jz t x
theorem xU{α:Type}{R:List Value→α→Prop}{s:Nat}{g:List Value→Option (List Lit)}{l:α→List Lit}(hs:∀c x,R c x→c.length=s)(hg:∀c x,R c x→g c=some (l x)):∀(k:Nat) {pre cs:List Value} {xs:List α},pre.length=k*s→RepL R cs xs→
  ((List.range' k xs.length).mapM λi=>g (((pre++cs).drop (i*s)).take s))=some (xs.map l)
 |k,pre,cs,[],hp,h=>by simp
 |k,pre,cs,x::xs,hp,⟨c1,c2,e,h1,h2⟩=>by
  have hl:=hs _ _ h1
  have e0:((pre++cs).drop (k*s)).take s=c1:=by
   rw[e,←hp,List.drop_left,←hl,List.take_left]
  have ih:=xU hs hg (k+1) (pre:=pre++c1) (by rw[List.length_append,hp,hl,Nat.add_mul];omega) h2
  rw[List.append_assoc,←e]at ih
  simp only[List.length_cons,List.range'_succ,List.mapM_cons,e0,hg _ _ h1,List.map_cons]
  simp[ih]
theorem key:∀t:T,Hp P M t∧FB P M t
 | .int k=>⟨fun{tid m} hc _ _ {cs x} h D hD=>by
    obtain⟨i,d,_,_,hu,hd⟩:=bK hc
    split at hd
    ·obtain rfl:=nc hd
     obtain⟨rfl,hr⟩:=h
     cases D with
     |zero=>simp at hD
     |succ D=>simp[Program.keyLits,hu,jz,FA hr]
    ·exact Bool.noConfusion hd,λh=>by simp[dp]at h⟩
 | .bool=>⟨fun{tid m} hc _ _ {cs x} h D hD=>by
    obtain⟨i,d,_,_,hu,hd⟩:=bK hc
    split at hd
    ·obtain rfl:=h
     cases D with
     |zero=>simp at hD
     |succ D=>simp[Program.keyLits,hu,jz]
    ·exact Bool.noConfusion hd,λh=>by simp[dp]at h⟩
 | .str=>⟨fun{tid m} hc _ _ {cs x} h D hD=>by
    obtain⟨i,d,_,_,hu,hd⟩:=bK hc
    split at hd
    ·obtain⟨rfl,hb,hl⟩:=h
     cases D with
     |zero=>simp at hD
     |succ D=>
      have:(bs x).size≤maxLen:=by rw[jY];simp only[most]at hl;simp only[maxLen];omega
      simp[Program.keyLits,hu,jz,this]
    ·exact Bool.noConfusion hd,λh=>by simp[dp]at h⟩
 | .raw _=>⟨λ_ h=>by simp[eqT]at h,λh=>by simp[dp]at h⟩
 | .sl _ _=>⟨λ_ h=>by simp[eqT]at h,λh=>by simp[dp]at h⟩
 | .ifc _ _ _=>⟨λ_ h=>by simp[eqT]at h,λh=>by simp[dp]at h⟩
 | .unit=>⟨fun{tid m} hc _ hk {cs x} h D hD=>by
    obtain⟨i,d,hi,hs,hu,hd⟩:=bK hc
    split at hd
    ·rename_i fs
     obtain rfl:cs=[]:=h
     have hc0:P.cellsOf tid=0:=by simp[Program.cellsOf,hi,hs]
     have hf:fs.toList=[]:=by simpa using hd
     cases D with
     |zero=>simp at hD
     |succ D=>
      have hf2:fs= #[]:=by simpa using hd
      subst hf2
      simp[Program.keyLits,hu,jz,hc0]
    ·exact Bool.noConfusion hd,fun{r off m} h _ _ {pre cs x} _ hr D _=>by
    cases r with
    |nil=>exact⟨[],by simp,by simp[jz]⟩
    |cons f r=>simp[dp]at h⟩
 | .arr n u=>⟨fun{tid m} hc he hk {cs x} h D hD=>by
    have hcells:=oG hc
    obtain⟨i,d,hi,hs,hu,hd⟩:=bK hc
    split at hd
    ·rename_i n' e
     simp only[Bool.and_eq_true]at hd
     obtain rfl:=Nat.eq_of_beq_eq_true hd.1
     cases D with
     |zero=>simp[dep]at hD
     |succ D=>
      cases m with
      |zero=>simp[Program.keyTypeAt]at hk
      |succ m=>
       simp only[Program.keyTypeAt,hu]at hk
       have hce:=oG hd.2
       have hl:=Rep.size h
       obtain⟨h1,h2⟩:=h
       have:=xU (R:=Rep u M) (s:=u.size) (g:=P.keyLits D e) (l:=jz u) (λc x h=>Rep.size h) (λc x h=>(key u).1 hd.2 he hk h D (by simp only[dep]at hD;omega)) 0 (pre:=[]) (by simp) h2
       simp only[List.nil_append,←List.range_eq_range']at this
       rw[h1]at this
       have hcl:cs.length=P.cellsOf tid:=by rw[hcells,hl]
       simp only[Program.keyLits,hu,hcl,if_true,hce,this,Option.map_some,jz]
    ·exact Bool.noConfusion hd,λh=>by simp[dp]at h⟩
 | .pair a b=>by
   have hF:FB P M (.pair a b):=fun{r off m} h he hk {pre cs x} hp hr D hD=>by
    cases r with
    |nil=>simp[dp]at h
    |cons f r=>
     simp only[dp,Bool.and_eq_true]at h
     obtain⟨⟨h1,h2⟩,h3⟩:=h
     have h1:=Nat.eq_of_beq_eq_true h1
     simp only[eqT,Bool.and_eq_true]at he
     obtain⟨c1,c2,rfl,ra,rb⟩:=hr
     have hla:=Rep.size ra
     simp only[dep]at hD
     obtain⟨ls,e1,e2⟩:=(key b).2 h3 he.2 (λg hg=>hk g (by simp[hg])) (pre:=pre++c1) (by rw[List.length_append,hp,hla]) rb D (by omega)
     rw[List.append_assoc]at e1
     have e0:((pre++(c1++c2)).drop f.offset).take (P.cellsOf f.type)=c1:=by
      rw[h1,oG h2,←hp,List.drop_left,←hla,List.take_left]
     refine⟨jz a x.1::ls,?_,by simp[jz,e2]⟩
     simp only[List.mapM_cons,e0,(key a).1 h2 he.1 (hk f (by simp)) ra D (by omega),e1]
     rfl
   refine⟨fun{tid m} hc he hk {cs x} h D hD=>?_,hF⟩
   have hcells:=oG hc
   obtain⟨i,d,hi,hs,hu,hd⟩:=bK hc
   split at hd
   ·rename_i fs
    split at hd
    ·rename_i f r hfs
     have hst:dp P (.pair a b) (f::r) 0=true:=by
      simp only[dp,Nat.zero_add];exact hd
     cases D with
     |zero=>simp only[dep]at hD;omega
     |succ D=>
      cases m with
      |zero=>simp[Program.keyTypeAt]at hk
      |succ m=>
       simp only[Program.keyTypeAt,hu,Bool.and_eq_true]at hk
       have hall:=hk.1.1
       rw[←Array.all_toList,hfs]at hall
       simp only[List.all_eq_true,Bool.and_eq_true]at hall
       have hnm:fs.all (fun f=>f.name != "_")=true:=by
        rw[←Array.all_toList,hfs]
        simp only[List.all_eq_true]
        exactλg hg=>(hall g hg).1
       obtain⟨ls,e1,e2⟩:=hF hst he (λg hg=>(hall g hg).2) (pre:=[]) rfl h D hD
       have hcl:cs.length=P.cellsOf tid:=by rw[hcells,Rep.size h]
       simp only[Program.keyLits,hu,hcl,hnm,and_self,if_true,hfs]
       simp only[List.nil_append]at e1
       rw[e1,Option.map_some,e2]
    ·exact Bool.noConfusion hd
   ·exact Bool.noConfusion hd
@[reducible] def wid:T→Nat
  | .int _=>1| .bool=>1| .str=>1
  | .unit=>0| .raw _=>0| .sl _ _=>0| .ifc _ _ _=>0
  | .pair a b=>wid a+wid b
  | .arr n t=>n*wid t
theorem xV{α:Type}{R:List Value→α→Prop}{l:α→List Lit}{n:Nat}(h:∀c x,R c x→(l x).length=n):∀{cs:List Value} {xs:List α},RepL R cs xs→((xs.map l).flatten).length=xs.length*n
 |_,[],_=>by simp
 |_,x::xs,⟨_,_,_,a,b⟩=>by simp only[List.map_cons,List.flatten_cons,List.length_append,h _ _ a,xV h b,List.length_cons,Nat.add_mul];omega
theorem n8:∀{t:T} {cs:List Value} {x:t.D},Rep t M cs x→(jz t x).length=wid t
 | .int _,_,_,_=>rfl
 | .bool,_,_,_=>rfl
 | .str,_,_,_=>rfl
 | .unit,_,_,_=>rfl
 | .raw _,_,_,_=>rfl
 | .sl _ _,_,_,_=>rfl
 | .ifc _ _ _,_,_,_=>rfl
 | .pair a b,_,_,⟨_,_,_,h1,h2⟩=>by simp only[jz,List.length_append,n8 h1,n8 h2]
 | .arr n t,_,x,⟨h1,h2⟩=>by
   simp only[jz]
   rw[xV (λc x h=>n8 h) h2]
   simp only[wid];rw[←h1]
theorem EK{x y:List Int}(hx:aQ x)(hy:aQ y)(h:(bs x).data.toList=(bs y).data.toList):x=y:=by
 have h:x.map (λc=>UInt8.ofNat c.toNat)=y.map (λc=>UInt8.ofNat c.toNat):=by
  simpa only[bs,List.toList_toArray]using h
 apply List.ext_getElem?
 intro i
 have:=congrArg (λl=>l[i]?) h
 simp only[List.getElem?_map]at this
 cases ha:x[i]? with
 |none=>cases hb:y[i]? with
  |none=>rfl
  |some b=>rw[ha,hb]at this;cases this
 |some a=>cases hb:y[i]? with
  |none=>rw[ha,hb]at this;cases this
  |some b=>
   rw[ha,hb]at this
   simp only[Option.map_some,Option.some.injEq]at this
   have h1:=hx a (List.mem_of_getElem? ha)
   have h2:=hy b (List.mem_of_getElem? hb)
   have:=congrArg UInt8.toNat this
   simp at this
   congr 1
   omega
theorem xW{α:Type}{R:List Value→α→Prop}{l:α→List Lit}{n:Nat}(hn:∀c x,R c x→(l x).length=n)(hi:∀c d x y,R c x→R d y→l x=l y→x=y):∀{cs ds:List Value} {xs ys:List α},RepL R cs xs→RepL R ds ys→xs.length=ys.length→(xs.map l).flatten=(ys.map l).flatten→xs=ys
 |_,_,[],[],_,_,_,_=>rfl
 |_,_,x::xs,y::ys,⟨_,_,_,a,b⟩,⟨_,_,_,c,d⟩,hl,h=>by
  simp only[List.map_cons,List.flatten_cons]at h
  have:=List.append_inj h (by rw[hn _ _ a,hn _ _ c])
  rw[hi _ _ _ _ a c this.1,xW hn hi b d (by simpa using hl) this.2]
 |_,_,[],_::_,_,_,hl,_=>by simp at hl
 |_,_,_::_,[],_,_,hl,_=>by simp at hl
theorem rZ:∀{t:T},eqT t=true→∀{cs ds:List Value} {x y:t.D},Rep t M cs x→Rep t M ds y→jz t x=jz t y→x=y
 | .int _,_,_,_,_,_,_,_,h=>by simpa [jz]using h
 | .bool,_,_,_,_,_,_,_,h=>by simpa [jz]using h
 | .str,_,_,_,_,_,h1,h2,h=>EK h1.2.1 h2.2.1 (by simpa only[jz,List.cons.injEq,Lit.string.injEq,and_true]using h)
 | .unit,_,_,_,_,_,_,_,_=>rfl
 | .raw _,h,_,_,_,_,_,_,_=>by simp[eqT]at h
 | .sl _ _,h,_,_,_,_,_,_,_=>by simp[eqT]at h
 | .ifc _ _ _,h,_,_,_,_,_,_,_=>by simp[eqT]at h
 | .pair a b,he,_,_,x,y,⟨_,_,_,a1,b1⟩,⟨_,_,_,a2,b2⟩,h=>by
   simp only[eqT,Bool.and_eq_true]at he
   have:=List.append_inj h (by rw[n8 a1,n8 a2])
   exact Prod.ext (rZ he.1 a1 a2 this.1) (rZ he.2 b1 b2 this.2)
 | .arr _ t,he,_,_,x,y,⟨l1,r1⟩,⟨l2,r2⟩,h=>xW (λc x h=>n8 h) (λ_ _ _ _ a b e=>rZ (t:=t) he a b e) r1 r2 (by rw[l1,l2]) h
theorem wP{t:T}{tid:TypeId}(h:aW P t tid=true){cs:List Value}{x:t.D}(hr:Rep t M cs x):(mk t cs).formed P tid=true∧(mk t cs).cells.toList=cs:=by
 obtain⟨i,d,hi,hs,hu,hd⟩:=lR h
 by_cases ha:t.isAgg=true
 ·rw[ha]at hd
  have hl:=Rep.size hr
  have:mk t cs= .agg cs.toArray:=by simp[mk,ha]
  rw[this]
  refine⟨?_,by simp[Value.cells]⟩
  cases d<;>simp[AZ]at hd<;>simp[Value.formed,hu,Program.cellsOf,hi,hs,hl]
 ·have ha:t.isAgg=false:=by simpa using ha
  obtain⟨v,rfl,ho⟩:=nb ha hr
  have:mk t [v]=v:=by simp[mk,ha]
  rw[this]
  rw[ha]at hd
  constructor
  ·cases d<;>simp[AZ]at hd<;>cases v<;>simp[one]at ho<;>simp[Value.formed,hu]
  ·cases v<;>simp[one]at ho<;>rfl
end
section
variable {P:Program}{Tb:Tab}{F:Fr}{n:Nat}{E:Env}{L:List Res}
theorem Aj{w:World}{M:Mem}{t:T}{tid:TypeId}(m:Nat)(hm:Nat.ble m 10000=true)(ht:aW P t tid=true)(he:eqT t=true)(hk:P.keyTypeAt m tid=true){v v':Value}{x y:t.D}(hv:Holds t M v x)(hv':Holds t M v' y):
  (Op.equal tid v v').run P w= .ok (eqD t x y) w:=by
 obtain⟨cs,rfl,r1⟩:=hv
 obtain⟨ds,rfl,r2⟩:=hv'
 obtain⟨f1,c1⟩:=wP ht r1
 obtain⟨f2,c2⟩:=wP ht r2
 have hm:=Nat.le_of_ble_eq_true hm
 have:=run_equalIn_deep (P:=P) (10000 - m) m tid hk w (dep t) (dep t) _ _ _ _ f1 f2 (by rw[c1];exact(key t).1 ht he hk r1 _ (Nat.le_refl _)) (by rw[c2];exact(key t).1 ht he hk r2 _ (Nat.le_refl _))
 obtain⟨r,hr,hiff⟩:=this
 have e:10000 - m+m=10000:=by omega
 rw[e]at hr
 have:r=eqD t x y:=by
  rw[Bool.eq_iff_iff,hiff,kW he]
  exact⟨λh=>rZ he r1 r2 h,λh=>by rw[h]⟩
 rw[←this]
 exact hr
theorem BZ{w:World}{tid:TypeId}{x y':Operand}{u v:Array Value}(hg:P.eqGuardType P.depth tid=false):(eqGuard .eql tid x y' (.agg u) (.agg v)).run P w= .ok () w:=by
 simp[eqGuard,program,Sem.run,hg]
theorem A5{w:World}{tid:TypeId}{x y':Operand}{u v:Array Value}(hg:P.eqGuardType P.depth tid=false):(eqGuard .neq tid x y' (.agg u) (.agg v)).run P w= .ok () w:=by
 simp[eqGuard,program,Sem.run,hg]
theorem ub{R:World→World→Prop}{x y':Operand}{tid w0:TypeId}{t:T}{a b:t.D}(m:Nat)(hx:ev E x=some (.one t a))(hy:ev E y'=some (.one t b))(hm:Nat.ble m 10000=true)(ha:t.isAgg=true)(ht:aW P t tid=true)(he:eqT t=true)(hk:P.keyTypeAt m tid=true)(hg:P.eqGuardType P.depth tid=false):
  Yields R P F n E L (.binOp .eql tid x y' w0) (.one .bool (eqD t a b)):=λo ho M a' w c=>by
 have e1:=aJ c hx
 have e2:=aJ c hy
 obtain⟨cs,h1,r1⟩:=e1
 obtain⟨ds,h2,r2⟩:=e2
 have g1:mk t cs= .agg cs.toArray:=by simp[mk,ha]
 have g2:mk t ds= .agg ds.toArray:=by simp[mk,ha]
 refine⟨_,holds_bool.2 rfl,λw' _=>?_⟩
 have hr:=Aj (w:=w') m hm ht he hk ⟨cs,rfl,r1⟩ ⟨ds,rfl,r2⟩
 obtain⟨dst,op',ty,pos,after,guard⟩:=o
 simp only at ho;subst ho
 refine bz ?_
 rw[g1,g2]at hr
 rw[ao,h1,h2,g1,g2,BZ hg]
 simp only[binOp,ao,hr];rfl
theorem oH{R:World→World→Prop}{x y':Operand}{tid w0:TypeId}{t:T}{a b:t.D}(m:Nat)(hx:ev E x=some (.one t a))(hy:ev E y'=some (.one t b))(hm:Nat.ble m 10000=true)(ha:t.isAgg=true)(ht:aW P t tid=true)(he:eqT t=true)(hk:P.keyTypeAt m tid=true)(hg:P.eqGuardType P.depth tid=false):
  Yields R P F n E L (.binOp .neq tid x y' w0) (.one .bool (!eqD t a b)):=λo ho M a' w c=>by
 have e1:=aJ c hx
 have e2:=aJ c hy
 obtain⟨cs,h1,r1⟩:=e1
 obtain⟨ds,h2,r2⟩:=e2
 have g1:mk t cs= .agg cs.toArray:=by simp[mk,ha]
 have g2:mk t ds= .agg ds.toArray:=by simp[mk,ha]
 refine⟨_,holds_bool.2 rfl,λw' _=>?_⟩
 have hr:=Aj (w:=w') m hm ht he hk ⟨cs,rfl,r1⟩ ⟨ds,rfl,r2⟩
 obtain⟨dst,op',ty,pos,after,guard⟩:=o
 simp only at ho;subst ho
 refine bz ?_
 rw[g1,g2]at hr
 rw[ao,h1,h2,g1,g2,A5 hg]
 simp only[binOp,ao,hr];rfl
theorem A6{R:World→World→Prop}{x y':Operand}{tys:Array TypeId}{k:IntKind}{p q:Int}(hx:ev E x=some (.one (.int k) p))(hy:ev E y'=some (.one (.int k) q)):
  Yields R P F n E L (.call ⟨.builtin .max,#[x,y'],tys⟩) (.one (.int k) (max p q)):=λo ho M a w c=>by
 obtain⟨e1,r1⟩:=holds_int.1 (aJ c hx)
 obtain⟨e2,r2⟩:=holds_int.1 (aJ c hy)
 refine⟨.int k (max p q),holds_int.2 ⟨rfl,by simp only[rng]at*;omega⟩,λw' _=>?_⟩
 obtain⟨dst,op',ty,pos,after,guard⟩:=o
 simp only at ho;subst ho
 simp only[execOp,resolve,ao,aG,invoke,Go.builtin]
 have: #[x,y'].map a.eval= #[.int k p,.int k q]:=by simp[e1,e2]
 rw[this]
 have e:max p q=if q>p then q else p:=by omega
 rw[e];rfl
theorem vy{R:World→World→Prop}{x y':Operand}{tys:Array TypeId}{k:IntKind}{p q:Int}(hx:ev E x=some (.one (.int k) p))(hy:ev E y'=some (.one (.int k) q)):
  Yields R P F n E L (.call ⟨.builtin .min,#[x,y'],tys⟩) (.one (.int k) (min p q)):=λo ho M a w c=>by
 obtain⟨e1,r1⟩:=holds_int.1 (aJ c hx)
 obtain⟨e2,r2⟩:=holds_int.1 (aJ c hy)
 refine⟨.int k (min p q),holds_int.2 ⟨rfl,by simp only[rng]at*;omega⟩,λw' _=>?_⟩
 obtain⟨dst,op',ty,pos,after,guard⟩:=o
 simp only at ho;subst ho
 simp only[execOp,resolve,ao,aG,invoke,Go.builtin]
 have: #[x,y'].map a.eval= #[.int k p,.int k q]:=by simp[e1,e2]
 rw[this]
 have e:min p q=if q<p then q else p:=by omega
 rw[e];rfl
end
end Sx
