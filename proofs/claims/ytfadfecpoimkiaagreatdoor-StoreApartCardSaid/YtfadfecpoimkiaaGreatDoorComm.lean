import Derived.Test.YtfadfecpoimkiaaGreatDoorDefs
namespace Sx
open Go
theorem zp(a b:Int):IntKind.wrap .i64 (IntKind.wrap .i64 a+b)=IntKind.wrap .i64 (a+b):=by
 simp only[IntKind.wrap,IntKind.signed,IntKind.bits,Bool.true_and,decide_eq_true_eq,ge_iff_le]
 split<;>split<;>split<;>omega
theorem rj(a0:aB):sq (dY a0) (λ_ _=>True):=ym λa b _ s=>by
 unfold dY
 simp only[aP]
 cases aA .str a a0.2.1 with
 |none=>cases aA .str b a0.2.1<;>rfl
 |some f=>
  cases aA .str b a0.2.1 with
  |none=>rfl
  |some g=>
   simp only[Option.bind_some,Option.some.injEq]
   rw[zp,zp]
   congr 1;omega
theorem ku{V:Type}{a b:List Int}(h:a≠b)(v:V)(l:List (List Int×V)):aA .str b (cm .str a v l)=aA .str b l:=by
 induction l with
 |nil=>rfl
 |cons p l ih=>
  have ih':Option.map (·.2) (List.find? (λq:List Int×V=>keq .str q.1 b) (l.map λp=>if keq .str p.1 a=true then(p.1,v)else p))=Option.map (·.2) (List.find? (λq:List Int×V=>keq .str q.1 b) l):=ih
  show Option.map (·.2) (List.find? _ ((if keq .str p.1 a=true then(p.1,v)else p)::l.map _))=Option.map (·.2) (List.find? _ (p::l))
  by_cases hp:keq .str p.1 a=true
  ·rw[if_pos hp]
   have hpa:p.1=a:=by simpa [keq]using hp
   have hb:keq .str p.1 b=false:=by rw[hpa];simp[keq,h]
   rw[List.find?_cons,List.find?_cons]
   simp only[hb]
   exact ih'
  ·rw[if_neg hp]
   rw[List.find?_cons,List.find?_cons]
   split
   ·rfl
   ·exact ih'
theorem C6{V:Type}{a b:List Int}(h:a≠b)(v w:V)(l:List (List Int×V)):cm .str a v (cm .str b w l)=cm .str b w (cm .str a v l):=by
 simp only[cm,List.map_map]
 refine List.map_congr_left λp _=>?_
 simp only[Function.comp]
 by_cases ha:keq .str p.1 a=true<;>by_cases hb:keq .str p.1 b=true<;>simp[ha,hb]
 exfalso
 have:p.1=a:=by simpa [keq]using ha
 have:p.1=b:=by simpa [keq]using hb
 simp_all
theorem qp(a1:List (List Int×Int×Int×List Int×Unit)):sq (ip a1) (λ_ _=>True):=ym λa b hab s=>by
 unfold ip
 cases ha:aA .str a s with
 |none=>
  cases hb:aA .str b s with
  |none=>rfl
  |some g=>
   simp only[Option.bind_none,Option.bind_some]
   cases hO g b a1 with
   |none=>rfl
   |some g'=>simp only[Option.bind_some];rw[ku (Ne.symm hab),ha];rfl
 |some f=>
  simp only[Option.bind_some]
  cases hf:hO f a a1 with
  |none=>
   cases hb:aA .str b s with
   |none=>rfl
   |some g=>
    simp only[Option.bind_none,Option.bind_some]
    cases hO g b a1 with
    |none=>rfl
    |some g'=>simp only[Option.bind_some];rw[ku (Ne.symm hab),ha];simp only[Option.bind_some,hf,Option.bind_none]
  |some f'=>
   simp only[Option.bind_some]
   rw[ku hab]
   cases hb:aA .str b s with
   |none=>rfl
   |some g=>
    simp only[Option.bind_some]
    cases hg:hO g b a1 with
    |none=>rfl
    |some g'=>
     simp only[Option.bind_some]
     rw[ku (Ne.symm hab),ha]
     simp only[Option.bind_some,hf]
     rw[C6 (Ne.symm hab)]
theorem xc{V:Type}{a b:Int}(h:a≠b)(v w:V):∀l:List (Int×V),cP (.int .i64) a v (cP (.int .i64) b w l)=cP (.int .i64) b w (cP (.int .i64) a v l)
 |[]=>by
  simp only[cP,klt]
  by_cases h1:a<b
  ·have:¬b<a:=by omega
   simp[h1,this]
  ·have:b<a:=by omega
   simp[h1,this]
 |p::l=>by
  simp only[cP,klt]
  by_cases ha:a<p.1<;>by_cases hb:b<p.1<;>by_cases h1:a<b<;>simp[cP,klt,ha,hb,h1]<;>first
   |omega
   |exact xc h v w l
   |(have:b<a:=by omega
     simp[this])
   |(have:¬b<a:=by omega
     simp[this,cP,klt,ha,hb])
   |skip
theorem qi{V:Type}{a b:Int}(h:a≠b)(v:V):∀l:List (Int×V),aA (.int .i64) b (cP (.int .i64) a v l)=aA (.int .i64) b l
 |[]=>by simp[cP,aA,keq,h]
 |p::l=>by
  have ih:=qi h v l
  simp only[aA]at ih
  simp only[cP]
  split
  ·simp[aA,List.find?_cons,keq,h]
  ·simp only[aA,List.find?_cons]
   split
   ·rfl
   ·exact ih
theorem uQ{V:Type}{a:Int}(v:V):∀l:List (Int×V),(cP (.int .i64) a v l).length=l.length+1
 |[]=>rfl
 |p::l=>by
  simp only[cP]
  split
  ·rfl
  ·simp[uQ v l]
theorem vr{V:Type}{a:Int}{v:V}{l:List (Int×V)}(h:aA (.int .i64) a l=none):dn (.int .i64) a v l=cP (.int .i64) a v l:=by unfold dn;rw[tC h]
theorem rk(a0:aF)(a1:List Int)(a2:List (List Int×Int×Int×List Int×Unit)):sq (eS a0 a1 a2) (λs l=>l.Nodup∧∀k∈l,aA (.int .i64) k s.2=none):=by
 have hstep:∀a (s:Int×List (Int×(List Int×Int×Int×List Int×Unit))),eS a0 a1 a2 a s=(eO a2 a1 a).bind λr=>if s.2.length<4611686018427387904 then some (if(r.2.2.1==1||r.2.2.1==2)=true then max s.1 (min (IntKind.wrap .i64 (IntKind.wrap .i64 (a+1)*64)) (a0.1.length:Int))else s.1,dn (.int .i64) a r s.2)else none:=λa s=>by
  unfold eS
  simp only[aP]
  congr 1;funext r
  split
  ·split<;>rfl
  ·rfl
 refine⟨λs a l s' ⟨hn,hg⟩ hs=>⟨(List.nodup_cons.1 hn).2,λk hk=>?_⟩,λs l l' p ⟨hn,hg⟩=>⟨p.nodup_iff.1 hn,λk hk=>hg k (p.mem_iff.2 hk)⟩,λs a b l hab ⟨hn,hg⟩=>?_⟩
 ·rw[hstep]at hs
  have hak:a≠k:=λe=>(List.nodup_cons.1 hn).1 (e▸hk)
  cases hr:eO a2 a1 a with
  |none=>rw[hr]at hs;cases hs
  |some r=>
   rw[hr]at hs
   simp only[Option.bind_some]at hs
   split at hs
   ·simp only[Option.some.injEq]at hs
    subst hs
    show aA (.int .i64) k (dn (.int .i64) a r s.2)=none
    rw[vr (hg a (by simp)),qi hak]
    exact hg k (by simp[hk])
   ·cases hs
 ·have ha:=hg a (by simp)
  have hb:=hg b (by simp)
  have key:∀(a b:Int),a≠b→aA (.int .i64) a s.2=none→aA (.int .i64) b s.2=none→(eS a0 a1 a2 a s).bind (eS a0 a1 a2 b)=(eO a2 a1 a).bind λr=>(eO a2 a1 b).bind λq=>if s.2.length+1<4611686018427387904 then
    some (if(q.2.2.1==1||q.2.2.1==2)=true then max (if(r.2.2.1==1||r.2.2.1==2)=true then max s.1 (min (IntKind.wrap .i64 (IntKind.wrap .i64 (a+1)*64)) (a0.1.length:Int))else s.1) (min (IntKind.wrap .i64 (IntKind.wrap .i64 (b+1)*64)) (a0.1.length:Int))else(if(r.2.2.1==1||r.2.2.1==2)=true then max s.1 (min (IntKind.wrap .i64 (IntKind.wrap .i64 (a+1)*64)) (a0.1.length:Int))else s.1),cP (.int .i64) b q (cP (.int .i64) a r s.2))else none:=λa b hab ha hb=>by
   rw[hstep]
   cases eO a2 a1 a with
   |none=>rfl
   |some r=>
    simp only[Option.bind_some]
    by_cases h1:s.2.length<4611686018427387904
    ·rw[if_pos h1]
     simp only[Option.bind_some]
     rw[hstep]
     cases eO a2 a1 b with
     |none=>rfl
     |some q=>
      simp only[Option.bind_some]
      rw[vr ha,uQ,vr (by rw[qi hab];exact hb)]
    ·rw[if_neg h1]
     cases eO a2 a1 b with
     |none=>rfl
     |some q=>
      simp only[Option.bind_some,Option.bind_none]
      rw[if_neg (by omega)]
  rw[key a b hab ha hb,key b a (Ne.symm hab) hb ha]
  cases eO a2 a1 a with
  |none=>cases eO a2 a1 b<;>rfl
  |some r=>
   cases eO a2 a1 b with
   |none=>rfl
   |some q=>
    simp only[Option.bind_some]
    rw[xc (Ne.symm hab)]
    have hmax:(if(q.2.2.1==1||q.2.2.1==2)=true then max (if(r.2.2.1==1||r.2.2.1==2)=true then max s.1 (min (IntKind.wrap .i64 (IntKind.wrap .i64 (a+1)*64)) (a0.1.length:Int))else s.1) (min (IntKind.wrap .i64 (IntKind.wrap .i64 (b+1)*64)) (a0.1.length:Int))else(if(r.2.2.1==1||r.2.2.1==2)=true then max s.1 (min (IntKind.wrap .i64 (IntKind.wrap .i64 (a+1)*64)) (a0.1.length:Int))else s.1))=(if(r.2.2.1==1||r.2.2.1==2)=true then max (if(q.2.2.1==1||q.2.2.1==2)=true then max s.1 (min (IntKind.wrap .i64 (IntKind.wrap .i64 (b+1)*64)) (a0.1.length:Int))else s.1) (min (IntKind.wrap .i64 (IntKind.wrap .i64 (a+1)*64)) (a0.1.length:Int))else(if(q.2.2.1==1||q.2.2.1==2)=true then max s.1 (min (IntKind.wrap .i64 (IntKind.wrap .i64 (b+1)*64)) (a0.1.length:Int))else s.1)):=by
     by_cases hr:(r.2.2.1==1||r.2.2.1==2)=true<;>by_cases hq:(q.2.2.1==1||q.2.2.1==2)=true<;>simp only[hr,hq,if_true]<;>first
      |rfl
      |omega
      |skip
    rw[hmax]
end Sx
