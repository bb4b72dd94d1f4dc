import Derived.Test.YtfadfecpoimkiaaGreatDoorDefs
namespace Sx
open Go
theorem Al(a b:Int):IntKind.wrap .i64 (IntKind.wrap .i64 a+b)=IntKind.wrap .i64 (a+b):=by
 simp only[IntKind.wrap,IntKind.signed,IntKind.bits,Bool.true_and,decide_eq_true_eq,ge_iff_le]
 split<;>split<;>split<;>omega
theorem rX(a0:aU):tf (jn a0) (λ_ _=>True):=zd λa b _ s=>by
 unfold jn
 simp only[aE]
 cases bh .str a a0.2.1 with
 |none=>cases bh .str b a0.2.1<;>rfl
 |some f=>
  cases bh .str b a0.2.1 with
  |none=>rfl
  |some g=>
   simp only[Option.bind_some,Option.some.injEq]
   rw[Al,Al]
   congr 1;omega
theorem oy{V:Type}{a b:List Int}(h:a≠b)(v:V)(l:List (List Int×V)):bh .str b (dE .str a v l)=bh .str b l:=by
 induction l with
 |nil=>rfl
 |cons p l ih=>
  have ih':Option.map (·.2) (List.find? (λq:List Int×V=>keq .str q.1 b) (l.map λp=>if keq .str p.1 a=true then(p.1,v)else p))=Option.map (·.2) (List.find? (λq:List Int×V=>keq .str q.1 b) l):=ih
  show Option.map (·.2) (List.find? _ ((if keq .str p.1 a=true then(p.1,v)else p)::l.map _))=Option.map (·.2) (List.find? _ (p::l))
  by_cases hp:keq .str p.1 a=true
  ·rw[if_pos hp]
   have hpa:p.1=a:=by simpa [keq]using hp
   have hb:keq .str p.1 b=false:=by rw[hpa];simp[keq,h]
   rw[List.find?_cons,List.find?_cons]
   simp only[hb]
   exact ih'
  ·rw[if_neg hp]
   rw[List.find?_cons,List.find?_cons]
   split
   ·rfl
   ·exact ih'
theorem Dn{V:Type}{a b:List Int}(h:a≠b)(v w:V)(l:List (List Int×V)):dE .str a v (dE .str b w l)=dE .str b w (dE .str a v l):=by
 simp only[dE,List.map_map]
 refine List.map_congr_left λp _=>?_
 simp only[Function.comp]
 by_cases ha:keq .str p.1 a=true<;>by_cases hb:keq .str p.1 b=true<;>simp[ha,hb]
 exfalso
 have:p.1=a:=by simpa [keq]using ha
 have:p.1=b:=by simpa [keq]using hb
 simp_all
theorem qQ(a1:List (List Int×Int×Int×List Int×Unit)):tf (iS a1) (λ_ _=>True):=zd λa b hab s=>by
 unfold iS
 cases ha:bh .str a s with
 |none=>
  cases hb:bh .str b s with
  |none=>rfl
  |some g=>
   simp only[Option.bind_none,Option.bind_some]
   cases iF g b a1 with
   |none=>rfl
   |some g'=>simp only[Option.bind_some];rw[oy (Ne.symm hab),ha];rfl
 |some f=>
  simp only[Option.bind_some]
  cases hf:iF f a a1 with
  |none=>
   cases hb:bh .str b s with
   |none=>rfl
   |some g=>
    simp only[Option.bind_none,Option.bind_some]
    cases iF g b a1 with
    |none=>rfl
    |some g'=>simp only[Option.bind_some];rw[oy (Ne.symm hab),ha];simp only[Option.bind_some,hf,Option.bind_none]
  |some f'=>
   simp only[Option.bind_some]
   rw[oy hab]
   cases hb:bh .str b s with
   |none=>rfl
   |some g=>
    simp only[Option.bind_some]
    cases hg:iF g b a1 with
    |none=>rfl
    |some g'=>
     simp only[Option.bind_some]
     rw[oy (Ne.symm hab),ha]
     simp only[Option.bind_some,hf]
     rw[Dn (Ne.symm hab)]
theorem xX{V:Type}{a b:Int}(h:a≠b)(v w:V):∀l:List (Int×V),gb (.int .i64) a v (gb (.int .i64) b w l)=gb (.int .i64) b w (gb (.int .i64) a v l)
 |[]=>by
  simp only[gb,klt]
  by_cases h1:a<b
  ·have:¬b<a:=by omega
   simp[h1,this]
  ·have:b<a:=by omega
   simp[h1,this]
 |p::l=>by
  simp only[gb,klt]
  by_cases ha:a<p.1<;>by_cases hb:b<p.1<;>by_cases h1:a<b<;>simp[gb,klt,ha,hb,h1]<;>first
   |omega
   |exact xX h v w l
   |(have:b<a:=by omega
     simp[this])
   |(have:¬b<a:=by omega
     simp[this,gb,klt,ha,hb])
   |skip
theorem qJ{V:Type}{a b:Int}(h:a≠b)(v:V):∀l:List (Int×V),bh (.int .i64) b (gb (.int .i64) a v l)=bh (.int .i64) b l
 |[]=>by simp[gb,bh,keq,h]
 |p::l=>by
  have ih:=qJ h v l
  simp only[bh]at ih
  simp only[gb]
  split
  ·simp[bh,List.find?_cons,keq,h]
  ·simp only[bh,List.find?_cons]
   split
   ·rfl
   ·exact ih
theorem vO{V:Type}{a:Int}(v:V):∀l:List (Int×V),(gb (.int .i64) a v l).length=l.length+1
 |[]=>rfl
 |p::l=>by
  simp only[gb]
  split
  ·rfl
  ·simp[vO v l]
theorem wk{V:Type}{a:Int}{v:V}{l:List (Int×V)}(h:bh (.int .i64) a l=none):fN (.int .i64) a v l=gb (.int .i64) a v l:=by unfold fN;rw[uy h]
theorem rY(a0:aV)(a1:List Int)(a2:List (List Int×Int×Int×List Int×Unit)):tf (fG a0 a1 a2) (λs l=>l.Nodup∧∀k∈l,bh (.int .i64) k s.2=none):=by
 have hstep:∀a (s:Int×List (Int×(List Int×Int×Int×List Int×Unit))),fG a0 a1 a2 a s=(fu a2 a1 a).bind λr=>if s.2.length<4611686018427387904 then some (if(r.2.2.1==1||r.2.2.1==2)=true then max s.1 (min (IntKind.wrap .i64 (IntKind.wrap .i64 (a+1)*64)) (a0.1.length:Int))else s.1,fN (.int .i64) a r s.2)else none:=λa s=>by
  unfold fG
  simp only[aE]
  congr 1;funext r
  split
  ·split<;>rfl
  ·rfl
 refine⟨λs a l s' ⟨hn,hg⟩ hs=>⟨(List.nodup_cons.1 hn).2,λk hk=>?_⟩,λs l l' p ⟨hn,hg⟩=>⟨p.nodup_iff.1 hn,λk hk=>hg k (p.mem_iff.2 hk)⟩,λs a b l hab ⟨hn,hg⟩=>?_⟩
 ·rw[hstep]at hs
  have hak:a≠k:=λe=>(List.nodup_cons.1 hn).1 (e▸hk)
  cases hr:fu a2 a1 a with
  |none=>rw[hr]at hs;cases hs
  |some r=>
   rw[hr]at hs
   simp only[Option.bind_some]at hs
   split at hs
   ·simp only[Option.some.injEq]at hs
    subst hs
    show bh (.int .i64) k (fN (.int .i64) a r s.2)=none
    rw[wk (hg a (by simp)),qJ hak]
    exact hg k (by simp[hk])
   ·cases hs
 ·have ha:=hg a (by simp)
  have hb:=hg b (by simp)
  have key:∀(a b:Int),a≠b→bh (.int .i64) a s.2=none→bh (.int .i64) b s.2=none→(fG a0 a1 a2 a s).bind (fG a0 a1 a2 b)=(fu a2 a1 a).bind λr=>(fu a2 a1 b).bind λq=>if s.2.length+1<4611686018427387904 then
    some (if(q.2.2.1==1||q.2.2.1==2)=true then max (if(r.2.2.1==1||r.2.2.1==2)=true then max s.1 (min (IntKind.wrap .i64 (IntKind.wrap .i64 (a+1)*64)) (a0.1.length:Int))else s.1) (min (IntKind.wrap .i64 (IntKind.wrap .i64 (b+1)*64)) (a0.1.length:Int))else(if(r.2.2.1==1||r.2.2.1==2)=true then max s.1 (min (IntKind.wrap .i64 (IntKind.wrap .i64 (a+1)*64)) (a0.1.length:Int))else s.1),gb (.int .i64) b q (gb (.int .i64) a r s.2))else none:=λa b hab ha hb=>by
   rw[hstep]
   cases fu a2 a1 a with
   |none=>rfl
   |some r=>
    simp only[Option.bind_some]
    by_cases h1:s.2.length<4611686018427387904
    ·rw[if_pos h1]
     simp only[Option.bind_some]
     rw[hstep]
     cases fu a2 a1 b with
     |none=>rfl
     |some q=>
      simp only[Option.bind_some]
      rw[wk ha,vO,wk (by rw[qJ hab];exact hb)]
    ·rw[if_neg h1]
     cases fu a2 a1 b with
     |none=>rfl
     |some q=>
      simp only[Option.bind_some,Option.bind_none]
      rw[if_neg (by omega)]
  rw[key a b hab ha hb,key b a (Ne.symm hab) hb ha]
  cases fu a2 a1 a with
  |none=>cases fu a2 a1 b<;>rfl
  |some r=>
   cases fu a2 a1 b with
   |none=>rfl
   |some q=>
    simp only[Option.bind_some]
    rw[xX (Ne.symm hab)]
    have hmax:(if(q.2.2.1==1||q.2.2.1==2)=true then max (if(r.2.2.1==1||r.2.2.1==2)=true then max s.1 (min (IntKind.wrap .i64 (IntKind.wrap .i64 (a+1)*64)) (a0.1.length:Int))else s.1) (min (IntKind.wrap .i64 (IntKind.wrap .i64 (b+1)*64)) (a0.1.length:Int))else(if(r.2.2.1==1||r.2.2.1==2)=true then max s.1 (min (IntKind.wrap .i64 (IntKind.wrap .i64 (a+1)*64)) (a0.1.length:Int))else s.1))=(if(r.2.2.1==1||r.2.2.1==2)=true then max (if(q.2.2.1==1||q.2.2.1==2)=true then max s.1 (min (IntKind.wrap .i64 (IntKind.wrap .i64 (b+1)*64)) (a0.1.length:Int))else s.1) (min (IntKind.wrap .i64 (IntKind.wrap .i64 (a+1)*64)) (a0.1.length:Int))else(if(q.2.2.1==1||q.2.2.1==2)=true then max s.1 (min (IntKind.wrap .i64 (IntKind.wrap .i64 (b+1)*64)) (a0.1.length:Int))else s.1)):=by
     by_cases hr:(r.2.2.1==1||r.2.2.1==2)=true<;>by_cases hq:(q.2.2.1==1||q.2.2.1==2)=true<;>simp only[hr,hq,if_true]<;>first
      |rfl
      |omega
      |skip
    rw[hmax]
end Sx
