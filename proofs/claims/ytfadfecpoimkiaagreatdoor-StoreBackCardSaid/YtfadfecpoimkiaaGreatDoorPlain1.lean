/-
  Own work, of several texts. Bytes of numbers, and a writer's, without a program in sight.
-/
import Derived.Test.YtfadfecpoimkiaaGreatDoorDefs
import Derived.KernelRfl
namespace Sx
open Go
theorem bg{n:Int}(h0: -9223372036854775808≤n)(h:n<9223372036854775808):IntKind.wrap .i64 n=n:=by
 simp only[IntKind.wrap,IntKind.bits,IntKind.signed,Bool.true_and]
 split<;>simp_all<;>omega
theorem nh{n:Int}(h0:0≤n)(h:n<18446744073709551616):IntKind.wrap .u64 n=n:=by
 simp only[IntKind.wrap,IntKind.bits,IntKind.signed,Bool.false_and,Bool.false_eq_true,if_false];omega
theorem sE(n:Int):IntKind.wrap .u64 n=n % 18446744073709551616:=by
 simp only[IntKind.wrap,IntKind.bits,IntKind.signed,Bool.false_and,Bool.false_eq_true,if_false];rfl
theorem oM(n:Int):IntKind.wrap .u8 n=n % 256:=by
 simp only[IntKind.wrap,IntKind.bits,IntKind.signed,Bool.false_and,Bool.false_eq_true,if_false];rfl
def be(v n:Nat):List Int:=(List.range n).map λi=>((v/2^(8*(n - 1 - i)) % 256:Nat):Int)
theorem bB(v n:Nat):(be v n).length=n:=by simp[be]
theorem dy(v n:Nat):aS (be v n):=by
 intro c hc
 simp only[be,List.mem_map]at hc
 obtain⟨i,_,rfl⟩:=hc
 omega
theorem tf(v m:Nat):be v (m+1)=((v/2^(8*m) % 256:Nat):Int)::be v m:=by
 simp only[be,List.range_succ_eq_map,List.map_cons,List.map_map]
 congr 1
 apply List.map_congr_left
 intro k hk
 simp only[Function.comp]
 congr 4
 simp at hk
 omega
theorem tg(V m:Nat)(hm:m≤64):bQ .u64 (V:Int) (m:Int)=((V/2^m:Nat):Int):=by
 unfold bQ
 have:min (Int.toNat (m:Int)) (IntKind.bits .u64)=m:=by simp[IntKind.bits];omega
 rw[this,Int.fdiv_eq_ediv_of_nonneg _ (Int.le_of_lt (Int.pow_pos (by decide)))]
 simp
def un(v:Int):Nat:=(IntKind.wrap .u64 v).toNat
theorem D3(v:Int):IntKind.wrap .u64 v=(un v:Int):=by
 unfold un;rw[sE];omega
theorem Ck(v:Int):un v<18446744073709551616:=by
 unfold un;rw[sE];omega
theorem C6{v:Int}(h: -9223372036854775808≤v∧v≤9223372036854775807):IntKind.wrap .i64 (un v:Int)=v:=by
 unfold un
 have h0:((IntKind.wrap .u64 v).toNat:Int)=v % 18446744073709551616:=by rw[sE];exact Int.toNat_of_nonneg (by omega)
 rw[h0]
 by_cases hn:0≤v
 ·have:v % 18446744073709551616=v:=by omega
  rw[this,bg (by omega) (by omega)]
 ·have:v % 18446744073709551616=v+18446744073709551616:=by omega
  rw[this]
  have e:IntKind.wrap .i64 (v+18446744073709551616)=IntKind.wrap .i64 v:=by
   have:(v+18446744073709551616) % 2^IntKind.bits .i64=v % 2^IntKind.bits .i64:=Int.add_emod_right v 18446744073709551616
   unfold IntKind.wrap
   simp only[this]
  rw[e,bg (by omega) (by omega)]
theorem zv(x c:Nat)(hx:x<72057594037927936)(hc:c<256):ior .u64 (fC .u64 (x:Int) 8) (c:Int)=((x*256+c:Nat):Int):=by
 have e1:fC .u64 (x:Int) 8=((x*256:Nat):Int):=by
  unfold fC
  have:min (Int.toNat 8) (IntKind.bits .u64)=8:=by decide
  rw[this,nh (by omega) (by omega)];omega
 rw[e1]
 unfold ior
 show IntKind.wrap .u64 ((BitVec.ofInt 64 ((x*256:Nat):Int)|||BitVec.ofInt 64 (c:Int)).toNat:Int)=_
 have e2:(BitVec.ofInt 64 ((x*256:Nat):Int)|||BitVec.ofInt 64 (c:Int)).toNat=x*256+c:=by
  rw[BitVec.toNat_or]
  have a1:(BitVec.ofInt 64 ((x*256:Nat):Int)).toNat=2^8*x:=by simp;omega
  have a2:(BitVec.ofInt 64 (c:Int)).toNat=c:=by simp;omega
  rw[a1,a2,←Nat.two_pow_add_eq_or_of_lt (by omega:c<2^8)];omega
 rw[e2,nh (by omega) (by omega)]
def pre(b:List Int):Nat→Int
 |0=>0
 |i+1=>pre b i*256+b.getD i 0
theorem uR{a:List Int}(h:aS a)(i:Nat):0≤a.getD i 0∧a.getD i 0<256:=by
 rcases Nat.lt_or_ge i a.length with g|g
 ·have:a.getD i 0=a[i]:=by simp[List.getD,g]
  rw[this];exact h _ (List.getElem_mem g)
 ·have:a.getD i 0=0:=by simp[List.getD,List.getElem?_eq_none g]
  rw[this];omega
theorem vY{b:List Int}(h:aS b):∀i,0≤pre b i∧pre b i<256^i
 |0=>by simp[pre]
 |i+1=>by
  have h1:=vY h i
  have h2:=uR h i
  simp only[pre]
  rw[Int.pow_succ]
  omega
theorem Dy(U:Nat)(hU:U<18446744073709551616)(r:List Int):pre (be U 8++r) 8=U:=by
 have e:be U 8=[((U/72057594037927936 % 256:Nat):Int),((U/281474976710656 % 256:Nat):Int),((U/1099511627776 % 256:Nat):Int),((U/4294967296 % 256:Nat):Int),((U/16777216 % 256:Nat):Int),((U/65536 % 256:Nat):Int),((U/256 % 256:Nat):Int),((U/1 % 256:Nat):Int)]:=rfl
 rw[e]
 simp only[pre,List.cons_append,List.nil_append,List.getD_cons_zero,List.getD_cons_succ]
 omega
abbrev WT:=List Int×Int×Unit
abbrev UT:=Int×Int×Int×List Int×List Int×Unit
abbrev SlT:=Int×List Int×Bool×Unit
abbrev ST:=Int×Int×Int×Int×List UT×List UT×Int×Int×Int×(Int×Int×Unit)×(Int×Int×Unit)×(Int×Int×Unit)×Bool×List (List Int)×List Int×List SlT×Int×Int×Unit
theorem C7(V:Nat)(hV:V<256)(K:List Int→Option WT):∀(i m:Nat) (xs:List Int),i≤8→i<m→xs.length+i≤140737488355328→eU (V:Int) K m ((i:Int) - 1,xs)=K (xs++be V i):=by
 intro i
 induction i with
 |zero=>
  intro m xs _ hm _
  cases m with
  |zero=>omega
  |succ m=>
   unfold eU
   rw[if_neg (by simp)]
   simp[be]
 |succ i ih=>
  intro m xs hi hm hl
  cases m with
  |zero=>omega
  |succ m=>
   unfold eU
   have e1:((i+1:Nat):Int) - 1=(i:Int):=by omega
   have e2:IntKind.wrap .i64 (8*(i:Int))=((8*i:Nat):Int):=by rw[bg (by omega) (by omega)];omega
   have e3:IntKind.wrap .u8 (bQ .u64 (IntKind.wrap .u64 (V:Int)) ((8*i:Nat):Int))=((V/2^(8*i) % 256:Nat):Int):=by
    rw[nh (by omega) (by omega)]
    rw[tg V (8*i) (by omega),oM];omega
   simp only[e1,e2,e3]
   rw[if_pos (by simp),if_pos (by omega),if_pos (by simp;omega),bh,bg (by omega) (by omega),ih m _ (by omega) (by omega) (by simp;omega),tf]
   simp
theorem EN(V n:Nat)(N:Int)(hN:N=(n:Int))(hV:V<256)(h1:1≤n)(h8:n≤8)(xs:List Int)(hl:xs.length+n≤140737488355328):iM (xs,0,()) (V:Int) N=some (xs++be V n,0,()):=by
 subst hN
 unfold iM
 rw[if_neg (by simp),bh,bg (by omega) (by omega),bh]
 exact C7 V hV _ n _ xs h8 (by omega) hl
theorem BJ(V:Nat)(hV:V<65536)(K:List Int→Option WT):∀(i m:Nat) (xs:List Int),i≤8→i<m→xs.length+i≤140737488355328→ej (V:Int) K m ((i:Int) - 1,xs)=K (xs++be V i):=by
 intro i
 induction i with
 |zero=>
  intro m xs _ hm _
  cases m with
  |zero=>omega
  |succ m=>
   unfold ej
   rw[if_neg (by simp)]
   simp[be]
 |succ i ih=>
  intro m xs hi hm hl
  cases m with
  |zero=>omega
  |succ m=>
   unfold ej
   have e1:((i+1:Nat):Int) - 1=(i:Int):=by omega
   have e2:IntKind.wrap .i64 (8*(i:Int))=((8*i:Nat):Int):=by rw[bg (by omega) (by omega)];omega
   have e3:IntKind.wrap .u8 (bQ .u64 (IntKind.wrap .u64 (V:Int)) ((8*i:Nat):Int))=((V/2^(8*i) % 256:Nat):Int):=by
    rw[nh (by omega) (by omega)]
    rw[tg V (8*i) (by omega),oM];omega
   simp only[e1,e2,e3]
   rw[if_pos (by simp),if_pos (by omega),if_pos (by simp;omega),bh,bg (by omega) (by omega),ih m _ (by omega) (by omega) (by simp;omega),tf]
   simp
theorem Cl(V n:Nat)(N:Int)(hN:N=(n:Int))(hV:V<65536)(h1:1≤n)(h8:n≤8)(xs:List Int)(hl:xs.length+n≤140737488355328):gp (xs,0,()) (V:Int) N=some (xs++be V n,0,()):=by
 subst hN
 unfold gp
 rw[if_neg (by simp),bh,bg (by omega) (by omega),bh]
 exact BJ V hV _ n _ xs h8 (by omega) hl
theorem BK(V:Nat)(hV:V<4294967296)(K:List Int→Option WT):∀(i m:Nat) (xs:List Int),i≤8→i<m→xs.length+i≤140737488355328→em (V:Int) K m ((i:Int) - 1,xs)=K (xs++be V i):=by
 intro i
 induction i with
 |zero=>
  intro m xs _ hm _
  cases m with
  |zero=>omega
  |succ m=>
   unfold em
   rw[if_neg (by simp)]
   simp[be]
 |succ i ih=>
  intro m xs hi hm hl
  cases m with
  |zero=>omega
  |succ m=>
   unfold em
   have e1:((i+1:Nat):Int) - 1=(i:Int):=by omega
   have e2:IntKind.wrap .i64 (8*(i:Int))=((8*i:Nat):Int):=by rw[bg (by omega) (by omega)];omega
   have e3:IntKind.wrap .u8 (bQ .u64 (IntKind.wrap .u64 (V:Int)) ((8*i:Nat):Int))=((V/2^(8*i) % 256:Nat):Int):=by
    rw[nh (by omega) (by omega)]
    rw[tg V (8*i) (by omega),oM];omega
   simp only[e1,e2,e3]
   rw[if_pos (by simp),if_pos (by omega),if_pos (by simp;omega),bh,bg (by omega) (by omega),ih m _ (by omega) (by omega) (by simp;omega),tf]
   simp
theorem D4(V n:Nat)(N:Int)(hN:N=(n:Int))(hV:V<4294967296)(h1:1≤n)(h8:n≤8)(xs:List Int)(hl:xs.length+n≤140737488355328):ig (xs,0,()) (V:Int) N=some (xs++be V n,0,()):=by
 subst hN
 unfold ig
 rw[if_neg (by simp),bh,bg (by omega) (by omega),bh]
 exact BK V hV _ n _ xs h8 (by omega) hl
theorem BL(V:Nat)(hV:V<18446744073709551616)(K:List Int→Option WT):∀(i m:Nat) (xs:List Int),i≤8→i<m→xs.length+i≤140737488355328→eh (V:Int) K m ((i:Int) - 1,xs)=K (xs++be V i):=by
 intro i
 induction i with
 |zero=>
  intro m xs _ hm _
  cases m with
  |zero=>omega
  |succ m=>
   unfold eh
   rw[if_neg (by simp)]
   simp[be]
 |succ i ih=>
  intro m xs hi hm hl
  cases m with
  |zero=>omega
  |succ m=>
   unfold eh
   have e1:((i+1:Nat):Int) - 1=(i:Int):=by omega
   have e2:IntKind.wrap .i64 (8*(i:Int))=((8*i:Nat):Int):=by rw[bg (by omega) (by omega)];omega
   have e3:IntKind.wrap .u8 (bQ .u64 (V:Int) ((8*i:Nat):Int))=((V/2^(8*i) % 256:Nat):Int):=by
    rw[tg V (8*i) (by omega),oM];omega
   simp only[e1,e2,e3]
   rw[if_pos (by simp),if_pos (by omega),if_pos (by simp;omega),bh,bg (by omega) (by omega),ih m _ (by omega) (by omega) (by simp;omega),tf]
   simp
theorem D5(V n:Nat)(N:Int)(hN:N=(n:Int))(hV:V<18446744073709551616)(h1:1≤n)(h8:n≤8)(xs:List Int)(hl:xs.length+n≤140737488355328):ie (xs,0,()) (V:Int) N=some (xs++be V n,0,()):=by
 subst hN
 unfold ie
 rw[if_neg (by simp),bh,bg (by omega) (by omega),bh]
 exact BL V hV _ n _ xs h8 (by omega) hl
theorem pJ(v:Int)(xs:List Int)(hl:xs.length+8≤140737488355328):bM (xs,0,()) v=some (xs++be (un v) 8,0,()):=by
 unfold bM
 rw[D3,D5 (un v) 8 8 rfl (Ck v) (by omega) (by omega) xs hl]
 rfl
theorem wU8(n:Nat)(hn:n<256)(xs:List Int)(hl:xs.length+1≤140737488355328):cS (xs,0,()) (n:Int)=some (xs++be n 1,0,()):=by
 unfold cS
 rw[EN n 1 1 rfl hn (by omega) (by omega) xs hl]
 rfl
theorem BM(n:Nat)(hn:n<65536)(xs:List Int)(hl:xs.length+2≤140737488355328):cV (xs,0,()) (n:Int)=some (xs++be n 2,0,()):=by
 unfold cV
 rw[Cl n 2 2 rfl hn (by omega) (by omega) xs hl]
 rfl
theorem EO(n:Nat)(hn:n<4294967296)(xs:List Int)(hl:xs.length+4≤140737488355328):gq (xs,0,()) (n:Int)=some (xs++be n 4,0,()):=by
 unfold gq
 rw[D4 n 4 4 rfl hn (by omega) (by omega) xs hl]
 rfl
theorem BN(t xs:List Int)(hl:xs.length+t.length≤140737488355328):eN (xs,0,()) t=some (xs++t,0,()):=by
 unfold eN
 rw[if_pos (by simp),if_pos (by simpa using hl)]
theorem th(t xs:List Int)(hl:xs.length+t.length≤140737488355328):cw (xs,0,()) t=some (xs++t,0,()):=by
 unfold cw
 rw[BN t xs hl];rfl
theorem ni{n:Int}(h0:0≤n)(h:n<65536):IntKind.wrap .u16 n=n:=by
 simp only[IntKind.wrap,IntKind.bits,IntKind.signed,Bool.false_and,Bool.false_eq_true,if_false];omega
theorem q8{n:Int}(h0:0≤n)(h:n<256):IntKind.wrap .u8 n=n:=by rw[oM];omega
theorem xm{n:Int}(h0:0≤n)(h:n<4294967296):IntKind.wrap .u32 n=n:=by
 simp only[IntKind.wrap,IntKind.bits,IntKind.signed,Bool.false_and,Bool.false_eq_true,if_false];omega
theorem D6(t xs:List Int)(ht:t.length≤65535)(hl:xs.length+2+t.length≤140737488355328):gR (xs,0,()) t=some (xs++be t.length 2++t,0,()):=by
 unfold gR
 simp only[bh]
 rw[if_neg (by simp;omega),ni (by omega) (by omega)]
 have h:=Cl t.length 2 2 rfl (by omega) (by omega) (by omega) xs (by omega)
 rw[h,aw,BN _ _ (by simp[bB];omega),aw]
def vU(u:UT):Bool:=if(decide (u.2.1<0)||decide (u.2.1≥2048))=true then false else(if(u.1==1)=true then(decide (u.2.2.1≥1)&&decide (u.2.2.1≤1152921504606846976))&&(u.2.2.2.2.1==[])else(if(u.1==2)=true then(u.2.2.1==0)&&(u.2.2.2.2.1==[])else(if(u.1==3)=true then((u.2.2.1==0)&&eqD (.arr 32 (.int .u8)) u.2.2.2.1 (List.replicate 32 (0:Int)))&&decide ((List.length u.2.2.2.2.1:Int)≤64)else false)))
theorem q9(u:UT):fM u=some (vU u):=by
 unfold fM vU
 simp only[bh,apply_ite some]
theorem ue{u:UT}(h:vU u=true):(0≤u.2.1∧u.2.1<2048)∧((u.1=1∧1≤u.2.2.1∧u.2.2.1≤1152921504606846976∧u.2.2.2.2.1=[])∨(u.1=2∧u.2.2.1=0∧u.2.2.2.2.1=[])∨(u.1=3∧u.2.2.1=0∧u.2.2.2.1=List.replicate 32 (0:Int)∧u.2.2.2.2.1.length≤64)):=by
 unfold vU at h
 split at h
 ·cases h
 ·rename_i h0
  simp only[Bool.or_eq_true,decide_eq_true_eq,not_or]at h0
  refine⟨by omega,?_⟩
  split at h
  ·rename_i h1
   simp only[beq_iff_eq]at h1
   simp only[Bool.and_eq_true,decide_eq_true_eq,beq_iff_eq]at h
   exact .inl ⟨h1,h.1.1,h.1.2,h.2⟩
  ·split at h
   ·rename_i h1
    simp only[beq_iff_eq]at h1
    simp only[Bool.and_eq_true,beq_iff_eq]at h
    exact .inr (.inl ⟨h1,h.1,h.2⟩)
   ·split at h
    ·rename_i h1
     simp only[beq_iff_eq]at h1
     rw[Bool.and_eq_true,Bool.and_eq_true,decide_eq_true_eq,beq_iff_eq,ke (by decide)]at h
     exact .inr (.inr ⟨h1,h.1.1,h.1.2,by omega⟩)
    ·cases h
def bt(a lo hi:Int):Bool:=decide (a≥lo)&&decide (a≤hi)
theorem zw(a lo hi:Int):fq a lo hi=some (bt a lo hi):=rfl
theorem bt_iff{a lo hi:Int}:bt a lo hi=true↔lo≤a∧a≤hi:=by simp[bt]
theorem C8(a:Int):gG a=some (bt a 0 1152921504606846976):=rfl
theorem C9(a:Int):fQ a=some (bt a 0 281474976710655):=rfl
theorem Da(a:Int):jS a=some (!bt a 0 2048):=rfl
theorem Db(x:SlT):gY x=some (!bt x.1 0 281474976710655):=rfl
theorem EP(l:List UT)(hl:l.length<4611686018427387904):∀(k i m:Nat),i+k=l.length→k<m→∃r,aW l (λ_=>some (-1)) m (i:Int)=some r∧decide (r≥0)= !(l.drop i).all vU:=by
 intro k
 induction k with
 |zero=>
  intro i m hi hm
  cases m with
  |zero=>omega
  |succ m=>
   unfold aW
   rw[if_neg (by simp;omega)]
   exact⟨_,rfl,by rw[List.drop_eq_nil_of_le (by omega)];decide⟩
 |succ k ih=>
  intro i m hi hm
  cases m with
  |zero=>omega
  |succ m=>
   unfold aW
   have hlt:i<l.length:=by omega
   have hg:List.getD l (Int.toNat (i:Int)) (0,0,0,(List.replicate 32 (0:Int)),[],())=l[i]:=by simp[List.getD,hlt]
   rw[if_pos (by simp;omega),if_pos (by omega),hg]
   unfold kC
   rw[q9,aw,aw,List.drop_eq_getElem_cons hlt,List.all_cons]
   cases hv:vU l[i]with
   |false=>exact⟨_,rfl,by simp⟩
   |true=>
    obtain⟨r,h1,h2⟩:=ih (i+1) m (by omega) (by omega)
    refine⟨r,?_,by rw[h2];rfl⟩
    rw[if_neg (by simp),bg (by omega) (by omega),←h1]
    rfl
theorem zA(l:List UT):iV l=some (decide ((List.length l:Int)≤2048)&&l.all vU):=by
 unfold iV
 rw[bh,bh]
 by_cases h:(List.length l:Int)≤2048
 ·obtain⟨r,h1,h2⟩:=EP l (by omega) l.length 0 (Int.toNat ((List.length l:Int) - 0)+1) (by omega) (by omega)
  rw[if_pos (by simpa using h)]
  unfold cu cE
  rw[bh,show(aW l (λ_=>some (-1)) (Int.toNat ((List.length l:Int) - 0)+1) 0)=some r from h1,aw,aw]
  show some (!decide (r≥0))=_
  rw[h2,List.drop_zero]
  simp[h]
 ·rw[if_neg (by simpa using h)]
  simp[h]
theorem EQ(l:List Int)(hl:l.length<4611686018427387904):∀(k i m:Nat),i+k=l.length→k<m→∃r,bG l (λ_=>some (-1)) m (i:Int)=some r∧decide (r≥0)= !(l.drop i).all λc=>bt c 0 2048:=by
 intro k
 induction k with
 |zero=>
  intro i m hi hm
  cases m with
  |zero=>omega
  |succ m=>
   unfold bG
   rw[if_neg (by simp;omega)]
   exact⟨_,rfl,by rw[List.drop_eq_nil_of_le (by omega)];decide⟩
 |succ k ih=>
  intro i m hi hm
  cases m with
  |zero=>omega
  |succ m=>
   unfold bG
   have hlt:i<l.length:=by omega
   have hg:List.getD l (Int.toNat (i:Int)) 0=l[i]:=by simp[List.getD,hlt]
   rw[if_pos (by simp;omega),if_pos (by omega),hg,Da,aw,List.drop_eq_getElem_cons hlt,List.all_cons]
   cases hv:bt l[i] 0 2048 with
   |false=>exact⟨_,rfl,by simp⟩
   |true=>
    obtain⟨r,h1,h2⟩:=ih (i+1) m (by omega) (by omega)
    refine⟨r,?_,by rw[h2];rfl⟩
    rw[if_neg (by simp),bg (by omega) (by omega),←h1]
    rfl
theorem ER(l:List SlT)(hl:l.length<4611686018427387904):∀(k i m:Nat),i+k=l.length→k<m→∃r,aZ l (λ_=>some (-1)) m (i:Int)=some r∧decide (r≥0)= !(l.drop i).all λx=>bt x.1 0 281474976710655:=by
 intro k
 induction k with
 |zero=>
  intro i m hi hm
  cases m with
  |zero=>omega
  |succ m=>
   unfold aZ
   rw[if_neg (by simp;omega)]
   exact⟨_,rfl,by rw[List.drop_eq_nil_of_le (by omega)];decide⟩
 |succ k ih=>
  intro i m hi hm
  cases m with
  |zero=>omega
  |succ m=>
   unfold aZ
   have hlt:i<l.length:=by omega
   have hg:List.getD l (Int.toNat (i:Int)) (0,(List.replicate 32 (0:Int)),false,())=l[i]:=by simp[List.getD,hlt]
   rw[if_pos (by simp;omega),if_pos (by omega),hg,Db,aw,List.drop_eq_getElem_cons hlt,List.all_cons]
   cases hv:bt (l[i]).1 0 281474976710655 with
   |false=>exact⟨_,rfl,by simp⟩
   |true=>
    obtain⟨r,h1,h2⟩:=ih (i+1) m (by omega) (by omega)
    refine⟨r,?_,by rw[h2];rfl⟩
    rw[if_neg (by simp),bg (by omega) (by omega),←h1]
    rfl
theorem AO(l:List Int)(hl:l.length<4611686018427387904):cK l=some (!l.all λc=>bt c 0 2048):=by
 obtain⟨r,h1,h2⟩:=EQ l hl l.length 0 (Int.toNat ((List.length l:Int) - 0)+1) (by omega) (by omega)
 unfold cK dH
 rw[bh,show(bG l (λ_=>some (-1)) (Int.toNat ((List.length l:Int) - 0)+1) 0)=some r from h1,aw,h2,List.drop_zero]
theorem AP(l:List SlT)(hl:l.length<4611686018427387904):cb l=some (!l.all λx=>bt x.1 0 281474976710655):=by
 obtain⟨r,h1,h2⟩:=ER l hl l.length 0 (Int.toNat ((List.length l:Int) - 0)+1) (by omega) (by omega)
 unfold cb cL
 rw[bh,show(aZ l (λ_=>some (-1)) (Int.toNat ((List.length l:Int) - 0)+1) 0)=some r from h1,aw,h2,List.drop_zero]
def cts(s:ST):List Int:=[s.2.2.2.2.2.2.2.2.2.1.1,s.2.2.2.2.2.2.2.2.2.1.2.1,s.2.2.2.2.2.2.2.2.2.2.1.1,s.2.2.2.2.2.2.2.2.2.2.1.2.1,s.2.2.2.2.2.2.2.2.2.2.2.1.1,s.2.2.2.2.2.2.2.2.2.2.2.1.2.1]
abbrev shf(s:ST):List SlT:=s.2.2.2.2.2.2.2.2.2.2.2.2.2.2.2.1
structure CanW(n:Int)(s:ST):Prop where
 n:0≤n∧n≤1152921504606846976
 side:0≤s.1∧s.1≤1
 cap:0≤s.2.1∧s.2.1≤1152921504606846976
 bo:0≤s.2.2.1∧s.2.2.1≤1152921504606846976
 bp:0≤s.2.2.2.1∧s.2.2.2.1≤1152921504606846976
 ours:s.2.2.2.2.1.length≤2048∧∀u∈s.2.2.2.2.1,vU u=true
 peers:s.2.2.2.2.2.1.length≤2048∧∀u∈s.2.2.2.2.2.1,vU u=true
 loc:0≤s.2.2.2.2.2.2.1∧s.2.2.2.2.2.2.1≤281474976710655
 rem:0≤s.2.2.2.2.2.2.2.1∧s.2.2.2.2.2.2.2.1≤281474976710655
 ack:0≤s.2.2.2.2.2.2.2.2.1∧s.2.2.2.2.2.2.2.2.1≤281474976710655
 cts:∀c∈cts s,0≤c∧c≤2048
 shf:(shf s).length≤49∧∀x∈shf s,0≤x.1∧x.1≤281474976710655
 fail:0≤s.2.2.2.2.2.2.2.2.2.2.2.2.2.2.2.2.1∧s.2.2.2.2.2.2.2.2.2.2.2.2.2.2.2.2.1≤1000000
 clo: -1≤s.2.2.2.2.2.2.2.2.2.2.2.2.2.2.2.2.2.1∧s.2.2.2.2.2.2.2.2.2.2.2.2.2.2.2.2.2.1≤281474976710655
theorem AQ(n:Int)(s:ST):∃b,jD n s=some b∧(b=true↔CanW n s):=by
 have hc:jC s=some (cts s):=rfl
 have hcl:(cts s).length<4611686018427387904:=by show 6<_;omega
 unfold jD
 simp only[bh,zw,C8,C9,aw,zA,hc,AO _ hcl]
 by_cases h0:(0≤n∧n≤1152921504606846976)∧(0≤s.1∧s.1≤1)
 ·have e1:bt n 0 1152921504606846976=true:=bt_iff.2 h0.1
  have e2:bt s.1 0 1=true:=bt_iff.2 h0.2
  rw[e1,e2,if_neg (by simp),if_neg (by simp)]
  by_cases h1:(0≤s.2.1∧s.2.1≤1152921504606846976)∧(0≤s.2.2.1∧s.2.2.1≤1152921504606846976)∧(0≤s.2.2.2.1∧s.2.2.2.1≤1152921504606846976)
  ·rw[bt_iff.2 h1.1,bt_iff.2 h1.2.1,bt_iff.2 h1.2.2,if_neg (by simp),if_neg (by simp),if_neg (by simp)]
   by_cases h2:(decide ((List.length s.2.2.2.2.1:Int)≤2048)&&s.2.2.2.2.1.all vU)=true∧(decide ((List.length s.2.2.2.2.2.1:Int)≤2048)&&s.2.2.2.2.2.1.all vU)=true
   ·rw[h2.1,h2.2,if_neg (by simp),if_neg (by simp)]
    by_cases h3:(0≤s.2.2.2.2.2.2.1∧s.2.2.2.2.2.2.1≤281474976710655)∧(0≤s.2.2.2.2.2.2.2.1∧s.2.2.2.2.2.2.2.1≤281474976710655)∧(0≤s.2.2.2.2.2.2.2.2.1∧s.2.2.2.2.2.2.2.2.1≤281474976710655)
    ·rw[bt_iff.2 h3.1,bt_iff.2 h3.2.1,bt_iff.2 h3.2.2,if_neg (by simp),if_neg (by simp),if_neg (by simp)]
     cases h4:(cts s).all λc=>bt c 0 2048 with
     |false=>
      refine⟨false,by simp,by simp,λh=>?_⟩
      rw[List.all_eq_true.2 λc hc=>bt_iff.2 (h.cts c hc)]at h4;cases h4
     |true=>
      rw[if_neg (by simp)]
      by_cases h5:(List.length (shf s):Int)>49
      ·refine⟨false,?_,by simp,λh=>?_⟩
       ·rw[if_pos (by simpa using h5)];simp
       ·have:=h.shf.1;omega
      ·have h5':(List.length s.2.2.2.2.2.2.2.2.2.2.2.2.2.2.2.1:Int)≤49:=by show(List.length (shf s):Int)≤49;omega
       rw[if_neg (by simpa using h5'),AP _ (by omega),aw]
       cases h6:(s.2.2.2.2.2.2.2.2.2.2.2.2.2.2.2.1).all λx=>bt x.1 0 281474976710655 with
       |false=>
        refine⟨false,by simp,by simp,λh=>?_⟩
        rw[List.all_eq_true.2 λx hx=>bt_iff.2 (h.shf.2 x hx)]at h6;cases h6
       |true=>
        rw[if_neg (by simp)]
        rw[Bool.and_eq_true,Bool.and_eq_true,decide_eq_true_eq,decide_eq_true_eq,List.all_eq_true,List.all_eq_true]at h2
        rw[List.all_eq_true]at h4 h6
        cases h7:bt s.2.2.2.2.2.2.2.2.2.2.2.2.2.2.2.2.1 0 1000000 with
        |false=>
         refine⟨false,by simp,by simp,λh=>?_⟩
         rw[bt_iff.2 h.fail]at h7;cases h7
        |true=>
         refine⟨_,by rw[if_pos rfl],λh=>?_,λh=>bt_iff.2 h.clo⟩
         exact⟨h0.1,h0.2,h1.1,h1.2.1,h1.2.2,⟨by omega,h2.1.2⟩,⟨by omega,h2.2.2⟩,h3.1,h3.2.1,h3.2.2,λc hc=>bt_iff.1 (h4 c hc),⟨by unfold shf;omega,λx hx=>bt_iff.1 (h6 x hx)⟩,bt_iff.1 h7,bt_iff.1 h⟩
    ·refine⟨false,?_,by simp,λh=>absurd ⟨h.loc,h.rem,h.ack⟩ h3⟩
     rw[←bt_iff,←bt_iff,←bt_iff]at h3
     cases a:bt s.2.2.2.2.2.2.1 0 281474976710655<;>cases b:bt s.2.2.2.2.2.2.2.1 0 281474976710655<;>cases c:bt s.2.2.2.2.2.2.2.2.1 0 281474976710655<;>simp[a,b,c]at h3⊢
   ·refine⟨false,?_,by simp,λh=>absurd ⟨?_,?_⟩ h2⟩
    ·cases a:(decide ((List.length s.2.2.2.2.1:Int)≤2048)&&s.2.2.2.2.1.all vU)<;>cases b:(decide ((List.length s.2.2.2.2.2.1:Int)≤2048)&&s.2.2.2.2.2.1.all vU)<;>first|rfl|(exact absurd ⟨a,b⟩ h2)
    ·rw[Bool.and_eq_true,decide_eq_true_eq,List.all_eq_true];exact⟨by have:=h.ours.1;omega,h.ours.2⟩
    ·rw[Bool.and_eq_true,decide_eq_true_eq,List.all_eq_true];exact⟨by have:=h.peers.1;omega,h.peers.2⟩
  ·refine⟨false,?_,by simp,λh=>absurd ⟨h.cap,h.bo,h.bp⟩ h1⟩
   rw[←bt_iff,←bt_iff,←bt_iff]at h1
   cases a:bt s.2.1 0 1152921504606846976<;>cases b:bt s.2.2.1 0 1152921504606846976<;>cases c:bt s.2.2.2.1 0 1152921504606846976<;>simp[a,b,c]at h1⊢
 ·refine⟨false,?_,by simp,λh=>absurd ⟨h.n,h.side⟩ h0⟩
  rw[←bt_iff,←bt_iff]at h0
  cases a:bt n 0 1152921504606846976<;>cases b:bt s.1 0 1<;>simp[a,b]at h0⊢
def uB(u:UT):List Int:=be u.1.toNat 1++be u.2.1.toNat 2++(if u.1=1 then be (un u.2.2.1) 8++u.2.2.2.1 else if u.1=2 then u.2.2.2.1 else be u.2.2.2.2.1.length 2++u.2.2.2.2.1)
theorem uS{u:UT}(h:vU u=true)(hh:u.2.2.2.1.length=32):(uB u).length≤100:=by
 obtain⟨_,h|h|h⟩:=ue h
 ·simp[uB,bB,h.1,hh]
 ·simp[uB,bB,h.1,hh]
 ·simp[uB,bB,h.1];omega
theorem Dz(u:UT)(hh:u.2.2.2.1.length=32):jE u=some (if vU u=true then(uB u,0)else([],120)):=by
 unfold jE
 simp only[q9,aw,bh]
 cases hv:vU u with
 |false=>simp
 |true=>
  obtain⟨h0,h⟩:=ue hv
  rw[if_neg (by simp),if_pos rfl]
  have hk:1≤u.1∧u.1≤3:=by omega
  have e1:IntKind.wrap .u8 u.1=((u.1.toNat:Nat):Int):=by rw[q8 (by omega) (by omega)];omega
  have e2:IntKind.wrap .u16 u.2.1=((u.2.1.toNat:Nat):Int):=by rw[ni (by omega) (by omega)];omega
  unfold jb
  rw[aw,e1,e2,wU8 _ (by omega) _ (by simp),aw,BM _ (by omega) _ (by simp[bB]),aw]
  rcases h with h|h|h
  ·rw[if_pos (by simp[h.1]),pJ _ _ (by simp[bB]),aw,th _ _ (by simp[bB,hh]),aw]
   unfold cW
   rw[if_neg (by simp),aw]
   simp[uB,h.1]
  ·rw[if_neg (by simp[h.1]),if_pos (by simp[h.1]),th _ _ (by simp[bB,hh]),aw]
   unfold cW
   rw[if_neg (by simp),aw]
   simp[uB,h.1]
  ·rw[if_neg (by simp[h.1]),if_neg (by simp[h.1]),if_pos (by simp[h.1]),D6 _ _ (by omega) (by simp[bB];omega),aw]
   unfold cW
   rw[if_neg (by simp),aw]
   simp[uB,h.1]
def Uok(u:UT):Prop:=vU u=true∧u.2.2.2.1.length=32
theorem Dc(l:List UT)(hl:l.length≤65535)(hv:∀u∈l,Uok u)(K:WT→Option WT):∀(k i m:Nat) (xs:List Int),i+k=l.length→k<m→xs.length+k*100≤140737488355328→hZ l K m ((i:Int),xs,0,())=K (xs++(l.drop i).flatMap uB,0,()):=by
 intro k
 induction k with
 |zero=>
  intro i m xs hi hm _
  cases m with
  |zero=>omega
  |succ m=>
   rw[hZ,if_neg (by simp;omega),List.drop_eq_nil_of_le (by omega)]
   simp
 |succ k ih=>
  intro i m xs hi hm hx
  cases m with
  |zero=>omega
  |succ m=>
   have hlt:i<l.length:=by omega
   have hg:List.getD l (Int.toNat (i:Int)) (0,0,0,(List.replicate 32 (0:Int)),[],())=l[i]:=by simp[List.getD,hlt]
   have hu:=hv l[i] (List.getElem_mem hlt)
   have hb:=uS hu.1 hu.2
   rw[hZ,if_pos (by simp;omega),if_pos (by omega),hg,Dz _ hu.2,if_pos hu.1,aw,BN _ _ (by show xs.length+(uB l[i]).length≤_;omega),aw,bg (by omega) (by omega)]
   have:=ih (i+1) m (xs++uB l[i]) (by omega) (by omega) (by simp;omega)
   rw[show((i:Int)+1)=((i+1:Nat):Int)from rfl]
   refine this.trans ?_
   rw[List.drop_eq_getElem_cons hlt]
   simp only[List.flatMap_cons,List.append_assoc]
def ulB(l:List UT):List Int:=be l.length 2++l.flatMap uB
theorem jP{α:Type}(f:α→List Int)(n:Nat):∀(l:List α),(∀x∈l,(f x).length≤n)→(l.flatMap f).length≤l.length*n
 |[],_=>by simp
 |x::l,h=>by
  have h1:=h x (by simp)
  have h2:=jP f n l λy hy=>h y (by simp[hy])
  simp only[List.flatMap_cons,List.length_append,List.length_cons,Nat.succ_mul];omega
theorem oN{l:List UT}(hl:l.length≤2048)(hv:∀u∈l,Uok u):(ulB l).length≤204802:=by
 have:=jP uB 100 l λu hu=>uS (hv u hu).1 (hv u hu).2
 simp only[ulB,List.length_append,bB]
 have:l.length*100≤2048*100:=Nat.mul_le_mul_right _ hl
 omega
theorem yJ(l:List UT)(hl:l.length≤2048)(hv:∀u∈l,Uok u)(xs:List Int)(hx:xs.length≤10000000):kW (xs,0,()) l=some (xs++ulB l,0,()):=by
 unfold kW
 have e:IntKind.wrap .u16 (List.length l:Int)=((l.length:Nat):Int):=ni (by omega) (by omega)
 rw[e,BM _ (by omega) _ (by omega),aw,bh]
 have:=Dc l (by omega) hv (λo7=>some o7) l.length 0 (Int.toNat ((List.length l:Int) - 0)+1) (xs++be l.length 2) (by omega) (by omega) (by simp[bB];omega)
 refine this.trans ?_
 simp[ulB]
def fl(b:Bool):Nat:=if b=true then 1 else 0
theorem yK(b:Bool)(xs:List Int)(hx:xs.length≤10000000):jT (xs,0,()) b=some (xs++be (fl b) 1,0,()):=by
 unfold jT
 cases b with
 |true=>
  have h:cS (xs,0,()) 1=some (xs++be 1 1,0,()):=wU8 1 (by omega) xs (by omega)
  rw[if_pos rfl,h];rfl
 |false=>
  have h:cS (xs,0,()) 0=some (xs++be 0 1,0,()):=wU8 0 (by omega) xs (by omega)
  rw[if_neg (by simp),h];rfl
theorem l4s(s:ST)(K:WT→Option (List Int×Int))(m i:Nat)(hi:i<3)(w:WT):eJ s K (m+1) ((i:Int),w)=(bM w (([s.2.1,s.2.2.1,s.2.2.2.1]:List (Int)).getD i 0)).bind λr=>eJ s K m (((i+1:Nat):Int),r):=by
 rw[eJ]
 simp only[bh]
 rw[if_pos (by simp;omega),if_pos (by simp;omega),bg (by omega) (by omega),Int.toNat_natCast]
 rfl
theorem l4e(s:ST)(K:WT→Option (List Int×Int))(m:Nat)(w:WT):eJ s K (m+1) (((3:Nat):Int),w)=K w:=by
 rw[eJ]
 simp only[bh]
 rw[if_neg (by simp)]
theorem l3s(s:ST)(K:WT→Option (List Int×Int))(m i:Nat)(hi:i<3)(w:WT):eI s K (m+1) ((i:Int),w)=(bM w (([s.2.2.2.2.2.2.1,s.2.2.2.2.2.2.2.1,s.2.2.2.2.2.2.2.2.1]:List (Int)).getD i 0)).bind λr=>eI s K m (((i+1:Nat):Int),r):=by
 rw[eI]
 simp only[bh]
 rw[if_pos (by simp;omega),if_pos (by simp;omega),bg (by omega) (by omega),Int.toNat_natCast]
 rfl
theorem l3e(s:ST)(K:WT→Option (List Int×Int))(m:Nat)(w:WT):eI s K (m+1) (((3:Nat):Int),w)=K w:=by
 rw[eI]
 simp only[bh]
 rw[if_neg (by simp)]
theorem l1s(s:ST)(K:WT→Option (List Int×Int))(m i:Nat)(hi:i<3)(w:WT):eH s K (m+1) ((i:Int),w)=(cw w (([(List.getD s.2.2.2.2.2.2.2.2.2.2.2.2.2.1 0 (List.replicate 32 (0:Int))),(List.getD s.2.2.2.2.2.2.2.2.2.2.2.2.2.1 1 (List.replicate 32 (0:Int))),s.2.2.2.2.2.2.2.2.2.2.2.2.2.2.1]:List (List Int)).getD i (List.replicate 32 (0:Int)))).bind λr=>eH s K m (((i+1:Nat):Int),r):=by
 rw[eH]
 simp only[bh]
 rw[if_pos (by simp;omega),if_pos (by simp;omega),bg (by omega) (by omega),Int.toNat_natCast]
 rfl
theorem l1e(s:ST)(K:WT→Option (List Int×Int))(m:Nat)(w:WT):eH s K (m+1) (((3:Nat):Int),w)=K w:=by
 rw[eH]
 simp only[bh]
 rw[if_neg (by simp)]
theorem D7(s:ST)(K:WT→Option (List Int×Int))(xs:List Int)(hx:xs.length≤10000000):eJ s K 4 (0,xs,0,())=K (xs++(be (un s.2.1) 8++be (un s.2.2.1) 8++be (un s.2.2.2.1) 8),0,()):=by
 have h:=l4s s K 3 0 (by omega) (xs,0,())
 refine h.trans ?_
 rw[pJ _ _ (by omega),aw,l4s _ _ 2 1 (by omega),pJ _ _ (by simp[bB];omega),aw,l4s _ _ 1 2 (by omega),pJ _ _ (by simp[bB];omega),aw,l4e]
 simp
theorem D8(s:ST)(K:WT→Option (List Int×Int))(xs:List Int)(hx:xs.length≤10000000):eI s K 4 (0,xs,0,())=K (xs++(be (un s.2.2.2.2.2.2.1) 8++be (un s.2.2.2.2.2.2.2.1) 8++be (un s.2.2.2.2.2.2.2.2.1) 8),0,()):=by
 have h:=l3s s K 3 0 (by omega) (xs,0,())
 refine h.trans ?_
 rw[pJ _ _ (by omega),aw,l3s _ _ 2 1 (by omega),pJ _ _ (by simp[bB];omega),aw,l3s _ _ 1 2 (by omega),pJ _ _ (by simp[bB];omega),aw,l3e]
 simp
abbrev pts(s:ST):List (List Int):=s.2.2.2.2.2.2.2.2.2.2.2.2.2.1
abbrev sig(s:ST):List Int:=s.2.2.2.2.2.2.2.2.2.2.2.2.2.2.1
def pt(s:ST)(i:Nat):List Int:=(pts s).getD i (List.replicate 32 (0:Int))
theorem D9(s:ST)(K:WT→Option (List Int×Int))(xs:List Int)(hx:xs.length≤10000000)(h0:(pt s 0).length=32)(h1:(pt s 1).length=32)(h2:(sig s).length=32):eH s K 4 (0,xs,0,())=K (xs++(pt s 0++pt s 1++sig s),0,()):=by
 have h:=l1s s K 3 0 (by omega) (xs,0,())
 refine h.trans ?_
 rw[th _ _ (by show xs.length+(pt s 0).length≤_;omega),aw,l1s _ _ 2 1 (by omega),th _ _ (by show(xs++pt s 0).length+(pt s 1).length≤_;simp;omega),aw,l1s _ _ 1 2 (by omega),th _ _ (by show(xs++pt s 0++pt s 1).length+(sig s).length≤_;simp;omega),aw,l1e]
 show K (xs++pt s 0++pt s 1++sig s,0,())=_
 simp
theorem Ea(l:List Int)(hl:l.length≤100)(hv:∀c∈l,0≤c∧c≤2048)(K:WT→Option (List Int×Int)):∀(k i m:Nat) (xs:List Int),i+k=l.length→k<m→xs.length+k*2≤140737488355328→gH K l m ((i:Int),xs,0,())=K (xs++(l.drop i).flatMap (λc=>be c.toNat 2),0,()):=by
 intro k
 induction k with
 |zero=>
  intro i m xs hi hm _
  cases m with
  |zero=>omega
  |succ m=>
   rw[gH,if_neg (by simp;omega),List.drop_eq_nil_of_le (by omega)]
   simp
 |succ k ih=>
  intro i m xs hi hm hx
  cases m with
  |zero=>omega
  |succ m=>
   have hlt:i<l.length:=by omega
   have hg:List.getD l (Int.toNat (i:Int)) 0=l[i]:=by simp[List.getD,hlt]
   have hu:=hv l[i] (List.getElem_mem hlt)
   have e:IntKind.wrap .u16 l[i]=(((l[i]).toNat:Nat):Int):=by rw[ni (by omega) (by omega)];omega
   rw[gH,if_pos (by simp;omega),if_pos (by omega),bh,hg,e,BM _ (by omega) _ (by omega),aw,bg (by omega) (by omega)]
   have:=ih (i+1) m (xs++be (l[i]).toNat 2) (by omega) (by omega) (by simp[bB];omega)
   rw[show((i:Int)+1)=((i+1:Nat):Int)from rfl]
   refine this.trans ?_
   rw[List.drop_eq_getElem_cons hlt]
   simp only[List.flatMap_cons,List.append_assoc]
def slB(x:SlT):List Int:=be (fl x.2.2.1) 1++be (un x.1) 8++x.2.1
theorem Eb(s:ST)(hl:(shf s).length≤100)(hv:∀x∈shf s,x.2.1.length=32)(K:WT→Option (List Int×Int)):∀(k i m:Nat) (xs:List Int),i+k=(shf s).length→k<m→xs.length+k*41≤5000000→fW s K m ((i:Int),xs,0,())=K (xs++((shf s).drop i).flatMap slB,0,()):=by
 have hq:List.length s.2.2.2.2.2.2.2.2.2.2.2.2.2.2.2.1=(shf s).length:=rfl
 intro k
 induction k with
 |zero=>
  intro i m xs hi hm _
  cases m with
  |zero=>omega
  |succ m=>
   rw[fW,if_neg (by simp;omega),List.drop_eq_nil_of_le (by omega)]
   simp
 |succ k ih=>
  intro i m xs hi hm hx
  cases m with
  |zero=>omega
  |succ m=>
   have hlt:i<(shf s).length:=by omega
   have hg:List.getD (shf s) (Int.toNat (i:Int)) (0,(List.replicate 32 (0:Int)),false,())=(shf s)[i]:=by simp[List.getD,hlt]
   have hu:=hv (shf s)[i] (List.getElem_mem hlt)
   rw[fW,if_pos (by simp;omega),if_pos (by omega)]
   show((jT (xs,0,()) (List.getD (shf s) (Int.toNat (i:Int)) (0,(List.replicate 32 (0:Int)),false,())).2.2.1).bind λr31=>(bM r31 (List.getD (shf s) (Int.toNat (i:Int)) (0,(List.replicate 32 (0:Int)),false,())).1).bind λr32=>(cw r32 (List.getD (shf s) (Int.toNat (i:Int)) (0,(List.replicate 32 (0:Int)),false,())).2.1).bind λr33=>fW s K m (IntKind.wrap .i64 ((i:Int)+1),r33))=_
   rw[hg,yK _ _ (by omega),aw,pJ _ _ (by simp[bB];omega),aw,th _ _ (by simp[bB];omega),aw,bg (by omega) (by omega)]
   have:=ih (i+1) m (xs++be (fl ((shf s)[i]).2.2.1) 1++be (un ((shf s)[i]).1) 8++((shf s)[i]).2.1) (by omega) (by omega) (by simp[bB];omega)
   rw[show((i:Int)+1)=((i+1:Nat):Int)from rfl]
   refine this.trans ?_
   rw[List.drop_eq_getElem_cons hlt]
   simp only[List.flatMap_cons,List.append_assoc,slB]
def stB(n:Int)(s:ST):List Int:=be (un n) 8++(be s.1.toNat 1++((be (un s.2.1) 8++be (un s.2.2.1) 8++be (un s.2.2.2.1) 8)++(ulB s.2.2.2.2.1++(ulB s.2.2.2.2.2.1++((be (un s.2.2.2.2.2.2.1) 8++be (un s.2.2.2.2.2.2.2.1) 8++be (un s.2.2.2.2.2.2.2.2.1) 8)++((cts s).flatMap (λc=>be c.toNat 2)++(be (fl s.2.2.2.2.2.2.2.2.2.2.2.2.1) 1++((pt s 0++pt s 1++sig s)++(be (shf s).length 1++((shf s).flatMap slB++(be s.2.2.2.2.2.2.2.2.2.2.2.2.2.2.2.2.1.toNat 4++be (un s.2.2.2.2.2.2.2.2.2.2.2.2.2.2.2.2.2.1) 8)))))))))))
structure Wf(s:ST):Prop where
 ours:∀u∈s.2.2.2.2.1,u.2.2.2.1.length=32
 peers:∀u∈s.2.2.2.2.2.1,u.2.2.2.1.length=32
 shf:∀x∈shf s,x.2.1.length=32
 p0:(pt s 0).length=32
 p1:(pt s 1).length=32
 sg:(sig s).length=32
 np:(pts s).length=2
set_option maxHeartbeats 1000000 in
theorem oX{n:Int}{s:ST}(hw:Wf s)(hc:CanW n s):dU n s=some (stB n s,0):=by
 obtain⟨b,hb,hbi⟩:=AQ n s
 have hb1:b=true:=hbi.2 hc
 have ho:∀u∈s.2.2.2.2.1,Uok u:=λu hu=>⟨hc.ours.2 u hu,hw.ours u hu⟩
 have hp:∀u∈s.2.2.2.2.2.1,Uok u:=λu hu=>⟨hc.peers.2 u hu,hw.peers u hu⟩
 have lo:=oN hc.ours.1 ho
 have lp:=oN hc.peers.1 hp
 have ls:=jP slB 41 (shf s) λx hx=>by simp[slB,bB,hw.shf x hx]
 have ls2:(shf s).length*41≤49*41:=Nat.mul_le_mul_right _ hc.shf.1
 have lc:=jP (λc:Int=>be c.toNat 2) 2 (cts s) λc _=>by simp[bB]
 have lc2:(cts s).length=6:=rfl
 have e1:IntKind.wrap .u8 s.1=((s.1.toNat:Nat):Int):=by have:=hc.side;rw[q8 (by omega) (by omega)];omega
 have e2:IntKind.wrap .u8 (List.length (shf s):Int)=(((shf s).length:Nat):Int):=by have:=hc.shf.1;rw[q8 (by omega) (by omega)]
 have e3:IntKind.wrap .u32 s.2.2.2.2.2.2.2.2.2.2.2.2.2.2.2.2.1=((s.2.2.2.2.2.2.2.2.2.2.2.2.2.2.2.2.1.toNat:Nat):Int):=by have:=hc.fail;rw[xm (by omega) (by omega)];omega
 have h9:s.1.toNat<256:=by have:=hc.side;omega
 have h10:(shf s).length<256:=by have:=hc.shf.1;omega
 have h11:s.2.2.2.2.2.2.2.2.2.2.2.2.2.2.2.2.1.toNat<4294967296:=by have:=hc.fail;omega
 unfold dU
 rw[hb,hb1,aw,if_neg (by simp)]
 unfold jb
 rw[aw,pJ _ _ (by simp),aw,e1,wU8 _ h9 _ (by simp[bB]),aw]
 simp only[bh]
 rw[show(Int.toNat ((List.length [s.2.1,s.2.2.1,s.2.2.2.1]:Int) - 0)+1)=4 from rfl,D7 _ _ _ (by simp[bB])]
 rw[yJ _ hc.ours.1 ho _ (by simp[bB]),aw,yJ _ hc.peers.1 hp _ (by simp only[List.length_append,List.length_nil,bB];omega),aw]
 rw[show(Int.toNat ((List.length [s.2.2.2.2.2.2.1,s.2.2.2.2.2.2.2.1,s.2.2.2.2.2.2.2.2.1]:Int) - 0)+1)=4 from rfl,D8 _ _ _ (by simp only[List.length_append,List.length_nil,bB];omega)]
 rw[show jC s=some (cts s)from rfl,aw]
 refine(Ea (cts s) (by rw[lc2];omega) hc.cts _ 6 0 _ _ rfl (by rw[lc2];decide) (by simp only[List.length_append,List.length_nil,bB];omega)).trans ?_
 rw[List.drop_zero,yK _ _ (by simp only[List.length_append,List.length_nil,bB];omega),aw,if_pos (by decide),if_pos (by decide)]
 refine(D9 s _ _ (by simp only[List.length_append,List.length_nil,bB];omega) hw.p0 hw.p1 hw.sg).trans ?_
 rw[show(List.length s.2.2.2.2.2.2.2.2.2.2.2.2.2.2.2.1:Int)=(List.length (shf s):Int)from rfl,e2,wU8 _ h10 _ (by simp only[List.length_append,List.length_nil,bB,hw.p0,hw.p1,hw.sg];omega),aw]
 refine(Eb s (by omega) hw.shf _ (shf s).length 0 _ _ (by omega) (by omega) (by simp only[List.length_append,List.length_nil,bB,hw.p0,hw.p1,hw.sg];omega)).trans ?_
 rw[List.drop_zero,e3,EO _ h11 _ (by simp only[List.length_append,List.length_nil,bB,hw.p0,hw.p1,hw.sg];omega),aw,pJ _ _ (by simp only[List.length_append,List.length_nil,bB,hw.p0,hw.p1,hw.sg];omega),aw]
 unfold cW
 rw[if_neg (by simp),aw]
 simp only[stB,List.nil_append,List.append_assoc]
theorem rd{n:Int}{s:ST}(hc:¬CanW n s):dU n s=some ([],210):=by
 obtain⟨b,hb,hbi⟩:=AQ n s
 have hb1:b=false:=by
  cases b with
  |false=>rfl
  |true=>exact absurd (hbi.1 rfl) hc
 unfold dU
 rw[hb,hb1,aw,if_pos (by simp)]
abbrev RT:=List Int×Int×Unit
def RG(r:RT):Prop:=aS r.1
theorem uT:aS []:=λc hc=>by cases hc
theorem tj{l:List Int}(h:aS l)(n:Nat):aS (l.drop n):=λc hc=>h c (List.mem_of_mem_drop hc)
theorem qt{l:List Int}(h:aS l)(n:Nat):aS (l.take n):=λc hc=>h c (List.mem_of_mem_take hc)
theorem re(r:RT)(n:Nat)(N:Int)(hN:N=(n:Int))(h:RG r):∃(t:List Int) (r':RT),cd r N=some (t,r')∧RG r'∧r'.1.length≤r.1.length∧aS t∧t.length≤n:=by
 subst hN
 unfold cd
 simp only[bh]
 split
 ·exact⟨_,_,rfl,h,Nat.le_refl _,uT,by simp⟩
 ·split
  ·unfold fy
   rw[aw]
   exact⟨_,_,rfl,uT,by simp,uT,by simp⟩
  ·rename_i hl
   have hl':n≤r.1.length:=by simp only[decide_eq_true_eq]at hl;omega
   rw[if_pos (by omega),if_pos (by omega)]
   refine⟨_,_,rfl,?_,?_,?_,?_⟩
   ·exact tj (qt h _) _
   ·simp
   ·exact tj (qt h _) _
   ·simp;omega
theorem rf(a tl:List Int)(N:Int)(hN:N=(a.length:Int)):cd (a++tl,0,()) N=some (a,tl,0,()):=by
 subst hN
 unfold cd
 simp only[bh]
 rw[if_neg (by simp),if_neg (by simp;omega),if_pos (by simp;omega),if_pos (by simp;omega),Int.toNat_natCast,Int.toNat_natCast,List.drop_zero,List.take_left',List.take_of_length_le (Nat.le_refl _),List.drop_left']
 ·rfl
 ·rfl
theorem rh{s:List Int}(hb:aS s){i:Nat}(hi:i<8):ior .u64 (fC .u64 (pre s i) 8) (IntKind.wrap .u64 (List.getD s (Int.toNat (i:Int)) 0))=pre s (i+1):=by
 have h1:=vY hb i
 have h2:=uR hb i
 have h3:(256:Int)^i≤256^7:=by
  have:i=0∨i=1∨i=2∨i=3∨i=4∨i=5∨i=6∨i=7:=by omega
  rcases this with rfl|rfl|rfl|rfl|rfl|rfl|rfl|rfl<;>decide
 have h4:(256:Int)^7=72057594037927936:=by decide
 obtain⟨x,hx⟩:∃x:Nat,pre s i=(x:Int):=⟨(pre s i).toNat,by omega⟩
 obtain⟨c,hc⟩:∃c:Nat,s.getD i 0=(c:Int):=⟨(s.getD i 0).toNat,by omega⟩
 rw[Int.toNat_natCast,hc,hx,nh (by omega) (by omega),zv x c (by omega) (by omega)]
 simp only[pre]
 rw[hx,hc];omega
theorem Dd(s:List Int)(hb:aS s)(hl:s.length≤8)(K:Int→Option Int):∀(k i m:Nat),i+k=s.length→k<m→dO s K m (pre s i,(i:Int))=K (pre s s.length):=by
 intro k
 induction k with
 |zero=>
  intro i m hi hm
  cases m with
  |zero=>omega
  |succ m=>
   rw[dO,if_neg (by simp;omega)]
   show K (pre s i)=_
   rw[show i=s.length by omega]
 |succ k ih=>
  intro i m hi hm
  cases m with
  |zero=>omega
  |succ m=>
   rw[dO]
   simp only[bh]
   rw[if_pos (by simp;omega),if_pos (by omega),rh hb (by omega),bg (by omega) (by omega)]
   exact ih (i+1) m (by omega) (by omega)
theorem DA(s:List Int)(hb:aS s)(hl:s.length≤8):gS s=some (IntKind.wrap .u8 (pre s s.length)):=by
 unfold gS
 rw[bh]
 exact Dd s hb hl _ s.length 0 _ (by omega) (by omega)
theorem BO(s:List Int)(hb:aS s)(hl:s.length≤8)(K:Int→Option Int):∀(k i m:Nat),i+k=s.length→k<m→dC s K m (pre s i,(i:Int))=K (pre s s.length):=by
 intro k
 induction k with
 |zero=>
  intro i m hi hm
  cases m with
  |zero=>omega
  |succ m=>
   rw[dC,if_neg (by simp;omega)]
   show K (pre s i)=_
   rw[show i=s.length by omega]
 |succ k ih=>
  intro i m hi hm
  cases m with
  |zero=>omega
  |succ m=>
   rw[dC]
   simp only[bh]
   rw[if_pos (by simp;omega),if_pos (by omega),rh hb (by omega),bg (by omega) (by omega)]
   exact ih (i+1) m (by omega) (by omega)
theorem uU(s:List Int)(hb:aS s)(hl:s.length≤8):dm s=some (IntKind.wrap .u16 (pre s s.length)):=by
 unfold dm
 rw[bh]
 exact BO s hb hl _ s.length 0 _ (by omega) (by omega)
theorem BP(s:List Int)(hb:aS s)(hl:s.length≤8)(K:Int→Option Int):∀(k i m:Nat),i+k=s.length→k<m→dD s K m (pre s i,(i:Int))=K (pre s s.length):=by
 intro k
 induction k with
 |zero=>
  intro i m hi hm
  cases m with
  |zero=>omega
  |succ m=>
   rw[dD,if_neg (by simp;omega)]
   show K (pre s i)=_
   rw[show i=s.length by omega]
 |succ k ih=>
  intro i m hi hm
  cases m with
  |zero=>omega
  |succ m=>
   rw[dD]
   simp only[bh]
   rw[if_pos (by simp;omega),if_pos (by omega),rh hb (by omega),bg (by omega) (by omega)]
   exact ih (i+1) m (by omega) (by omega)
theorem Cm(s:List Int)(hb:aS s)(hl:s.length≤8):gz s=some (IntKind.wrap .u32 (pre s s.length)):=by
 unfold gz
 rw[bh]
 exact BP s hb hl _ s.length 0 _ (by omega) (by omega)
theorem BQ(s:List Int)(hb:aS s)(hl:s.length≤8)(K:Int→Option Int):∀(k i m:Nat),i+k=s.length→k<m→dB s K m (pre s i,(i:Int))=K (pre s s.length):=by
 intro k
 induction k with
 |zero=>
  intro i m hi hm
  cases m with
  |zero=>omega
  |succ m=>
   rw[dB,if_neg (by simp;omega)]
   show K (pre s i)=_
   rw[show i=s.length by omega]
 |succ k ih=>
  intro i m hi hm
  cases m with
  |zero=>omega
  |succ m=>
   rw[dB]
   simp only[bh]
   rw[if_pos (by simp;omega),if_pos (by omega),rh hb (by omega),bg (by omega) (by omega)]
   exact ih (i+1) m (by omega) (by omega)
theorem Cn(s:List Int)(hb:aS s)(hl:s.length≤8):gy s=some (pre s s.length):=by
 unfold gy
 rw[bh]
 exact BQ s hb hl _ s.length 0 _ (by omega) (by omega)
theorem ES(n:Int):0≤IntKind.wrap .u8 n∧IntKind.wrap .u8 n<256:=by rw[oM];omega
theorem Co(n:Int):0≤IntKind.wrap .u16 n∧IntKind.wrap .u16 n<65536:=by
 have:IntKind.wrap .u16 n=n % 65536:=by
  simp only[IntKind.wrap,IntKind.bits,IntKind.signed,Bool.false_and,Bool.false_eq_true,if_false];rfl
 omega
theorem Ec(n:Int):0≤IntKind.wrap .u32 n∧IntKind.wrap .u32 n<4294967296:=by
 have:IntKind.wrap .u32 n=n % 4294967296:=by
  simp only[IntKind.wrap,IntKind.bits,IntKind.signed,Bool.false_and,Bool.false_eq_true,if_false];rfl
 omega
theorem De(U:Nat)(hU:U<256):pre (be U 1) 1=U:=by
 have e:be U 1=[((U/1 % 256:Nat):Int)]:=rfl
 rw[e];simp only[pre,List.getD_cons_zero];omega
theorem yL(U:Nat)(hU:U<65536):pre (be U 2) 2=U:=by
 have e:be U 2=[((U/256 % 256:Nat):Int),((U/1 % 256:Nat):Int)]:=rfl
 rw[e];simp only[pre,List.getD_cons_zero,List.getD_cons_succ];omega
theorem Df(U:Nat)(hU:U<4294967296):pre (be U 4) 4=U:=by
 have e:be U 4=[((U/16777216 % 256:Nat):Int),((U/65536 % 256:Nat):Int),((U/256 % 256:Nat):Int),((U/1 % 256:Nat):Int)]:=rfl
 rw[e];simp only[pre,List.getD_cons_zero,List.getD_cons_succ];omega
theorem rU8(r:RT)(h:RG r):∃(v:Int) (r':RT),ct r=some (v,r')∧RG r'∧r'.1.length≤r.1.length∧0≤v∧v<256:=by
 obtain⟨t,r',h1,h2,h3,h4,h5⟩:=re r 1 1 rfl h
 unfold ct
 rw[h1,aw,DA t h4 (by omega),aw]
 exact⟨_,_,rfl,h2,h3,ES _⟩
theorem dU8(v:Nat)(hv:v<256)(tl:List Int):ct (be v 1++tl,0,())=some ((v:Int),tl,0,()):=by
 unfold ct
 rw[rf (be v 1) tl 1 (by rw[bB];rfl),aw,DA _ (dy v 1) (by rw[bB];omega),aw,bB,De v hv,q8 (by omega) (by omega)]
theorem ET(r:RT)(h:RG r):∃(v:Int) (r':RT),cG r=some (v,r')∧RG r'∧r'.1.length≤r.1.length∧0≤v∧v<65536:=by
 obtain⟨t,r',h1,h2,h3,h4,h5⟩:=re r 2 2 rfl h
 unfold cG
 rw[h1,aw,uU t h4 (by omega),aw]
 exact⟨_,_,rfl,h2,h3,Co _⟩
theorem DB(v:Nat)(hv:v<65536)(tl:List Int):cG (be v 2++tl,0,())=some ((v:Int),tl,0,()):=by
 unfold cG
 rw[rf (be v 2) tl 2 (by rw[bB];rfl),aw,uU _ (dy v 2) (by rw[bB];omega),aw,bB,yL v hv,ni (by omega) (by omega)]
theorem EU(r:RT)(h:RG r):∃(v:Int) (r':RT),eQ r=some (v,r')∧RG r'∧r'.1.length≤r.1.length∧0≤v∧v<4294967296:=by
 obtain⟨t,r',h1,h2,h3,h4,h5⟩:=re r 4 4 rfl h
 unfold eQ
 rw[h1,aw,Cm t h4 (by omega),aw]
 exact⟨_,_,rfl,h2,h3,Ec _⟩
theorem EV(v:Nat)(hv:v<4294967296)(tl:List Int):eQ (be v 4++tl,0,())=some ((v:Int),tl,0,()):=by
 unfold eQ
 rw[rf (be v 4) tl 4 (by rw[bB];rfl),aw,Cm _ (dy v 4) (by rw[bB];omega),aw,bB,Df v hv,xm (by omega) (by omega)]
theorem EW(r:RT)(h:RG r):∃(v:Int) (r':RT),bi r=some (v,r')∧RG r'∧r'.1.length≤r.1.length:=by
 obtain⟨t,r',h1,h2,h3,h4,h5⟩:=re r 8 8 rfl h
 unfold bi
 rw[h1,aw,Cn t h4 (by omega),aw]
 exact⟨_,_,rfl,h2,h3⟩
theorem zC(v:Int)(hv: -9223372036854775808≤v∧v≤9223372036854775807)(tl:List Int):bi (be (un v) 8++tl,0,())=some (v,tl,0,()):=by
 have e:pre (be (un v) 8) 8=(un v:Int):=by have:=Dy (un v) (Ck v) [];rwa [List.append_nil]at this
 unfold bi
 rw[rf (be (un v) 8) tl 8 (by rw[bB];rfl),aw,Cn _ (dy _ 8) (by rw[bB];omega),aw,bB,e,C6 hv]
theorem BR(n:Nat)(t:List Int)(ht:t.length≤n):(bR (List.replicate n (0:Int)) 0 t).length=n:=by
 simp[bR];omega
theorem AR(t:List Int):bR (List.replicate t.length (0:Int)) 0 t=t:=by
 simp[bR]
theorem Ed(r:RT)(h:RG r):∃(v:List Int) (r':RT),bU r=some (v,r')∧RG r'∧r'.1.length≤r.1.length∧v.length=32:=by
 obtain⟨t,r',h1,h2,h3,h4,h5⟩:=re r 32 32 rfl h
 unfold bU
 rw[h1,aw]
 exact⟨_,_,rfl,h2,h3,BR 32 t h5⟩
theorem tk(v:List Int)(hv:v.length=32)(tl:List Int):bU (v++tl,0,())=some (v,tl,0,()):=by
 unfold bU
 rw[rf v tl 32 (by rw[hv];rfl),aw]
 have:=AR v
 rw[hv]at this
 show some (bR (List.replicate 32 (0:Int)) 0 v,tl,0,())=_
 rw[this]
theorem Ee(r:RT)(h:RG r)(n:Int):∃(v:List Int) (r':RT),dX r n=some (v,r')∧RG r'∧r'.1.length≤r.1.length:=by
 have key:∀r:RT,RG r→∃(v:List Int) (r':RT),((cd r 2).bind λr3=>(dm r3.1).bind λr4=>(cd r3.2 (IntKind.wrap .i64 r4)).bind λr5=>some (r5.1,r5.2))=some (v,r')∧RG r'∧r'.1.length≤r.1.length:=λr h=>by
  obtain⟨t,r',h1,h2,h3,h4,h5⟩:=re r 2 2 rfl h
  rw[h1,aw,uU t h4 (by omega),aw]
  have hw:=Co (pre t t.length)
  obtain⟨t2,r2,g1,g2,g3,g4,g5⟩:=re r' (IntKind.wrap .u16 (pre t t.length)).toNat (IntKind.wrap .i64 (IntKind.wrap .u16 (pre t t.length))) (by rw[bg (by omega) (by omega)];omega) h2
  rw[g1,aw]
  exact⟨_,_,rfl,g2,Nat.le_trans g3 h3⟩
 unfold dX
 simp only[bh]
 split
 ·rename_i hb
  have hl:2≤r.1.length:=by simp only[Bool.and_eq_true,decide_eq_true_eq]at hb;omega
  rw[if_pos (by omega)]
  have hbt:aS (List.drop 0 (List.take 2 r.1)):=tj (qt h _) _
  rw[uU _ hbt (by simp;omega),aw]
  split
  ·unfold fy
   rw[aw]
   obtain⟨v,r',h1,h2,h3⟩:=key ([],3,r.2.2) (uT)
   exact⟨v,r',h1,h2,by simp at h3;simp[h3]⟩
  ·exact key r h
 ·rw[if_neg (by simp)]
  exact key r h
theorem Ef(t:List Int)(ht:t.length≤64)(tl:List Int):dX (be t.length 2++(t++tl),0,()) 64=some (t,tl,0,()):=by
 have e:pre (be t.length 2) 2=(t.length:Int):=yL _ (by omega)
 have ed:List.drop 0 (List.take 2 (be t.length 2++(t++tl)))=be t.length 2:=by
  rw[List.drop_zero,List.take_append_of_le_length (by rw[bB];omega),List.take_of_length_le (by rw[bB];omega)]
 have ev:dm (be t.length 2)=some (t.length:Int):=by
  rw[uU _ (dy _ 2) (by rw[bB];omega),bB,e,ni (by omega) (by omega)]
 unfold dX
 simp only[bh]
 rw[if_pos (by simp[bB];omega),if_pos (by simp[bB];omega),ed,ev,aw,if_neg (by rw[bg (by omega) (by omega)];simp;omega)]
 rw[rf (be t.length 2) (t++tl) 2 (by rw[bB];rfl),aw,ev,aw,rf t tl _ (by rw[bg (by omega) (by omega)]),aw]
theorem mo{α β:Type}{f:α→Option β}{g:(α→Option β)→Option β}{P:β→Prop}(Q:α→Prop)(hf:∀o,Q o→∃x,f o=some x∧P x)(hg:∀k,(∀o,Q o→∃x,k o=some x∧P x)→∃x,g k=some x∧P x):∃x,bnd f g=some x∧P x:=by
 rw[bh];exact hg f hf
theorem qu{α β:Type}{a:α}{f:α→Option β}{P:β→Prop}(h:∃x,f a=some x∧P x):∃x,bnd a f=some x∧P x:=by
 rw[bh];exact h
theorem bC{α β:Type}{x:Option α}{f:α→Option β}{Q:α→Prop}{P:β→Prop}(h:∃y,x=some y∧Q y)(g:∀y,Q y→∃z,f y=some z∧P z):∃z,x.bind f=some z∧P z:=by
 obtain⟨y,hy,hq⟩:=h
 rw[hy,aw];exact g y hq
def RN(r:RT)(n:Nat):Prop:=aS r.1∧r.1.length≤n
theorem tU8{r:RT}{n:Nat}(h:RN r n):∃y,ct r=some y∧(RN y.2 n∧0≤y.1∧y.1<256):=by
 obtain⟨v,r',a,b,c,d⟩:=rU8 r h.1
 exact⟨_,a,⟨b,Nat.le_trans c h.2⟩,d⟩
theorem DC{r:RT}{n:Nat}(h:RN r n):∃y,cG r=some y∧(RN y.2 n∧0≤y.1∧y.1<65536):=by
 obtain⟨v,r',a,b,c,d⟩:=ET r h.1
 exact⟨_,a,⟨b,Nat.le_trans c h.2⟩,d⟩
theorem EX{r:RT}{n:Nat}(h:RN r n):∃y,eQ r=some y∧(RN y.2 n∧0≤y.1∧y.1<4294967296):=by
 obtain⟨v,r',a,b,c,d⟩:=EU r h.1
 exact⟨_,a,⟨b,Nat.le_trans c h.2⟩,d⟩
theorem pK{r:RT}{n:Nat}(h:RN r n):∃y,bi r=some y∧RN y.2 n:=by
 obtain⟨v,r',a,b,c⟩:=EW r h.1
 exact⟨_,a,b,Nat.le_trans c h.2⟩
theorem tm{r:RT}{n:Nat}(h:RN r n):∃y,bU r=some y∧(RN y.2 n∧y.1.length=32):=by
 obtain⟨v,r',a,b,c,d⟩:=Ed r h.1
 exact⟨_,a,⟨b,Nat.le_trans c h.2⟩,d⟩
theorem Eg{r:RT}{n:Nat}(h:RN r n)(m:Int):∃y,dX r m=some y∧RN y.2 n:=by
 obtain⟨v,r',a,b,c⟩:=Ee r h.1 m
 exact⟨_,a,b,Nat.le_trans c h.2⟩
theorem BS{r:RT}{n:Nat}(h:RN r n):∃y,cN r=some y∧(RN y.2 n∧y.1=r.2.1∧y.2=r):=⟨_,rfl,h,rfl,rfl⟩
theorem Cp{r:RT}{n:Nat}(h:RN r n):∃y,cI r=some y∧(RN y.2 n∧aS y.1∧y.1.length≤n):=⟨_,rfl,h,h.1,h.2⟩
theorem EY(b:List Int)(hb:aS b)(hl:b.length<4611686018427387904):∃x,fN b=some x∧(x.1.2.2.2.1.length=32∧0≤x.2.1∧x.2.1≤b.length):=by
 have hz:(List.replicate 32 (0:Int)).length=32:=by simp
 unfold fN cZ
 rw[aw]
 refine bC (tU8 (n:=b.length) ⟨hb,Nat.le_refl _⟩) λr6 h6=>?_
 refine bC (BS h6.1) λr8 h8=>?_
 refine qu ?_
 refine mo (λ_=>True) (λo11 _=>?_) λk10 hk=>?_
 ·split
  ·exact⟨_,rfl,hz,by simp,by simp⟩
  ·refine bC (DC h8.1) λr13 h13=>?_
   refine mo (λo=>RN o.1 b.length∧o.2.2.2.2.1.length=32) (λo15 h15=>?_) λk14 hk14=>?_
   ·refine bC (BS h15.1) λr16 h16=>?_
    split
    ·unfold mH
     split
     ·exact⟨_,rfl,hz,by simp,by simp⟩
     ·exact⟨_,rfl,hz,by simp,by simp⟩
    ·rw[q9,aw]
     split
     ·exact⟨_,rfl,hz,by simp,by simp⟩
     ·rw[bh]
      refine bC (Cp h16.1) λr21 h21=>?_
      refine⟨_,rfl,h15.2,?_⟩
      have:=h21.2.2
      show 0≤IntKind.wrap .i64 ((List.length b:Int) - (List.length r21.1:Int))∧IntKind.wrap .i64 ((List.length b:Int) - (List.length r21.1:Int))≤_
      rw[bg (by omega) (by omega)]
      omega
   ·split
    ·refine bC (pK h13.1) λr22 h22=>?_
     refine bC (tm h22) λr23 h23=>?_
     exact hk14 _ ⟨h23.1,h23.2⟩
    ·split
     ·refine bC (tm h13.1) λr24 h24=>?_
      exact hk14 _ ⟨h24.1,h24.2⟩
     ·split
      ·refine bC (Eg h13.1 64) λr25 h25=>?_
       exact hk14 _ ⟨h25,hz⟩
      ·exact hk14 _ ⟨h13.1,hz⟩
 ·split
  ·refine qu ?_
   exact hk _ trivial
  ·exact hk _ trivial
theorem EZ(u:UT)(hu:Uok u)(tl:List Int)(hl:(uB u++tl).length<4611686018427387904):fN (uB u++tl)=some (u,(List.length (uB u):Int),0):=by
 obtain⟨k,id,am,hs,nt,⟨⟩⟩:=u
 replace hl:(uB (k,id,am,hs,nt,())++tl).length<4611686018427387904:=hl
 show fN (uB (k,id,am,hs,nt,())++tl)=some ((k,id,am,hs,nt,()),(List.length (uB (k,id,am,hs,nt,())):Int),0)
 obtain⟨h0,h⟩:=ue hu.1
 have hv:=q9 (k,id,am,hs,nt,())
 rw[show vU (k,id,am,hs,nt,())=true from hu.1]at hv
 have hh:hs.length=32:=hu.2
 simp only at h0 h
 have ek:IntKind.wrap .i64 ((k.toNat:Nat):Int)=k:=by rw[bg (by omega) (by omega)];omega
 have ei:IntKind.wrap .i64 ((id.toNat:Nat):Int)=id:=by rw[bg (by omega) (by omega)];omega
 have el:(uB (k,id,am,hs,nt,())++tl).length=(uB (k,id,am,hs,nt,())).length+tl.length:=List.length_append
 have ew:IntKind.wrap .i64 ((List.length (uB (k,id,am,hs,nt,())++tl):Int) - (List.length tl:Int))=(List.length (uB (k,id,am,hs,nt,())):Int):=by rw[bg (by omega) (by omega)];omega
 have hid:=DB id.toNat (by omega)
 generalize hB:(List.length (uB (k,id,am,hs,nt,())):Int)=B at ew⊢
 rcases h with h|h|h
 ·obtain⟨rfl,ha,hb,rfl⟩:=h
  have e0:uB (1,id,am,hs,[],())++tl=be 1 1++(be id.toNat 2++(be (un am) 8++(hs++tl))):=by simp[uB]
  rw[e0]at ew⊢
  have hk:ct (be 1 1++(be id.toNat 2++(be (un am) 8++(hs++tl))),0,())=some (1,be id.toNat 2++(be (un am) 8++(hs++tl)),0,()):=dU8 1 (by omega) _
  have ek1:IntKind.wrap .i64 1=1:=by decide
  simp only[fN,cZ,cN,cI,bh,aw,hk,ek1,hid,ei,zC am (by omega),tk hs hh,hv,ew]
  rfl
 ·obtain⟨rfl,rfl,rfl⟩:=h
  have e0:uB (2,id,0,hs,[],())++tl=be 2 1++(be id.toNat 2++(hs++tl)):=by simp[uB]
  rw[e0]at ew⊢
  have hk:ct (be 2 1++(be id.toNat 2++(hs++tl)),0,())=some (2,be id.toNat 2++(hs++tl),0,()):=dU8 2 (by omega) _
  have ek1:IntKind.wrap .i64 2=2:=by decide
  simp only[fN,cZ,cN,cI,bh,aw,hk,ek1,hid,ei,tk hs hh,hv,ew]
  rfl
 ·obtain⟨rfl,rfl,rfl,hn⟩:=h
  have e0:uB (3,id,0,List.replicate 32 (0:Int),nt,())++tl=be 3 1++(be id.toNat 2++(be nt.length 2++(nt++tl))):=by simp[uB]
  rw[e0]at ew⊢
  have hk:ct (be 3 1++(be id.toNat 2++(be nt.length 2++(nt++tl))),0,())=some (3,be id.toNat 2++(be nt.length 2++(nt++tl)),0,()):=dU8 3 (by omega) _
  have ek1:IntKind.wrap .i64 3=3:=by decide
  simp only[fN,cZ,cN,cI,bh,aw,hk,ek1,hid,ei,Ef nt hn,hv,ew]
  rfl
abbrev LR:=(Int×RT)×Bool×Unit
def RL(x:LR)(n:Nat):Prop:=x.1.1=0∧RN x.1.2 n
theorem oY{a:LR}{n:Nat}(h:RL a n):∃y,co a=some y∧(RL y.2 n∧0≤y.1∧y.1<65536):=by
 unfold co
 rw[if_pos h.1]
 refine bC (DC h.2) λr7 h7=>⟨_,rfl,⟨h.1,h7.1⟩,?_⟩
 rw[bg (by omega) (by omega)]
 exact h7.2
theorem Cq{a:LR}{n:Nat}(h:RL a n):∃y,eP a=some y∧RL y.2 n:=by
 unfold eP
 rw[if_pos h.1]
 exact bC (tU8 h.2) λr7 h7=>⟨_,rfl,h.1,h7.1⟩
theorem AU(v:Nat)(hv:v<65536)(tl:List Int)(b:Bool):co ((0,be v 2++tl,0,()),b,())=some ((v:Int),(0,tl,0,()),b,()):=by
 unfold co
 rw[if_pos rfl,DB v hv,aw,bg (by omega) (by omega)]
theorem Cr(v:Bool)(tl:List Int)(b:Bool):eP ((0,be (fl v) 1++tl,0,()),b,())=some (v,(0,tl,0,()),b,()):=by
 unfold eP
 rw[if_pos rfl,dU8 (fl v) (by cases v<;>decide),aw]
 cases v<;>rfl
def LOk(n:Nat)(x:List UT×LR):Prop:=RL x.2 n∧∀u∈x.1,u.2.2.2.1.length=32
theorem BU(n:Nat)(hn:n<4611686018427387904)(r7:Int×LR)(N:Nat)(hN:r7.1=(N:Int))(hN2:N<65536)(k4:LR×List UT→Option (List UT×LR))(hk:∀o,(RL o.1 n∧∀u∈o.2,u.2.2.2.1.length=32)→∃x,k4 o=some x∧LOk n x):
  ∀(c i m:Nat) (st:LR) (acc:List UT),i+c=N→c<m→acc.length=i→RL st n→(∀u∈acc,u.2.2.2.1.length=32)→∃x,cO k4 r7 m ((i:Int),st,acc)=some x∧LOk n x:=by
 intro c
 induction c with
 |zero=>
  intro i m st acc hi hm ha hs hu
  cases m with
  |zero=>omega
  |succ m=>
   rw[cO,if_neg (by rw[hN];simp;omega)]
   exact hk _ ⟨hs,hu⟩
 |succ c ih=>
  intro i m st acc hi hm ha hs hu
  cases m with
  |zero=>omega
  |succ m=>
   rw[cO,if_pos (by rw[hN];simp;omega),if_pos hs.1]
   refine bC (Cp hs.2) λr17 h17=>?_
   refine bC (EY r17.1 h17.2.1 (by omega)) λr18 h18=>?_
   refine qu ?_
   refine mo (λo=>RN o.2 n) (λo22 h22=>?_) λk21 hk21=>?_
   ·split
    ·exact⟨_,rfl,⟨hs.1,h22⟩,λu hu=>by cases hu⟩
    ·rw[if_pos (by simp;omega),if_pos (by omega)]
     unfold cZ
     rw[aw,bg (by omega) (by omega)]
     refine ih (i+1) m _ _ (by omega) (by omega) (by simp;omega) ⟨hs.1,?_,?_⟩ λu hu'=>?_
     ·exact tj (qt h17.2.1 _) _
     ·show(List.drop _ (List.take _ r17.1)).length≤n
      simp only[List.length_drop,List.length_take];omega
     ·rcases List.mem_append.1 hu' with h|h
      ·exact hu u h
      ·obtain rfl:=List.mem_singleton.1 h;exact h18.1
   ·split
    ·exact hk21 _ h17.1
    ·exact bC (BS h17.1) λr23 h23=>hk21 _ h23.1
theorem Cs{a:LR}{n:Nat}(hn:n<4611686018427387904)(h:RL a n):∃y,eO a=some y∧LOk n y:=by
 unfold eO
 refine mo (λo=>RL o.1 n∧∀u∈o.2,u.2.2.2.1.length=32) (λo ho=>⟨_,rfl,ho⟩) λk4 hk=>?_
 refine bC (oY h) λr7 h7=>?_
 have e:r7.1=((r7.1.toNat:Nat):Int):=by omega
 exact BU n hn r7 r7.1.toNat e (by omega) k4 hk r7.1.toNat 0 _ r7.2 [] (by omega) (by omega) rfl h7.1 λu hu=>by cases hu
theorem BV(l:List UT)(hl:l.length≤2048)(hu:∀u∈l,Uok u)(tl:List Int)(ht:tl.length<4000000000000000000)(b:Bool)(r7:Int×LR)(hN:r7.1=(l.length:Int))(k4:LR×List UT→Option (List UT×LR)):
  ∀(c i m:Nat),i+c=l.length→c<m→cO k4 r7 m ((i:Int),((0,(l.drop i).flatMap uB++tl,0,()),b,()),l.take i)=k4 (((0,tl,0,()),b,()),l):=by
 intro c
 induction c with
 |zero=>
  intro i m hi hm
  cases m with
  |zero=>omega
  |succ m=>
   rw[cO,if_neg (by rw[hN];simp;omega),List.drop_eq_nil_of_le (by omega),List.take_of_length_le (by omega)]
   rfl
 |succ c ih=>
  intro i m hi hm
  cases m with
  |zero=>omega
  |succ m=>
   have hlt:i<l.length:=by omega
   have hui:=hu l[i] (List.getElem_mem hlt)
   have ub:=uS hui.1 hui.2
   have ed:(l.drop i).flatMap uB++tl=uB l[i]++((l.drop (i+1)).flatMap uB++tl):=by
    rw[List.drop_eq_getElem_cons hlt];simp only[List.flatMap_cons,List.append_assoc]
   have h2:=jP uB 100 (l.drop (i+1)) λu hu'=>by have:=hu u (List.mem_of_mem_drop hu');exact uS this.1 this.2
   have h3:(l.drop (i+1)).length*100≤2048*100:=Nat.mul_le_mul_right _ (by simp;omega)
   have bV:(uB l[i]++((l.drop (i+1)).flatMap uB++tl)).length<4611686018427387904:=by
    simp only[List.length_append];omega
   rw[cO,if_pos (by rw[hN];simp;omega),if_pos rfl]
   unfold cI
   rw[aw,ed]
   simp only[bh]
   rw[EZ _ hui _ bV,aw,if_neg (by simp)]
   unfold cN
   rw[aw,if_neg (by simp),if_pos (by simp;omega),if_pos (by simp;omega),bg (by omega) (by omega)]
   unfold cZ
   rw[aw,Int.toNat_natCast,Int.toNat_natCast,List.take_of_length_le (Nat.le_refl _),List.drop_left' rfl]
   have et:l.take i++[l[i]]=l.take (i+1):=by rw[List.take_succ_eq_append_getElem hlt]
   rw[et]
   exact ih (i+1) m (by omega) (by omega)
theorem Ct(l:List UT)(hl:l.length≤2048)(hu:∀u∈l,Uok u)(tl:List Int)(ht:tl.length<4000000000000000000)(b:Bool):eO ((0,ulB l++tl,0,()),b,())=some (l,(0,tl,0,()),b,()):=by
 unfold eO ulB
 rw[bh,List.append_assoc,AU _ (by omega),aw]
 exact BV l hl hu tl ht b _ rfl _ l.length 0 _ (by omega) (by omega)
abbrev SR:=Int×ST×Int
def SOk(n:Nat)(o:LR×List SlT):Prop:=RL o.1 n∧∀x∈o.2,x.2.1.length=32
theorem AV(n:Nat)(P:SR→Prop)(k32:LR×List SlT→Option SR)(r47:Int×RT)(N:Nat)(hN:r47.1=(N:Int))(hN2:N<256)(hk:∀o,SOk n o→∃x,k32 o=some x∧P x):
  ∀(c i m:Nat) (st:LR) (acc:List SlT),i+c=N→c<m→acc.length=i→RL st n→(∀x∈acc,x.2.1.length=32)→∃x,eA k32 r47 m ((i:Int),st,acc)=some x∧P x:=by
 intro c
 induction c with
 |zero=>
  intro i m st acc hi hm ha hs hu
  cases m with
  |zero=>omega
  |succ m=>
   rw[eA,if_neg (by rw[hN,bg (by omega) (by omega)];simp;omega)]
   exact hk _ ⟨hs,hu⟩
 |succ c ih=>
  intro i m st acc hi hm ha hs hu
  cases m with
  |zero=>omega
  |succ m=>
   rw[eA,if_pos (by rw[hN,bg (by omega) (by omega)];simp;omega)]
   refine bC (Cq hs) λr55 h55=>?_
   rw[if_pos h55.1]
   refine bC (pK h55.2) λr60 h60=>?_
   refine bC (tm h60) λr61 h61=>?_
   rw[if_pos (by simp;omega),bg (by omega) (by omega)]
   refine ih (i+1) m _ _ (by omega) (by omega) (by simp;omega) ⟨h55.1,h61.1⟩ λx hx=>?_
   rcases List.mem_append.1 hx with h|h
   ·exact hu x h
   ·obtain rfl:=List.mem_singleton.1 h;exact h61.2
theorem AW(l:List SlT)(hl:l.length≤49)(hu:∀x∈l,x.2.1.length=32∧0≤x.1∧x.1≤281474976710655)(tl:List Int)(b:Bool)(k32:LR×List SlT→Option SR)(r47:Int×RT)(hN:r47.1=(l.length:Int)):
  ∀(c i m:Nat),i+c=l.length→c<m→eA k32 r47 m ((i:Int),((0,(l.drop i).flatMap slB++tl,0,()),b,()),l.take i)=k32 (((0,tl,0,()),b,()),l):=by
 intro c
 induction c with
 |zero=>
  intro i m hi hm
  cases m with
  |zero=>omega
  |succ m=>
   rw[eA,if_neg (by rw[hN,bg (by omega) (by omega)];simp;omega),List.drop_eq_nil_of_le (by omega),List.take_of_length_le (by omega)]
   rfl
 |succ c ih=>
  intro i m hi hm
  cases m with
  |zero=>omega
  |succ m=>
   have hlt:i<l.length:=by omega
   have hui:=hu l[i] (List.getElem_mem hlt)
   have ed:(l.drop i).flatMap slB++tl=be (fl (l[i]).2.2.1) 1++(be (un (l[i]).1) 8++((l[i]).2.1++((l.drop (i+1)).flatMap slB++tl))):=by
    rw[List.drop_eq_getElem_cons hlt];simp only[List.flatMap_cons,List.append_assoc,slB]
   rw[eA,if_pos (by rw[hN,bg (by omega) (by omega)];simp;omega),ed]
   simp only[]
   rw[Cr,aw,if_pos rfl,zC _ (by omega),aw,tk _ hui.1,aw,if_pos (by simp;omega),bg (by omega) (by omega)]
   have et:l.take i++[((l[i]).1,(l[i]).2.1,(l[i]).2.2.1,())]=l.take (i+1):=by rw[List.take_succ_eq_append_getElem hlt]
   rw[et]
   exact ih (i+1) m (by omega) (by omega)
def zS:ST:=(0,0,0,0,[],[],0,0,0,(0,0,()),(0,0,()),(0,0,()),false,(List.replicate 2 ((List.replicate 32 (0:Int)):List (Int))),(List.replicate 32 (0:Int)),[],0,0,())
def eS:SR:=(0,zS,210)
def ROk(b:List Int)(x:SR):Prop:=x=eS∨(x.2.2=0∧Wf x.2.1∧dU x.1 x.2.1=some (b,0))
theorem DD(n:Int){s:ST}(hw:Wf s):∃y,dU n s=some y∧dU n s=some y:=by
 by_cases hc:CanW n s
 ·exact⟨_,oX hw hc,oX hw hc⟩
 ·exact⟨_,rd hc,rd hc⟩
abbrev PS:=Int×Int×Int×Int×Unit×List UT×Int×Int×Int×(Int×Int×Unit)×(Int×Int×Unit)×(Int×Int×Unit)×Bool×List (List Int)×List Int×Unit×Int×Int×Unit
def POk(p:PS):Prop:=(∀u∈p.2.2.2.2.2.1,u.2.2.2.1.length=32)∧p.2.2.2.2.2.2.2.2.2.2.2.2.2.1=List.replicate 2 (List.replicate 32 (0:Int))
theorem Cu(b:List Int)(hb:aS b)(hl:b.length<4611686018427387904):∃x,eo b=some x∧ROk b x:=by
 have h0:RN (b,0,()) b.length:=⟨hb,Nat.le_refl _⟩
 unfold eo cZ
 rw[aw]
 refine bC (pK h0) λr8 h8=>?_
 refine bC (tU8 h8) λr9 h9=>?_
 refine bC (pK h9.1) λr10 h10=>?_
 refine bC (pK h10) λr11 h11=>?_
 refine bC (pK h11) λr12 h12=>?_
 refine bC (Cs hl (a:=((0,r12.2),false,())) ⟨rfl,h12⟩) λr13 h13=>?_
 refine mo (λo=>RL o.2 b.length∧POk o.1) (λo16 h16=>?_) λk15 hk15=>?_
 ·rw[if_pos h16.1.1]
  refine bC (pK h16.1.2) λr20 h20=>?_
  refine bC (pK h20) λr21 h21=>?_
  refine bC (pK h21) λr22 h22=>?_
  refine mo (λo=>RL o.1 b.length∧POk o.2) (λo24 h24=>?_) λk23 hk23=>?_
  ·refine bC (Cq h24.1) λr25 h25=>?_
   rw[if_pos h25.1]
   refine bC (tm h25.2) λr29 h29=>?_
   refine bC (tm h29.1) λr30 h30=>?_
   refine bC (tm h30.1) λr31 h31=>?_
   rw[if_pos (by decide),if_pos (by decide)]
   refine mo (SOk b.length) (λo33 h33=>?_) λk32 hk32=>?_
   ·rw[if_pos h33.1.1]
    refine bC (EX h33.1.2) λr38 h38=>?_
    refine bC (pK h38.1) λr39 h39=>?_
    rw[h24.2.2]
    have hw:Wf (o24.2.1,o24.2.2.1,o24.2.2.2.1,o24.2.2.2.2.1,r13.1,o24.2.2.2.2.2.2.1,o24.2.2.2.2.2.2.2.1,o24.2.2.2.2.2.2.2.2.1,o24.2.2.2.2.2.2.2.2.2.1,o24.2.2.2.2.2.2.2.2.2.2.1,o24.2.2.2.2.2.2.2.2.2.2.2.1,o24.2.2.2.2.2.2.2.2.2.2.2.2.1,r25.1,(List.set (List.set (List.replicate 2 (List.replicate 32 (0:Int))) 0 r29.1) 1 r30.1),r31.1,o33.2,(IntKind.wrap .i64 r38.1),r39.1,o24.2.2.2.2.2.2.2.2.2.2.2.2.2.2.2.2.2.2.2):=
     ⟨h13.2,h24.2.1,h33.2,h29.2,h30.2,h31.2,rfl⟩
    refine bC (DD r8.1 hw) λr40 h40=>?_
    refine mo (λ_=>True) (λo43 _=>?_) λk42 hk42=>?_
    ·refine qu ?_
     split
     ·exact⟨_,rfl,.inl rfl⟩
     ·rename_i hcond
      refine⟨_,rfl,.inr ⟨rfl,hw,?_⟩⟩
      have e1:r40.2=0:=by
       cases h:(r40.2 !=0)with
       |true=>rw[h]at hcond;simp at hcond
       |false=>simpa using h
      have e2:r40.1=b:=by
       cases h:(r40.1 !=b)with
       |true=>rw[h]at hcond;simp at hcond
       |false=>simpa using h
      rw[h40,←e1,←e2]
    ·split
     ·exact hk42 _ trivial
     ·have hd:∃y,fh r39.2=some y∧True:=by
       unfold fh
       refine qu ?_
       split
       ·exact⟨_,rfl,trivial⟩
       ·exact⟨_,rfl,trivial⟩
      exact bC hd λr44 _=>hk42 _ trivial
   ·refine bC (tU8 h31.1) λr47 h47=>?_
    have e:r47.1=((r47.1.toNat:Nat):Int):=by omega
    exact AV b.length (ROk b) k32 r47 r47.1.toNat e (by omega) hk32 r47.1.toNat 0 _ _ [] (by omega) (by rw[bg (by omega) (by omega)];omega) rfl ⟨h25.1,h47.1⟩ λx hx=>by cases hx
  ·refine bC (oY (a:=((o16.2.1.1,r22.2),o16.2.2.1,o16.2.2.2)) ⟨h16.1.1,h22⟩) λr68 h68=>?_
   refine bC (oY h68.1) λr69 h69=>?_
   refine bC (oY h69.1) λr72 h72=>?_
   refine bC (oY h72.1) λr73 h73=>?_
   refine bC (oY h73.1) λr76 h76=>?_
   refine bC (oY h76.1) λr77 h77=>?_
   exact hk23 _ ⟨h77.1,h16.2.1,h16.2.2⟩
 ·split
  ·refine bC (Cs hl h13.1) λr79 h79=>?_
   exact hk15 _ ⟨h79.1,h79.2,rfl⟩
  ·exact hk15 _ ⟨h13.1,(λu hu=>by cases hu),rfl⟩
theorem DE:∀{q:List (List Int)},q.length=2→∃a b,q=[a,b]
 |[a,b],_=>⟨a,b,rfl⟩
 |[],h=>by simp at h
 |[_],h=>by simp at h
 |_::_::_::_,h=>by simp at h
set_option maxHeartbeats 2000000 in
theorem zD(n:Int)(s:ST)(hw:Wf s)(hc:CanW n s)(tl:List Int)(ht:tl.length≤1):eo (stB n s++tl)=some (if tl=[]then(n,s,0)else eS):=by
 have hwr:=oX hw hc
 obtain⟨p0,p1,hps⟩:=DE hw.np
 have ho:∀u∈s.2.2.2.2.1,Uok u:=λu hu=>⟨hc.ours.2 u hu,hw.ours u hu⟩
 have hpe:∀u∈s.2.2.2.2.2.1,Uok u:=λu hu=>⟨hc.peers.2 u hu,hw.peers u hu⟩
 have lo:=oN hc.ours.1 ho
 have lp:=oN hc.peers.1 hpe
 have ls:=jP slB 41 (shf s) λx hx=>by simp[slB,bB,hw.shf x hx]
 have ls2:(shf s).length*41≤49*41:=Nat.mul_le_mul_right _ hc.shf.1
 have hsh:∀x∈shf s,x.2.1.length=32∧0≤x.1∧x.1≤281474976710655:=λx hx=>⟨hw.shf x hx,hc.shf.2 x hx⟩
 obtain⟨side,cap,bo,bp,ours,peers,loc,rem,ack,⟨a1,a2,⟨⟩⟩,⟨b1,b2,⟨⟩⟩,⟨c1,c2,⟨⟩⟩,beh,ps,sg,sh,fail,clo,⟨⟩⟩:=s
 replace hps:ps=[p0,p1]:=hps
 subst hps
 have hn:=hc.n;have hside:=hc.side;have hcap:=hc.cap;have hbo:=hc.bo;have hbp:=hc.bp;have hloc:=hc.loc;have hrem:=hc.rem;have hack:=hc.ack;have hfail:=hc.fail;have hclo:=hc.clo
 have hct:=hc.cts
 have hl1:=hc.ours.1;have hl2:=hc.peers.1;have hl3:=hc.shf.1
 have hp0:p0.length=32:=hw.p0
 have hp1:p1.length=32:=hw.p1
 have hsg:sg.length=32:=hw.sg
 simp only[cts,List.mem_cons,List.not_mem_nil,or_false,forall_eq_or_imp,forall_eq]at hct
 simp only at hn hside hcap hbo hbp hloc hrem hack hfail hclo hl1 hl2 hl3 ho hpe hsh lo lp
 obtain⟨ha1,ha2,hb1,hb2,hc1,hc2⟩:=hct
 replace hsh:∀x∈sh,x.2.1.length=32∧0≤x.1∧x.1≤281474976710655:=hsh
 replace hl3:sh.length≤49:=hl3
 replace ls:(sh.flatMap slB).length≤sh.length*41:=ls
 replace ls2:sh.length*41≤49*41:=ls2
 generalize hS:((side,cap,bo,bp,ours,peers,loc,rem,ack,(a1,a2,PUnit.unit),(b1,b2,PUnit.unit),(c1,c2,PUnit.unit),beh,[p0,p1],sg,sh,fail,clo,PUnit.unit):ST)=S at hwr⊢
 have e0:stB n S++tl=be (un n) 8++(be side.toNat 1++(be (un cap) 8++(be (un bo) 8++(be (un bp) 8++(ulB ours++(ulB peers++(be (un loc) 8++(be (un rem) 8++(be (un ack) 8++(be a1.toNat 2++(be a2.toNat 2++(be b1.toNat 2++(be b2.toNat 2++(be c1.toNat 2++(be c2.toNat 2++(be (fl beh) 1++(p0++(p1++(sg++(be sh.length 1++(sh.flatMap slB++(be fail.toNat 4++(be (un clo) 8++tl))))))))))))))))))))))):=by
  subst hS
  simp only[stB,cts,pt,pts,sig,shf,List.flatMap_cons,List.flatMap_nil,List.append_nil,List.append_assoc,List.getD_cons_zero,List.getD_cons_succ]
 have t64:∀(v:Int) (tl:List Int),0≤v∧v≤1152921504606846976→bi (be (un v) 8++tl,0,())=some (v,tl,0,()):=λv tl h=>zC v (by omega) tl
 have cnt:∀(v:Int) (tl:List Int),0≤v∧v≤2048→co ((0,be v.toNat 2++tl,0,()),false,())=some (v,(0,tl,0,()),false,()):=λv tl h=>by
  have:=AU v.toNat (by omega) tl false
  rw[this];simp only[Option.some.injEq,Prod.mk.injEq,and_true];omega
 have e8:IntKind.wrap .i64 ((side.toNat:Nat):Int)=side:=by rw[bg (by omega) (by omega)];omega
 have e32:IntKind.wrap .i64 ((fail.toNat:Nat):Int)=fail:=by rw[bg (by omega) (by omega)];omega
 have hsl:∀(k32:LR×List SlT→Option SR) (rr:RT) (tl':List Int),eA k32 (((sh.length:Nat):Int),rr) (Int.toNat (IntKind.wrap .i64 ((sh.length:Nat):Int) - 0)+1) (0,((0,sh.flatMap slB++tl',0,()),false,()),[])=k32 (((0,tl',0,()),false,()),sh):=λk32 rr tl'=>by
  have:=AW sh hl3 hsh tl' false k32 (((sh.length:Nat):Int),rr) rfl sh.length 0 (Int.toNat (IntKind.wrap .i64 ((sh.length:Nat):Int) - 0)+1) (by omega) (by rw[bg (by omega) (by omega)];omega)
  simpa using this
 have q1:((0:Int)≤0∧(0:Int)<2)=True:=by simp
 have q2:((0:Int)≤1∧(1:Int)<2)=True:=by simp
 have hS2:((side,cap,bo,bp,ours,peers,loc,rem,ack,(a1,a2,()),(b1,b2,()),(c1,c2,()),beh,(List.set (List.set (List.replicate 2 (List.replicate 32 (0:Int))) 0 p0) 1 p1),sg,sh,fail,clo,()):ST)=S:=by rw[←hS];rfl
 have lT:(sh.flatMap slB++(be fail.toNat 4++(be (un clo) 8++tl))).length≤10000:=by simp only[List.length_append,bB];omega
 have hL1:=Ct ours hl1 ho (ulB peers++(be (un loc) 8++(be (un rem) 8++(be (un ack) 8++(be a1.toNat 2++(be a2.toNat 2++(be b1.toNat 2++(be b2.toNat 2++(be c1.toNat 2++(be c2.toNat 2++(be (fl beh) 1++(p0++(p1++(sg++(be sh.length 1++(sh.flatMap slB++(be fail.toNat 4++(be (un clo) 8++tl)))))))))))))))))) (by simp only[List.length_append,bB]at lT⊢;omega) false
 have hL2:=Ct peers hl2 hpe (be (un loc) 8++(be (un rem) 8++(be (un ack) 8++(be a1.toNat 2++(be a2.toNat 2++(be b1.toNat 2++(be b2.toNat 2++(be c1.toNat 2++(be c2.toNat 2++(be (fl beh) 1++(p0++(p1++(sg++(be sh.length 1++(sh.flatMap slB++(be fail.toNat 4++(be (un clo) 8++tl))))))))))))))))) (by simp only[List.length_append,bB]at lT⊢;omega) false
 have hdone:∀r:RT,r.2.1=0→fh r=some (if(r.1 !=[])=true then(4,r)else(0,r)):=λr hr=>by
  unfold fh
  rw[bh,hr]
  simp only[beq_self_eq_true,Bool.true_and]
  split<;>rfl
 have key:eo (stB n S++tl)=(if(decide (tl≠[])||(stB n S !=stB n S++tl))=true then some eS else some (n,S,0)):=by
  generalize hX:stB n S++tl=X
  rw[e0]at hX
  unfold eo cZ
  rw[←hX,aw,t64 n _ hn,aw,dU8 _ (by omega),aw,t64 cap _ hcap,aw,t64 bo _ hbo,aw,t64 bp _ hbp,aw,hL1,aw,bh]
  simp only[Bool.not_false,if_true]
  rw[hL2,aw]
  simp only[if_true]
  rw[t64 loc _ (by omega),aw,t64 rem _ (by omega),aw,t64 ack _ (by omega),aw,bh]
  simp only[]
  rw[cnt a1 _ ha1,aw,cnt a2 _ ha2,aw,cnt b1 _ hb1,aw,cnt b2 _ hb2,aw,cnt c1 _ hc1,aw,cnt c2 _ hc2,aw]
  simp only[]
  rw[Cr,aw,if_pos rfl,tk p0 hp0,aw,tk p1 hp1,aw,tk sg hsg,aw,if_pos (by simp),if_pos (by simp),bh]
  simp only[]
  rw[dU8 _ (by omega),aw,hsl]
  simp only[if_true]
  rw[EV _ (by omega),aw,zC clo (by omega),aw,e8,e32,hS2,hwr,aw,bh]
  simp only[Bool.false_eq_true,if_false]
  rw[hdone _ rfl,aw]
  simp only[bh]
  rw[hX]
  by_cases htl:tl=[]
  ·subst htl
   simp[eS,zS]
  ·simp[htl,eS,zS]
 rw[key]
 by_cases htl:tl=[]
 ·subst htl
  simp
 ·rw[if_pos (by simp[htl]),if_neg htl]
theorem BW(l:List UT)(hl:l.length<4611686018427387904)(K:Unit→Option Bool):∀(k i m:Nat),i+k=l.length→k<m→eV l l K m (i:Int)=K ():=by
 intro k
 induction k with
 |zero=>
  intro i m hi hm
  cases m with
  |zero=>omega
  |succ m=>rw[eV,if_neg (by simp;omega)]
 |succ k ih=>
  intro i m hi hm
  cases m with
  |zero=>omega
  |succ m=>
   have e:∀u:UT,eqD (.pair (.int .i64) (.pair (.int .i64) (.pair (.int .i64) (.pair (.arr 32 (.int .u8)) (.pair .str .unit))))) u u=true:=λu=>(ke (t:= .pair (.int .i64) (.pair (.int .i64) (.pair (.int .i64) (.pair (.arr 32 (.int .u8)) (.pair .str .unit))))) (by decide) u u).2 rfl
   rw[eV,if_pos (by simp;omega),if_pos (by omega),if_pos (by omega),e,if_neg (by simp),bh,bg (by omega) (by omega)]
   exact ih (i+1) m (by omega) (by omega)
theorem Cv(l:List UT)(hl:l.length<4611686018427387904):gK l l=some true:=by
 unfold gK
 rw[if_neg (by simp),bh]
 exact BW l hl _ l.length 0 _ (by omega) (by omega)
theorem BX(s:ST)(hl:(shf s).length<4611686018427387904)(K:Unit→Option Bool):∀(k i m:Nat),i+k=(shf s).length→k<m→dl s s K m (i:Int)=K ():=by
 have hq:List.length s.2.2.2.2.2.2.2.2.2.2.2.2.2.2.2.1=(shf s).length:=rfl
 intro k
 induction k with
 |zero=>
  intro i m hi hm
  cases m with
  |zero=>omega
  |succ m=>rw[dl,if_neg (by simp;omega)]
 |succ k ih=>
  intro i m hi hm
  cases m with
  |zero=>omega
  |succ m=>
   have e:∀u:SlT,eqD (.pair (.int .i64) (.pair (.arr 32 (.int .u8)) (.pair .bool .unit))) u u=true:=λu=>(ke (t:= .pair (.int .i64) (.pair (.arr 32 (.int .u8)) (.pair .bool .unit))) (by decide) u u).2 rfl
   rw[dl,if_pos (by simp;omega),if_pos (by omega),if_pos (by omega),e,if_neg (by simp),bh,bg (by omega) (by omega)]
   exact ih (i+1) m (by omega) (by omega)
theorem vZ(s:ST)(h1:s.2.2.2.2.1.length<4611686018427387904)(h2:s.2.2.2.2.2.1.length<4611686018427387904)(h3:(shf s).length<4611686018427387904):cQ s s=some true:=by
 have e2:∀u:Int×Int×Unit,eqD (.pair (.int .i64) (.pair (.int .i64) .unit)) u u=true:=λu=>(ke (t:= .pair (.int .i64) (.pair (.int .i64) .unit)) (by decide) u u).2 rfl
 have e3:∀u:List (List Int),eqD (.arr 2 (.arr 32 (.int .u8))) u u=true:=λu=>(ke (t:= .arr 2 (.arr 32 (.int .u8))) (by decide) u u).2 rfl
 have e4:∀u:List Int,eqD (.arr 32 (.int .u8)) u u=true:=λu=>(ke (t:= .arr 32 (.int .u8)) (by decide) u u).2 rfl
 unfold cQ
 simp only[bh,e2,e3,e4,bne_self_eq_false,Bool.or_false,Bool.not_true,Bool.false_eq_true,if_false]
 refine(BX s h3 _ (shf s).length 0 _ (by omega) (Nat.lt_succ_self _)).trans ?_
 rw[Cv _ h1,aw,if_pos rfl,Cv _ h2,aw]
structure Bk(s:ST):Prop where
 ours:∀u∈s.2.2.2.2.1,aS u.2.2.2.1∧aS u.2.2.2.2.1
 peers:∀u∈s.2.2.2.2.2.1,aS u.2.2.2.1∧aS u.2.2.2.2.1
 shf:∀x∈shf s,aS x.2.1
 p0:aS (pt s 0)
 p1:aS (pt s 1)
 sg:aS (sig s)
theorem ez{a b:List Int}(ha:aS a)(hb:aS b):aS (a++b):=λx hx=>(List.mem_append.1 hx).elim (ha x) (hb x)
theorem vq{α:Type}{f:α→List Int}{l:List α}(h:∀x∈l,aS (f x)):aS (l.flatMap f):=λc hc=>by
 obtain⟨x,hx,hcx⟩:=List.mem_flatMap.1 hc
 exact h x hx c hcx
theorem Eh{u:UT}(h:aS u.2.2.2.1∧aS u.2.2.2.2.1):aS (uB u):=by
 unfold uB
 refine ez (ez (dy _ _) (dy _ _)) ?_
 split
 ·exact ez (dy _ _) h.1
 ·split
  ·exact h.1
  ·exact ez (dy _ _) h.2
theorem AX{l:List UT}(h:∀u∈l,aS u.2.2.2.1∧aS u.2.2.2.2.1):aS (ulB l):=ez (dy _ _) (vq λu hu=>Eh (h u hu))
theorem DF{x:SlT}(h:aS x.2.1):aS (slB x):=ez (ez (dy _ _) (dy _ _)) h
theorem DG(n:Int){s:ST}(h:Bk s):aS (stB n s):=
 ez (dy _ _)<|ez (dy _ _)<|ez (ez (ez (dy _ _) (dy _ _)) (dy _ _))<|ez (AX h.ours)<|ez (AX h.peers)<|ez (ez (ez (dy _ _) (dy _ _)) (dy _ _))<|ez (vq λ_ _=>dy _ _)<|ez (dy _ _)<|ez (ez (ez h.p0 h.p1) h.sg)<|ez (dy _ _)<|ez (vq λx hx=>DF (h.shf x hx))<|ez (dy _ _) (dy _ _)
theorem Dg{n:Int}{s:ST}(hw:Wf s)(hc:CanW n s):(stB n s).length≤1000000∧1≤(stB n s).length:=by
 have lo:=oN hc.ours.1 λu hu=>⟨hc.ours.2 u hu,hw.ours u hu⟩
 have lp:=oN hc.peers.1 λu hu=>⟨hc.peers.2 u hu,hw.peers u hu⟩
 have ls:=jP slB 41 (shf s) λx hx=>by simp[slB,bB,hw.shf x hx]
 have ls2:(shf s).length*41≤49*41:=Nat.mul_le_mul_right _ hc.shf.1
 have lc:=jP (λc:Int=>be c.toNat 2) 2 (cts s) λc _=>by simp[bB]
 have lc2:(cts s).length=6:=rfl
 have h0:=hw.p0;have h1:=hw.p1;have h2:=hw.sg
 unfold stB
 simp only[List.length_append,bB]
 omega
theorem AY(n:Int)(s:ST)(text:List Int)(hw:Wf s)(hb:Bk s)(h1:s.2.2.2.2.1.length<4611686018427387904)(h2:s.2.2.2.2.2.1.length<4611686018427387904)(h3:(shf s).length<4611686018427387904)(ht:aS text)(hl:text.length<4611686018427387904)(hf:ij=some true):
  fX n s text=some true:=by
 have hz:cQ zS zS=some true:=vZ zS (by decide) (by decide) (by decide)
 have last:∃x,eo text=some x∧ROk text x:=Cu text ht hl
 obtain⟨x,hx,hok⟩:=last
 have k14:((eo text).bind λr16=>if(r16.2.2 !=0)=true then(bnd (r16.2.2==210) λ(b18:Bool)=>bnd (b18&&(r16.1==0)) λ(b19:Bool)=>bnd (λ(o21:Bool)=>(some o21:Option Bool)) λk20=>if b19=true then((cQ r16.2.1 zS).bind λ(r22:Bool)=>k20 r22)else(k20 false))else((dU r16.1 r16.2.1).bind λ(r23:List Int×Int)=>bnd (r23.2==0) λ(b24:Bool)=>some (b24&&(r23.1==text))))=some true:=by
  rw[hx,aw]
  simp only[bh]
  rcases hok with rfl|⟨e1,_,e2⟩
  ·rw[if_pos (by simp[eS]),if_pos (by simp[eS])]
   show(cQ zS zS).bind _=_
   rw[hz,aw]
  ·rw[if_neg (by simp[e1]),e2,aw]
   simp
 unfold fX
 by_cases hc:CanW n s
 ·have hs:=Dg hw hc
  have r0:=zD n s hw hc [] (by simp)
  have r1:=zD n s hw hc [0] (by simp)
  rw[List.append_nil,if_pos rfl]at r0
  rw[if_neg (by simp)]at r1
  obtain⟨y,hy,hyk⟩:=Cu ((stB n s).take ((stB n s).length - 1)) (qt (DG n hb) _) (by simp only[List.length_take];omega)
  have hy2:y.2.2=210:=by
   rcases hyk with rfl|⟨e1,e2,e3⟩
   ·rfl
   ·exfalso
    by_cases hcy:CanW y.1 y.2.1
    ·rw[oX e2 hcy]at e3
     have e4:stB y.1 y.2.1=(stB n s).take ((stB n s).length - 1):=by
      have:=Option.some.inj e3
      exact(Prod.mk.inj this).1
     have e5:stB n s=stB y.1 y.2.1++(stB n s).drop ((stB n s).length - 1):=by rw[e4,List.take_append_drop]
     have e6:=zD y.1 y.2.1 e2 hcy ((stB n s).drop ((stB n s).length - 1)) (by simp only[List.length_drop];omega)
     rw[←e5,r0,if_neg (by intro h;have:=congrArg List.length h;simp only[List.length_drop,List.length_nil]at this;omega)]at e6
     have:=congrArg (λz:SR=>z.2.2) (Option.some.inj e6)
     simp[eS]at this
    ·rw[rd hcy]at e3
     have:=congrArg Prod.snd (Option.some.inj e3)
     simp at this
  have ew:IntKind.wrap .i64 ((List.length (stB n s):Int) - 1)=(((stB n s).length - 1:Nat):Int):=by rw[bg (by omega) (by omega)];omega
  rw[oX hw hc,aw,hf,aw]
  simp only[bh]
  rw[if_neg (by simp),if_neg (by simp),if_neg (by simp),if_pos (by simp),r0,aw,if_pos (by simp only[List.length_cons,List.length_nil];unfold most;omega),r1,aw,ew,if_pos (by omega),Int.toNat_natCast,List.drop_zero,hy,aw]
  rw[if_neg (by simp),vZ s h1 h2 h3,aw]
  simp only[eS,hy2]
  rw[if_neg (by simp)]
  simp only[bh]at k14
  exact k14
 ·rw[rd hc,aw,hf,aw]
  simp only[bh]
  rw[if_neg (by simp),if_pos (by simp),if_neg (by simp),if_neg (by simp)]
  simp only[bh]at k14
  exact k14
set_option maxRecDepth 100000
theorem pL:ij=some true:=by kernel_rfl
abbrev HashOk(x:List Int):Prop:=List.length x=32∧∀c∈x,rng .u8 c
abbrev AZ(x:List Int):Prop:=aS x∧List.length x≤140737488351232
abbrev UOk(u:UT):Prop:=rng .i64 u.1∧rng .i64 u.2.1∧rng .i64 u.2.2.1∧HashOk u.2.2.2.1∧AZ u.2.2.2.2.1∧True
abbrev E3(x:SlT):Prop:=rng .i64 x.1∧HashOk x.2.1∧True∧True
abbrev zE(x:Int×Int×Unit):Prop:=rng .i64 x.1∧rng .i64 x.2.1∧True
abbrev DH(s:ST):Prop:=
 rng .i64 s.1∧rng .i64 s.2.1∧rng .i64 s.2.2.1∧rng .i64 s.2.2.2.1
 ∧(List.length s.2.2.2.2.1*72≤140737488351232∧∀u∈s.2.2.2.2.1,UOk u)
 ∧(List.length s.2.2.2.2.2.1*72≤140737488351232∧∀u∈s.2.2.2.2.2.1,UOk u)
 ∧rng .i64 s.2.2.2.2.2.2.1∧rng .i64 s.2.2.2.2.2.2.2.1∧rng .i64 s.2.2.2.2.2.2.2.2.1
 ∧zE s.2.2.2.2.2.2.2.2.2.1∧zE s.2.2.2.2.2.2.2.2.2.2.1∧zE s.2.2.2.2.2.2.2.2.2.2.2.1∧True
 ∧(List.length s.2.2.2.2.2.2.2.2.2.2.2.2.2.1=2∧∀h∈s.2.2.2.2.2.2.2.2.2.2.2.2.2.1,HashOk h)
 ∧HashOk s.2.2.2.2.2.2.2.2.2.2.2.2.2.2.1
 ∧(List.length s.2.2.2.2.2.2.2.2.2.2.2.2.2.2.2.1*48≤140737488351232∧∀x∈s.2.2.2.2.2.2.2.2.2.2.2.2.2.2.2.1,E3 x)
 ∧rng .i64 s.2.2.2.2.2.2.2.2.2.2.2.2.2.2.2.2.1∧rng .i64 s.2.2.2.2.2.2.2.2.2.2.2.2.2.2.2.2.2.1∧True
theorem HashOk.byte{x:List Int}(h:HashOk x):aS x:=λc hc=>by
 have:=h.2 c hc
 simp only[rng,lo,Sx.hi]at this
 omega
theorem tq{l:List (List Int)}(h:List.length l=2∧∀x∈l,HashOk x){i:Nat}(hi:i<2)(d:List Int):HashOk (l.getD i d):=by
 refine h.2 _ ?_
 rw[List.getD_eq_getElem?_getD,List.getElem?_eq_getElem (by omega)]
 exact List.getElem_mem _
theorem Ei{s:ST}(h:DH s):Wf s∧Bk s:=by
 obtain⟨_,_,_,_,⟨_,ho⟩,⟨_,hp⟩,_,_,_,_,_,_,_,hq,hs,⟨_,hl⟩,_⟩:=h
 exact⟨⟨λu hu=>(ho u hu).2.2.2.1.1,λu hu=>(hp u hu).2.2.2.1.1,λx hx=>(hl x hx).2.1.1,(tq hq (by omega) _).1,(tq hq (by omega) _).1,hs.1,hq.1⟩,
  ⟨λu hu=>⟨(ho u hu).2.2.2.1.byte,(ho u hu).2.2.2.2.1.1⟩,λu hu=>⟨(hp u hu).2.2.2.1.byte,(hp u hu).2.2.2.2.1.1⟩,λx hx=>(hl x hx).2.1.byte,(tq hq (by omega) _).byte,(tq hq (by omega) _).byte,hs.byte⟩⟩
theorem n8(a0:Int)(a1:ST)(a2:List Int)(_:rng .i64 a0)(h1:DH a1)(h2:AZ a2):fX a0 a1 a2=some true:=by
 obtain⟨hw,hb⟩:=Ei h1
 obtain⟨_,_,_,_,⟨ho,_⟩,⟨hp,_⟩,_,_,_,_,_,_,_,_,_,⟨hl,_⟩,_⟩:=h1
 have hl':List.length (shf a1)*48≤140737488351232:=hl
 exact AY a0 a1 a2 hw hb (by omega) (by omega) (by omega) h2.1 (by have:=h2.2;omega) pL
end Sx
