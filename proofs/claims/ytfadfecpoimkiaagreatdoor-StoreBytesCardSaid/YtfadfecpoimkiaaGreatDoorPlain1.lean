/-
  Own work, of several texts. Bytes of numbers, and a writer's, without a program in sight.
-/
import Derived.Test.YtfadfecpoimkiaaGreatDoorDefs
import Derived.KernelRfl
namespace Sx
open Go
theorem aM{n:Int}(h0: -9223372036854775808≤n)(h:n<9223372036854775808):IntKind.wrap .i64 n=n:=by
 simp only[IntKind.wrap,IntKind.bits,IntKind.signed,Bool.true_and]
 split<;>simp_all<;>omega
theorem je{n:Int}(h0:0≤n)(h:n<18446744073709551616):IntKind.wrap .u64 n=n:=by
 simp only[IntKind.wrap,IntKind.bits,IntKind.signed,Bool.false_and,Bool.false_eq_true,if_false];omega
theorem qZ(n:Int):IntKind.wrap .u64 n=n % 18446744073709551616:=by
 simp only[IntKind.wrap,IntKind.bits,IntKind.signed,Bool.false_and,Bool.false_eq_true,if_false];rfl
theorem nA(n:Int):IntKind.wrap .u8 n=n % 256:=by
 simp only[IntKind.wrap,IntKind.bits,IntKind.signed,Bool.false_and,Bool.false_eq_true,if_false];rfl
def be(v n:Nat):List Int:=(List.range n).map λi=>((v/2^(8*(n - 1 - i)) % 256:Nat):Int)
theorem aD(v n:Nat):(be v n).length=n:=by simp[be]
theorem kI(v n:Nat):aQ (be v n):=by
 intro c hc
 simp only[be,List.mem_map]at hc
 obtain⟨i,_,rfl⟩:=hc
 omega
theorem qi(v m:Nat):be v (m+1)=((v/2^(8*m) % 256:Nat):Int)::be v m:=by
 simp only[be,List.range_succ_eq_map,List.map_cons,List.map_map]
 congr 1
 apply List.map_congr_left
 intro k hk
 simp only[Function.comp]
 congr 4
 simp at hk
 omega
theorem sD(V m:Nat)(hm:m≤64):ca .u64 (V:Int) (m:Int)=((V/2^m:Nat):Int):=by
 unfold ca
 have:min (Int.toNat (m:Int)) (IntKind.bits .u64)=m:=by simp[IntKind.bits];omega
 rw[this,Int.fdiv_eq_ediv_of_nonneg _ (Int.le_of_lt (Int.pow_pos (by decide)))]
 simp
theorem D6(v:Int)(m:Nat)(hm:m≤64):ca .i64 v (m:Int)=v/2^m:=by
 unfold ca
 have:min (Int.toNat (m:Int)) (IntKind.bits .i64)=m:=by simp[IntKind.bits];omega
 rw[this,Int.fdiv_eq_ediv_of_nonneg _ (Int.le_of_lt (Int.pow_pos (by decide)))]
def un(v:Int):Nat:=(IntKind.wrap .u64 v).toNat
theorem BU(v:Int):IntKind.wrap .u64 v=(un v:Int):=by
 unfold un;rw[qZ];omega
theorem wK(v:Int):un v<18446744073709551616:=by
 unfold un;rw[qZ];omega
theorem xk{v:Int}(h: -9223372036854775808≤v∧v≤9223372036854775807):IntKind.wrap .i64 (un v:Int)=v:=by
 unfold un
 have h0:((IntKind.wrap .u64 v).toNat:Int)=v % 18446744073709551616:=by rw[qZ];exact Int.toNat_of_nonneg (by omega)
 rw[h0]
 by_cases hn:0≤v
 ·have:v % 18446744073709551616=v:=by omega
  rw[this,aM (by omega) (by omega)]
 ·have:v % 18446744073709551616=v+18446744073709551616:=by omega
  rw[this]
  have e:IntKind.wrap .i64 (v+18446744073709551616)=IntKind.wrap .i64 v:=by
   have:(v+18446744073709551616) % 2^IntKind.bits .i64=v % 2^IntKind.bits .i64:=Int.add_emod_right v 18446744073709551616
   unfold IntKind.wrap
   simp only[this]
  rw[e,aM (by omega) (by omega)]
theorem FI(v:Int)(m:Nat)(hm:m<8):(v/2^(8*m)) % 256=((un v/2^(8*m) % 256:Nat):Int):=by
 have h0:(un v:Int)=v % 18446744073709551616:=by rw[←BU,qZ]
 have:m=0∨m=1∨m=2∨m=3∨m=4∨m=5∨m=6∨m=7:=by omega
 rcases this with rfl|rfl|rfl|rfl|rfl|rfl|rfl|rfl<;>simp only[Nat.mul_zero,Nat.reduceMul,Int.reducePow,Nat.reducePow,Nat.pow_zero,Int.pow_zero]<;>omega
theorem BV(x c:Nat)(hx:x<72057594037927936)(hc:c<256):ior .u64 (ja .u64 (x:Int) 8) (c:Int)=((x*256+c:Nat):Int):=by
 have e1:ja .u64 (x:Int) 8=((x*256:Nat):Int):=by
  unfold ja
  have:min (Int.toNat 8) (IntKind.bits .u64)=8:=by decide
  rw[this,je (by omega) (by omega)];omega
 rw[e1]
 unfold ior
 show IntKind.wrap .u64 ((BitVec.ofInt 64 ((x*256:Nat):Int)|||BitVec.ofInt 64 (c:Int)).toNat:Int)=_
 have e2:(BitVec.ofInt 64 ((x*256:Nat):Int)|||BitVec.ofInt 64 (c:Int)).toNat=x*256+c:=by
  rw[BitVec.toNat_or]
  have a1:(BitVec.ofInt 64 ((x*256:Nat):Int)).toNat=2^8*x:=by simp;omega
  have a2:(BitVec.ofInt 64 (c:Int)).toNat=c:=by simp;omega
  rw[a1,a2,←Nat.two_pow_add_eq_or_of_lt (by omega:c<2^8)];omega
 rw[e2,je (by omega) (by omega)]
def pre(b:List Int):Nat→Int
 |0=>0
 |i+1=>pre b i*256+b.getD i 0
theorem pY{a:List Int}(h:aQ a)(i:Nat):0≤a.getD i 0∧a.getD i 0<256:=by
 rcases Nat.lt_or_ge i a.length with g|g
 ·have:a.getD i 0=a[i]:=by simp[List.getD,g]
  rw[this];exact h _ (List.getElem_mem g)
 ·have:a.getD i 0=0:=by simp[List.getD,List.getElem?_eq_none g]
  rw[this];omega
theorem l9{b:List Int}(h:aQ b):∀i,0≤pre b i∧pre b i<256^i
 |0=>by simp[pre]
 |i+1=>by
  have h1:=l9 h i
  have h2:=pY h i
  simp only[pre]
  rw[Int.pow_succ]
  omega
theorem zX(U:Nat)(hU:U<18446744073709551616)(r:List Int):pre (be U 8++r) 8=U:=by
 have e:be U 8=[((U/72057594037927936 % 256:Nat):Int),((U/281474976710656 % 256:Nat):Int),((U/1099511627776 % 256:Nat):Int),((U/4294967296 % 256:Nat):Int),((U/16777216 % 256:Nat):Int),((U/65536 % 256:Nat):Int),((U/256 % 256:Nat):Int),((U/1 % 256:Nat):Int)]:=rfl
 rw[e]
 simp only[pre,List.cons_append,List.nil_append,List.getD_cons_zero,List.getD_cons_succ]
 omega
abbrev WT:=List Int×Int×Unit
abbrev UT:=Int×Int×Int×List Int×List Int×Unit
abbrev SlT:=Int×List Int×Bool×Unit
abbrev ST:=Int×Int×Int×Int×List UT×List UT×Int×Int×Int×(Int×Int×Unit)×(Int×Int×Unit)×(Int×Int×Unit)×Bool×List (List Int)×List Int×List SlT×Int×Int×Unit
theorem FJ(V:Nat)(hV:V<256)(K:List Int→Option WT):∀(i m:Nat) (xs:List Int),i≤8→i<m→xs.length+i≤140737488355328→fI (V:Int) K m ((i:Int) - 1,xs)=K (xs++be V i):=by
 intro i
 induction i with
 |zero=>
  intro m xs _ hm _
  cases m with
  |zero=>omega
  |succ m=>
   unfold fI
   rw[if_neg (by simp)]
   simp[be]
 |succ i ih=>
  intro m xs hi hm hl
  cases m with
  |zero=>omega
  |succ m=>
   unfold fI
   have e1:((i+1:Nat):Int) - 1=(i:Int):=by omega
   have e2:IntKind.wrap .i64 (8*(i:Int))=((8*i:Nat):Int):=by rw[aM (by omega) (by omega)];omega
   have e3:IntKind.wrap .u8 (ca .u64 (IntKind.wrap .u64 (V:Int)) ((8*i:Nat):Int))=((V/2^(8*i) % 256:Nat):Int):=by
    rw[je (by omega) (by omega)]
    rw[sD V (8*i) (by omega),nA];omega
   simp only[e1,e2,e3]
   rw[if_pos (by simp),if_pos (by omega),if_pos (by simp;omega),aE,aM (by omega) (by omega),ih m _ (by omega) (by omega) (by simp;omega),qi]
   simp
theorem HI(V n:Nat)(N:Int)(hN:N=(n:Int))(hV:V<256)(h1:1≤n)(h8:n≤8)(xs:List Int)(hl:xs.length+n≤140737488355328):jT (xs,0,()) (V:Int) N=some (xs++be V n,0,()):=by
 subst hN
 unfold jT
 rw[if_neg (by simp),aE,aM (by omega) (by omega),aE]
 exact FJ V hV _ n _ xs h8 (by omega) hl
theorem D7(V:Nat)(hV:V<65536)(K:List Int→Option WT):∀(i m:Nat) (xs:List Int),i≤8→i<m→xs.length+i≤140737488355328→eW (V:Int) K m ((i:Int) - 1,xs)=K (xs++be V i):=by
 intro i
 induction i with
 |zero=>
  intro m xs _ hm _
  cases m with
  |zero=>omega
  |succ m=>
   unfold eW
   rw[if_neg (by simp)]
   simp[be]
 |succ i ih=>
  intro m xs hi hm hl
  cases m with
  |zero=>omega
  |succ m=>
   unfold eW
   have e1:((i+1:Nat):Int) - 1=(i:Int):=by omega
   have e2:IntKind.wrap .i64 (8*(i:Int))=((8*i:Nat):Int):=by rw[aM (by omega) (by omega)];omega
   have e3:IntKind.wrap .u8 (ca .u64 (IntKind.wrap .u64 (V:Int)) ((8*i:Nat):Int))=((V/2^(8*i) % 256:Nat):Int):=by
    rw[je (by omega) (by omega)]
    rw[sD V (8*i) (by omega),nA];omega
   simp only[e1,e2,e3]
   rw[if_pos (by simp),if_pos (by omega),if_pos (by simp;omega),aE,aM (by omega) (by omega),ih m _ (by omega) (by omega) (by simp;omega),qi]
   simp
theorem EL(V n:Nat)(N:Int)(hN:N=(n:Int))(hV:V<65536)(h1:1≤n)(h8:n≤8)(xs:List Int)(hl:xs.length+n≤140737488355328):ib (xs,0,()) (V:Int) N=some (xs++be V n,0,()):=by
 subst hN
 unfold ib
 rw[if_neg (by simp),aE,aM (by omega) (by omega),aE]
 exact D7 V hV _ n _ xs h8 (by omega) hl
theorem D8(V:Nat)(hV:V<4294967296)(K:List Int→Option WT):∀(i m:Nat) (xs:List Int),i≤8→i<m→xs.length+i≤140737488355328→eX (V:Int) K m ((i:Int) - 1,xs)=K (xs++be V i):=by
 intro i
 induction i with
 |zero=>
  intro m xs _ hm _
  cases m with
  |zero=>omega
  |succ m=>
   unfold eX
   rw[if_neg (by simp)]
   simp[be]
 |succ i ih=>
  intro m xs hi hm hl
  cases m with
  |zero=>omega
  |succ m=>
   unfold eX
   have e1:((i+1:Nat):Int) - 1=(i:Int):=by omega
   have e2:IntKind.wrap .i64 (8*(i:Int))=((8*i:Nat):Int):=by rw[aM (by omega) (by omega)];omega
   have e3:IntKind.wrap .u8 (ca .u64 (IntKind.wrap .u64 (V:Int)) ((8*i:Nat):Int))=((V/2^(8*i) % 256:Nat):Int):=by
    rw[je (by omega) (by omega)]
    rw[sD V (8*i) (by omega),nA];omega
   simp only[e1,e2,e3]
   rw[if_pos (by simp),if_pos (by omega),if_pos (by simp;omega),aE,aM (by omega) (by omega),ih m _ (by omega) (by omega) (by simp;omega),qi]
   simp
theorem GV(V n:Nat)(N:Int)(hN:N=(n:Int))(hV:V<4294967296)(h1:1≤n)(h8:n≤8)(xs:List Int)(hl:xs.length+n≤140737488355328):jl (xs,0,()) (V:Int) N=some (xs++be V n,0,()):=by
 subst hN
 unfold jl
 rw[if_neg (by simp),aE,aM (by omega) (by omega),aE]
 exact D8 V hV _ n _ xs h8 (by omega) hl
theorem D9(V:Nat)(hV:V<18446744073709551616)(K:List Int→Option WT):∀(i m:Nat) (xs:List Int),i≤8→i<m→xs.length+i≤140737488355328→eV (V:Int) K m ((i:Int) - 1,xs)=K (xs++be V i):=by
 intro i
 induction i with
 |zero=>
  intro m xs _ hm _
  cases m with
  |zero=>omega
  |succ m=>
   unfold eV
   rw[if_neg (by simp)]
   simp[be]
 |succ i ih=>
  intro m xs hi hm hl
  cases m with
  |zero=>omega
  |succ m=>
   unfold eV
   have e1:((i+1:Nat):Int) - 1=(i:Int):=by omega
   have e2:IntKind.wrap .i64 (8*(i:Int))=((8*i:Nat):Int):=by rw[aM (by omega) (by omega)];omega
   have e3:IntKind.wrap .u8 (ca .u64 (V:Int) ((8*i:Nat):Int))=((V/2^(8*i) % 256:Nat):Int):=by
    rw[sD V (8*i) (by omega),nA];omega
   simp only[e1,e2,e3]
   rw[if_pos (by simp),if_pos (by omega),if_pos (by simp;omega),aE,aM (by omega) (by omega),ih m _ (by omega) (by omega) (by simp;omega),qi]
   simp
theorem GW(V n:Nat)(N:Int)(hN:N=(n:Int))(hV:V<18446744073709551616)(h1:1≤n)(h8:n≤8)(xs:List Int)(hl:xs.length+n≤140737488355328):jk (xs,0,()) (V:Int) N=some (xs++be V n,0,()):=by
 subst hN
 unfold jk
 rw[if_neg (by simp),aE,aM (by omega) (by omega),aE]
 exact D9 V hV _ n _ xs h8 (by omega) hl
theorem ro(v:Int)(xs:List Int)(hl:xs.length+8≤140737488355328):bU (xs,0,()) v=some (xs++be (un v) 8,0,()):=by
 unfold bU
 rw[BU,GW (un v) 8 8 rfl (wK v) (by omega) (by omega) xs hl]
 rfl
theorem wU8(n:Nat)(hn:n<256)(xs:List Int)(hl:xs.length+1≤140737488355328):dh (xs,0,()) (n:Int)=some (xs++be n 1,0,()):=by
 unfold dh
 rw[HI n 1 1 rfl hn (by omega) (by omega) xs hl]
 rfl
theorem Ea(n:Nat)(hn:n<65536)(xs:List Int)(hl:xs.length+2≤140737488355328):dp (xs,0,()) (n:Int)=some (xs++be n 2,0,()):=by
 unfold dp
 rw[EL n 2 2 rfl hn (by omega) (by omega) xs hl]
 rfl
theorem HJ(n:Nat)(hn:n<4294967296)(xs:List Int)(hl:xs.length+4≤140737488355328):ic (xs,0,()) (n:Int)=some (xs++be n 4,0,()):=by
 unfold ic
 rw[GV n 4 4 rfl hn (by omega) (by omega) xs hl]
 rfl
theorem Eb(t xs:List Int)(hl:xs.length+t.length≤140737488355328):fy (xs,0,()) t=some (xs++t,0,()):=by
 unfold fy
 rw[if_pos (by simp),if_pos (by simpa using hl)]
theorem vo(t xs:List Int)(hl:xs.length+t.length≤140737488355328):cD (xs,0,()) t=some (xs++t,0,()):=by
 unfold cD
 rw[Eb t xs hl];rfl
theorem oO{n:Int}(h0:0≤n)(h:n<65536):IntKind.wrap .u16 n=n:=by
 simp only[IntKind.wrap,IntKind.bits,IntKind.signed,Bool.false_and,Bool.false_eq_true,if_false];omega
theorem oP{n:Int}(h0:0≤n)(h:n<256):IntKind.wrap .u8 n=n:=by rw[nA];omega
theorem zY{n:Int}(h0:0≤n)(h:n<4294967296):IntKind.wrap .u32 n=n:=by
 simp only[IntKind.wrap,IntKind.bits,IntKind.signed,Bool.false_and,Bool.false_eq_true,if_false];omega
theorem GX(t xs:List Int)(ht:t.length≤65535)(hl:xs.length+2+t.length≤140737488355328):iP (xs,0,()) t=some (xs++be t.length 2++t,0,()):=by
 unfold iP
 simp only[aE]
 rw[if_neg (by simp;omega),oO (by omega) (by omega)]
 have h:=EL t.length 2 2 rfl (by omega) (by omega) (by omega) xs (by omega)
 rw[h,ao,Eb _ _ (by simp[aD];omega),ao]
def vU(u:UT):Bool:=if(decide (u.2.1<0)||decide (u.2.1≥2048))=true then false else(if(u.1==1)=true then(decide (u.2.2.1≥1)&&decide (u.2.2.1≤1152921504606846976))&&(u.2.2.2.2.1==[])else(if(u.1==2)=true then(u.2.2.1==0)&&(u.2.2.2.2.1==[])else(if(u.1==3)=true then((u.2.2.1==0)&&eqD (.arr 32 (.int .u8)) u.2.2.2.1 (List.replicate 32 (0:Int)))&&decide ((List.length u.2.2.2.2.1:Int)≤64)else false)))
theorem tq(u:UT):gz u=some (vU u):=by
 unfold gz vU
 simp only[aE,apply_ite some]
theorem qt{u:UT}(h:vU u=true):(0≤u.2.1∧u.2.1<2048)∧((u.1=1∧1≤u.2.2.1∧u.2.2.1≤1152921504606846976∧u.2.2.2.2.1=[])∨(u.1=2∧u.2.2.1=0∧u.2.2.2.2.1=[])∨(u.1=3∧u.2.2.1=0∧u.2.2.2.1=List.replicate 32 (0:Int)∧u.2.2.2.2.1.length≤64)):=by
 unfold vU at h
 split at h
 ·cases h
 ·rename_i h0
  simp only[Bool.or_eq_true,decide_eq_true_eq,not_or]at h0
  refine⟨by omega,?_⟩
  split at h
  ·rename_i h1
   simp only[beq_iff_eq]at h1
   simp only[Bool.and_eq_true,decide_eq_true_eq,beq_iff_eq]at h
   exact .inl ⟨h1,h.1.1,h.1.2,h.2⟩
  ·split at h
   ·rename_i h1
    simp only[beq_iff_eq]at h1
    simp only[Bool.and_eq_true,beq_iff_eq]at h
    exact .inr (.inl ⟨h1,h.1,h.2⟩)
   ·split at h
    ·rename_i h1
     simp only[beq_iff_eq]at h1
     rw[Bool.and_eq_true,Bool.and_eq_true,decide_eq_true_eq,beq_iff_eq,lB (by decide)]at h
     exact .inr (.inr ⟨h1,h.1.1,h.1.2,by omega⟩)
    ·cases h
def bt(a lo hi:Int):Bool:=decide (a≥lo)&&decide (a≤hi)
theorem BW(a lo hi:Int):ga a lo hi=some (bt a lo hi):=rfl
theorem bt_iff{a lo hi:Int}:bt a lo hi=true↔lo≤a∧a≤hi:=by simp[bt]
theorem FK(a:Int):iz a=some (bt a 0 1152921504606846976):=rfl
theorem FL(a:Int):gH a=some (bt a 0 281474976710655):=rfl
theorem FM(a:Int):kX a=some (!bt a 0 2048):=rfl
theorem FN(x:SlT):iW x=some (!bt x.1 0 281474976710655):=rfl
theorem HK(l:List UT)(hl:l.length<4611686018427387904):∀(k i m:Nat),i+k=l.length→k<m→∃r,bj l (λ_=>some (-1)) m (i:Int)=some r∧decide (r≥0)= !(l.drop i).all vU:=by
 intro k
 induction k with
 |zero=>
  intro i m hi hm
  cases m with
  |zero=>omega
  |succ m=>
   unfold bj
   rw[if_neg (by simp;omega)]
   exact⟨_,rfl,by rw[List.drop_eq_nil_of_le (by omega)];decide⟩
 |succ k ih=>
  intro i m hi hm
  cases m with
  |zero=>omega
  |succ m=>
   unfold bj
   have hlt:i<l.length:=by omega
   have hg:List.getD l (Int.toNat (i:Int)) (0,0,0,(List.replicate 32 (0:Int)),[],())=l[i]:=by simp[List.getD,hlt]
   rw[if_pos (by simp;omega),if_pos (by omega),hg]
   unfold lU
   rw[tq,ao,ao,List.drop_eq_getElem_cons hlt,List.all_cons]
   cases hv:vU l[i]with
   |false=>exact⟨_,rfl,by simp⟩
   |true=>
    obtain⟨r,h1,h2⟩:=ih (i+1) m (by omega) (by omega)
    refine⟨r,?_,by rw[h2];rfl⟩
    rw[if_neg (by simp),aM (by omega) (by omega),←h1]
    rfl
theorem BX(l:List UT):j7 l=some (decide ((List.length l:Int)≤2048)&&l.all vU):=by
 unfold j7
 rw[aE,aE]
 by_cases h:(List.length l:Int)≤2048
 ·obtain⟨r,h1,h2⟩:=HK l (by omega) l.length 0 (Int.toNat ((List.length l:Int) - 0)+1) (by omega) (by omega)
  rw[if_pos (by simpa using h)]
  unfold cz cM
  rw[aE,show(bj l (λ_=>some (-1)) (Int.toNat ((List.length l:Int) - 0)+1) 0)=some r from h1,ao,ao]
  show some (!decide (r≥0))=_
  rw[h2,List.drop_zero]
  simp[h]
 ·rw[if_neg (by simpa using h)]
  simp[h]
theorem HL(l:List Int)(hl:l.length<4611686018427387904):∀(k i m:Nat),i+k=l.length→k<m→∃r,bQ l (λ_=>some (-1)) m (i:Int)=some r∧decide (r≥0)= !(l.drop i).all λc=>bt c 0 2048:=by
 intro k
 induction k with
 |zero=>
  intro i m hi hm
  cases m with
  |zero=>omega
  |succ m=>
   unfold bQ
   rw[if_neg (by simp;omega)]
   exact⟨_,rfl,by rw[List.drop_eq_nil_of_le (by omega)];decide⟩
 |succ k ih=>
  intro i m hi hm
  cases m with
  |zero=>omega
  |succ m=>
   unfold bQ
   have hlt:i<l.length:=by omega
   have hg:List.getD l (Int.toNat (i:Int)) 0=l[i]:=by simp[List.getD,hlt]
   rw[if_pos (by simp;omega),if_pos (by omega),hg,FM,ao,List.drop_eq_getElem_cons hlt,List.all_cons]
   cases hv:bt l[i] 0 2048 with
   |false=>exact⟨_,rfl,by simp⟩
   |true=>
    obtain⟨r,h1,h2⟩:=ih (i+1) m (by omega) (by omega)
    refine⟨r,?_,by rw[h2];rfl⟩
    rw[if_neg (by simp),aM (by omega) (by omega),←h1]
    rfl
theorem HM(l:List SlT)(hl:l.length<4611686018427387904):∀(k i m:Nat),i+k=l.length→k<m→∃r,bu l (λ_=>some (-1)) m (i:Int)=some r∧decide (r≥0)= !(l.drop i).all λx=>bt x.1 0 281474976710655:=by
 intro k
 induction k with
 |zero=>
  intro i m hi hm
  cases m with
  |zero=>omega
  |succ m=>
   unfold bu
   rw[if_neg (by simp;omega)]
   exact⟨_,rfl,by rw[List.drop_eq_nil_of_le (by omega)];decide⟩
 |succ k ih=>
  intro i m hi hm
  cases m with
  |zero=>omega
  |succ m=>
   unfold bu
   have hlt:i<l.length:=by omega
   have hg:List.getD l (Int.toNat (i:Int)) (0,(List.replicate 32 (0:Int)),false,())=l[i]:=by simp[List.getD,hlt]
   rw[if_pos (by simp;omega),if_pos (by omega),hg,FN,ao,List.drop_eq_getElem_cons hlt,List.all_cons]
   cases hv:bt (l[i]).1 0 281474976710655 with
   |false=>exact⟨_,rfl,by simp⟩
   |true=>
    obtain⟨r,h1,h2⟩:=ih (i+1) m (by omega) (by omega)
    refine⟨r,?_,by rw[h2];rfl⟩
    rw[if_neg (by simp),aM (by omega) (by omega),←h1]
    rfl
theorem C9(l:List Int)(hl:l.length<4611686018427387904):cU l=some (!l.all λc=>bt c 0 2048):=by
 obtain⟨r,h1,h2⟩:=HL l hl l.length 0 (Int.toNat ((List.length l:Int) - 0)+1) (by omega) (by omega)
 unfold cU em
 rw[aE,show(bQ l (λ_=>some (-1)) (Int.toNat ((List.length l:Int) - 0)+1) 0)=some r from h1,ao,h2,List.drop_zero]
theorem Da(l:List SlT)(hl:l.length<4611686018427387904):cj l=some (!l.all λx=>bt x.1 0 281474976710655):=by
 obtain⟨r,h1,h2⟩:=HM l hl l.length 0 (Int.toNat ((List.length l:Int) - 0)+1) (by omega) (by omega)
 unfold cj cW
 rw[aE,show(bu l (λ_=>some (-1)) (Int.toNat ((List.length l:Int) - 0)+1) 0)=some r from h1,ao,h2,List.drop_zero]
def cts(s:ST):List Int:=[s.2.2.2.2.2.2.2.2.2.1.1,s.2.2.2.2.2.2.2.2.2.1.2.1,s.2.2.2.2.2.2.2.2.2.2.1.1,s.2.2.2.2.2.2.2.2.2.2.1.2.1,s.2.2.2.2.2.2.2.2.2.2.2.1.1,s.2.2.2.2.2.2.2.2.2.2.2.1.2.1]
abbrev shf(s:ST):List SlT:=s.2.2.2.2.2.2.2.2.2.2.2.2.2.2.2.1
structure CanW(n:Int)(s:ST):Prop where
 n:0≤n∧n≤1152921504606846976
 side:0≤s.1∧s.1≤1
 cap:0≤s.2.1∧s.2.1≤1152921504606846976
 bo:0≤s.2.2.1∧s.2.2.1≤1152921504606846976
 bp:0≤s.2.2.2.1∧s.2.2.2.1≤1152921504606846976
 ours:s.2.2.2.2.1.length≤2048∧∀u∈s.2.2.2.2.1,vU u=true
 peers:s.2.2.2.2.2.1.length≤2048∧∀u∈s.2.2.2.2.2.1,vU u=true
 loc:0≤s.2.2.2.2.2.2.1∧s.2.2.2.2.2.2.1≤281474976710655
 rem:0≤s.2.2.2.2.2.2.2.1∧s.2.2.2.2.2.2.2.1≤281474976710655
 ack:0≤s.2.2.2.2.2.2.2.2.1∧s.2.2.2.2.2.2.2.2.1≤281474976710655
 cts:∀c∈cts s,0≤c∧c≤2048
 shf:(shf s).length≤49∧∀x∈shf s,0≤x.1∧x.1≤281474976710655
 fail:0≤s.2.2.2.2.2.2.2.2.2.2.2.2.2.2.2.2.1∧s.2.2.2.2.2.2.2.2.2.2.2.2.2.2.2.2.1≤1000000
 clo: -1≤s.2.2.2.2.2.2.2.2.2.2.2.2.2.2.2.2.2.1∧s.2.2.2.2.2.2.2.2.2.2.2.2.2.2.2.2.2.1≤281474976710655
theorem Db(n:Int)(s:ST):∃b,kM n s=some b∧(b=true↔CanW n s):=by
 have hc:kL s=some (cts s):=rfl
 have hcl:(cts s).length<4611686018427387904:=by show 6<_;omega
 unfold kM
 simp only[aE,BW,FK,FL,ao,BX,hc,C9 _ hcl]
 by_cases h0:(0≤n∧n≤1152921504606846976)∧(0≤s.1∧s.1≤1)
 ·have e1:bt n 0 1152921504606846976=true:=bt_iff.2 h0.1
  have e2:bt s.1 0 1=true:=bt_iff.2 h0.2
  rw[e1,e2,if_neg (by simp),if_neg (by simp)]
  by_cases h1:(0≤s.2.1∧s.2.1≤1152921504606846976)∧(0≤s.2.2.1∧s.2.2.1≤1152921504606846976)∧(0≤s.2.2.2.1∧s.2.2.2.1≤1152921504606846976)
  ·rw[bt_iff.2 h1.1,bt_iff.2 h1.2.1,bt_iff.2 h1.2.2,if_neg (by simp),if_neg (by simp),if_neg (by simp)]
   by_cases h2:(decide ((List.length s.2.2.2.2.1:Int)≤2048)&&s.2.2.2.2.1.all vU)=true∧(decide ((List.length s.2.2.2.2.2.1:Int)≤2048)&&s.2.2.2.2.2.1.all vU)=true
   ·rw[h2.1,h2.2,if_neg (by simp),if_neg (by simp)]
    by_cases h3:(0≤s.2.2.2.2.2.2.1∧s.2.2.2.2.2.2.1≤281474976710655)∧(0≤s.2.2.2.2.2.2.2.1∧s.2.2.2.2.2.2.2.1≤281474976710655)∧(0≤s.2.2.2.2.2.2.2.2.1∧s.2.2.2.2.2.2.2.2.1≤281474976710655)
    ·rw[bt_iff.2 h3.1,bt_iff.2 h3.2.1,bt_iff.2 h3.2.2,if_neg (by simp),if_neg (by simp),if_neg (by simp)]
     cases h4:(cts s).all λc=>bt c 0 2048 with
     |false=>
      refine⟨false,by simp,by simp,λh=>?_⟩
      rw[List.all_eq_true.2 λc hc=>bt_iff.2 (h.cts c hc)]at h4;cases h4
     |true=>
      rw[if_neg (by simp)]
      by_cases h5:(List.length (shf s):Int)>49
      ·refine⟨false,?_,by simp,λh=>?_⟩
       ·rw[if_pos (by simpa using h5)];simp
       ·have:=h.shf.1;omega
      ·have h5':(List.length s.2.2.2.2.2.2.2.2.2.2.2.2.2.2.2.1:Int)≤49:=by show(List.length (shf s):Int)≤49;omega
       rw[if_neg (by simpa using h5'),Da _ (by omega),ao]
       cases h6:(s.2.2.2.2.2.2.2.2.2.2.2.2.2.2.2.1).all λx=>bt x.1 0 281474976710655 with
       |false=>
        refine⟨false,by simp,by simp,λh=>?_⟩
        rw[List.all_eq_true.2 λx hx=>bt_iff.2 (h.shf.2 x hx)]at h6;cases h6
       |true=>
        rw[if_neg (by simp)]
        rw[Bool.and_eq_true,Bool.and_eq_true,decide_eq_true_eq,decide_eq_true_eq,List.all_eq_true,List.all_eq_true]at h2
        rw[List.all_eq_true]at h4 h6
        cases h7:bt s.2.2.2.2.2.2.2.2.2.2.2.2.2.2.2.2.1 0 1000000 with
        |false=>
         refine⟨false,by simp,by simp,λh=>?_⟩
         rw[bt_iff.2 h.fail]at h7;cases h7
        |true=>
         refine⟨_,by rw[if_pos rfl],λh=>?_,λh=>bt_iff.2 h.clo⟩
         exact⟨h0.1,h0.2,h1.1,h1.2.1,h1.2.2,⟨by omega,h2.1.2⟩,⟨by omega,h2.2.2⟩,h3.1,h3.2.1,h3.2.2,λc hc=>bt_iff.1 (h4 c hc),⟨by unfold shf;omega,λx hx=>bt_iff.1 (h6 x hx)⟩,bt_iff.1 h7,bt_iff.1 h⟩
    ·refine⟨false,?_,by simp,λh=>absurd ⟨h.loc,h.rem,h.ack⟩ h3⟩
     rw[←bt_iff,←bt_iff,←bt_iff]at h3
     cases a:bt s.2.2.2.2.2.2.1 0 281474976710655<;>cases b:bt s.2.2.2.2.2.2.2.1 0 281474976710655<;>cases c:bt s.2.2.2.2.2.2.2.2.1 0 281474976710655<;>simp[a,b,c]at h3⊢
   ·refine⟨false,?_,by simp,λh=>absurd ⟨?_,?_⟩ h2⟩
    ·cases a:(decide ((List.length s.2.2.2.2.1:Int)≤2048)&&s.2.2.2.2.1.all vU)<;>cases b:(decide ((List.length s.2.2.2.2.2.1:Int)≤2048)&&s.2.2.2.2.2.1.all vU)<;>first|rfl|(exact absurd ⟨a,b⟩ h2)
    ·rw[Bool.and_eq_true,decide_eq_true_eq,List.all_eq_true];exact⟨by have:=h.ours.1;omega,h.ours.2⟩
    ·rw[Bool.and_eq_true,decide_eq_true_eq,List.all_eq_true];exact⟨by have:=h.peers.1;omega,h.peers.2⟩
  ·refine⟨false,?_,by simp,λh=>absurd ⟨h.cap,h.bo,h.bp⟩ h1⟩
   rw[←bt_iff,←bt_iff,←bt_iff]at h1
   cases a:bt s.2.1 0 1152921504606846976<;>cases b:bt s.2.2.1 0 1152921504606846976<;>cases c:bt s.2.2.2.1 0 1152921504606846976<;>simp[a,b,c]at h1⊢
 ·refine⟨false,?_,by simp,λh=>absurd ⟨h.n,h.side⟩ h0⟩
  rw[←bt_iff,←bt_iff]at h0
  cases a:bt n 0 1152921504606846976<;>cases b:bt s.1 0 1<;>simp[a,b]at h0⊢
def uB(u:UT):List Int:=be u.1.toNat 1++be u.2.1.toNat 2++(if u.1=1 then be (un u.2.2.1) 8++u.2.2.2.1 else if u.1=2 then u.2.2.2.1 else be u.2.2.2.2.1.length 2++u.2.2.2.2.1)
theorem qu{u:UT}(h:vU u=true)(hh:u.2.2.2.1.length=32):(uB u).length≤100:=by
 obtain⟨_,h|h|h⟩:=qt h
 ·simp[uB,aD,h.1,hh]
 ·simp[uB,aD,h.1,hh]
 ·simp[uB,aD,h.1];omega
theorem Gl(u:UT)(hh:u.2.2.2.1.length=32):kN u=some (if vU u=true then(uB u,0)else([],120)):=by
 unfold kN
 simp only[tq,ao,aE]
 cases hv:vU u with
 |false=>simp
 |true=>
  obtain⟨h0,h⟩:=qt hv
  rw[if_neg (by simp),if_pos rfl]
  have hk:1≤u.1∧u.1≤3:=by omega
  have e1:IntKind.wrap .u8 u.1=((u.1.toNat:Nat):Int):=by rw[oP (by omega) (by omega)];omega
  have e2:IntKind.wrap .u16 u.2.1=((u.2.1.toNat:Nat):Int):=by rw[oO (by omega) (by omega)];omega
  unfold ka
  rw[ao,e1,e2,wU8 _ (by omega) _ (by simp),ao,Ea _ (by omega) _ (by simp[aD]),ao]
  rcases h with h|h|h
  ·rw[if_pos (by simp[h.1]),ro _ _ (by simp[aD]),ao,vo _ _ (by simp[aD,hh]),ao]
   unfold dq
   rw[if_neg (by simp),ao]
   simp[uB,h.1]
  ·rw[if_neg (by simp[h.1]),if_pos (by simp[h.1]),vo _ _ (by simp[aD,hh]),ao]
   unfold dq
   rw[if_neg (by simp),ao]
   simp[uB,h.1]
  ·rw[if_neg (by simp[h.1]),if_neg (by simp[h.1]),if_pos (by simp[h.1]),GX _ _ (by omega) (by simp[aD];omega),ao]
   unfold dq
   rw[if_neg (by simp),ao]
   simp[uB,h.1]
def Uok(u:UT):Prop:=vU u=true∧u.2.2.2.1.length=32
theorem FO(l:List UT)(hl:l.length≤65535)(hv:∀u∈l,Uok u)(K:WT→Option WT):∀(k i m:Nat) (xs:List Int),i+k=l.length→k<m→xs.length+k*100≤140737488355328→jf l K m ((i:Int),xs,0,())=K (xs++(l.drop i).flatMap uB,0,()):=by
 intro k
 induction k with
 |zero=>
  intro i m xs hi hm _
  cases m with
  |zero=>omega
  |succ m=>
   rw[jf,if_neg (by simp;omega),List.drop_eq_nil_of_le (by omega)]
   simp
 |succ k ih=>
  intro i m xs hi hm hx
  cases m with
  |zero=>omega
  |succ m=>
   have hlt:i<l.length:=by omega
   have hg:List.getD l (Int.toNat (i:Int)) (0,0,0,(List.replicate 32 (0:Int)),[],())=l[i]:=by simp[List.getD,hlt]
   have hu:=hv l[i] (List.getElem_mem hlt)
   have hb:=qu hu.1 hu.2
   rw[jf,if_pos (by simp;omega),if_pos (by omega),hg,Gl _ hu.2,if_pos hu.1,ao,Eb _ _ (by show xs.length+(uB l[i]).length≤_;omega),ao,aM (by omega) (by omega)]
   have:=ih (i+1) m (xs++uB l[i]) (by omega) (by omega) (by simp;omega)
   rw[show((i:Int)+1)=((i+1:Nat):Int)from rfl]
   refine this.trans ?_
   rw[List.drop_eq_getElem_cons hlt]
   simp only[List.flatMap_cons,List.append_assoc]
def ulB(l:List UT):List Int:=be l.length 2++l.flatMap uB
theorem iO{α:Type}(f:α→List Int)(n:Nat):∀(l:List α),(∀x∈l,(f x).length≤n)→(l.flatMap f).length≤l.length*n
 |[],_=>by simp
 |x::l,h=>by
  have h1:=h x (by simp)
  have h2:=iO f n l λy hy=>h y (by simp[hy])
  simp only[List.flatMap_cons,List.length_append,List.length_cons,Nat.succ_mul];omega
theorem nB{l:List UT}(hl:l.length≤2048)(hv:∀u∈l,Uok u):(ulB l).length≤204802:=by
 have:=iO uB 100 l λu hu=>qu (hv u hu).1 (hv u hu).2
 simp only[ulB,List.length_append,aD]
 have:l.length*100≤2048*100:=Nat.mul_le_mul_right _ hl
 omega
theorem Bg(l:List UT)(hl:l.length≤2048)(hv:∀u∈l,Uok u)(xs:List Int)(hx:xs.length≤10000000):mm (xs,0,()) l=some (xs++ulB l,0,()):=by
 unfold mm
 have e:IntKind.wrap .u16 (List.length l:Int)=((l.length:Nat):Int):=oO (by omega) (by omega)
 rw[e,Ea _ (by omega) _ (by omega),ao,aE]
 have:=FO l (by omega) hv (λo7=>some o7) l.length 0 (Int.toNat ((List.length l:Int) - 0)+1) (xs++be l.length 2) (by omega) (by omega) (by simp[aD];omega)
 refine this.trans ?_
 simp[ulB]
def fl(b:Bool):Nat:=if b=true then 1 else 0
theorem Bh(b:Bool)(xs:List Int)(hx:xs.length≤10000000):kY (xs,0,()) b=some (xs++be (fl b) 1,0,()):=by
 unfold kY
 cases b with
 |true=>
  have h:dh (xs,0,()) 1=some (xs++be 1 1,0,()):=wU8 1 (by omega) xs (by omega)
  rw[if_pos rfl,h];rfl
 |false=>
  have h:dh (xs,0,()) 0=some (xs++be 0 1,0,()):=wU8 0 (by omega) xs (by omega)
  rw[if_neg (by simp),h];rfl
theorem l4s(s:ST)(K:WT→Option (List Int×Int))(m i:Nat)(hi:i<3)(w:WT):fq s K (m+1) ((i:Int),w)=(bU w (([s.2.1,s.2.2.1,s.2.2.2.1]:List (Int)).getD i 0)).bind λr=>fq s K m (((i+1:Nat):Int),r):=by
 rw[fq]
 simp only[aE]
 rw[if_pos (by simp;omega),if_pos (by simp;omega),aM (by omega) (by omega),Int.toNat_natCast]
 rfl
theorem l4e(s:ST)(K:WT→Option (List Int×Int))(m:Nat)(w:WT):fq s K (m+1) (((3:Nat):Int),w)=K w:=by
 rw[fq]
 simp only[aE]
 rw[if_neg (by simp)]
theorem l3s(s:ST)(K:WT→Option (List Int×Int))(m i:Nat)(hi:i<3)(w:WT):fp s K (m+1) ((i:Int),w)=(bU w (([s.2.2.2.2.2.2.1,s.2.2.2.2.2.2.2.1,s.2.2.2.2.2.2.2.2.1]:List (Int)).getD i 0)).bind λr=>fp s K m (((i+1:Nat):Int),r):=by
 rw[fp]
 simp only[aE]
 rw[if_pos (by simp;omega),if_pos (by simp;omega),aM (by omega) (by omega),Int.toNat_natCast]
 rfl
theorem l3e(s:ST)(K:WT→Option (List Int×Int))(m:Nat)(w:WT):fp s K (m+1) (((3:Nat):Int),w)=K w:=by
 rw[fp]
 simp only[aE]
 rw[if_neg (by simp)]
theorem l1s(s:ST)(K:WT→Option (List Int×Int))(m i:Nat)(hi:i<3)(w:WT):fo s K (m+1) ((i:Int),w)=(cD w (([(List.getD s.2.2.2.2.2.2.2.2.2.2.2.2.2.1 0 (List.replicate 32 (0:Int))),(List.getD s.2.2.2.2.2.2.2.2.2.2.2.2.2.1 1 (List.replicate 32 (0:Int))),s.2.2.2.2.2.2.2.2.2.2.2.2.2.2.1]:List (List Int)).getD i (List.replicate 32 (0:Int)))).bind λr=>fo s K m (((i+1:Nat):Int),r):=by
 rw[fo]
 simp only[aE]
 rw[if_pos (by simp;omega),if_pos (by simp;omega),aM (by omega) (by omega),Int.toNat_natCast]
 rfl
theorem l1e(s:ST)(K:WT→Option (List Int×Int))(m:Nat)(w:WT):fo s K (m+1) (((3:Nat):Int),w)=K w:=by
 rw[fo]
 simp only[aE]
 rw[if_neg (by simp)]
theorem GY(s:ST)(K:WT→Option (List Int×Int))(xs:List Int)(hx:xs.length≤10000000):fq s K 4 (0,xs,0,())=K (xs++(be (un s.2.1) 8++be (un s.2.2.1) 8++be (un s.2.2.2.1) 8),0,()):=by
 have h:=l4s s K 3 0 (by omega) (xs,0,())
 refine h.trans ?_
 rw[ro _ _ (by omega),ao,l4s _ _ 2 1 (by omega),ro _ _ (by simp[aD];omega),ao,l4s _ _ 1 2 (by omega),ro _ _ (by simp[aD];omega),ao,l4e]
 simp
theorem GZ(s:ST)(K:WT→Option (List Int×Int))(xs:List Int)(hx:xs.length≤10000000):fp s K 4 (0,xs,0,())=K (xs++(be (un s.2.2.2.2.2.2.1) 8++be (un s.2.2.2.2.2.2.2.1) 8++be (un s.2.2.2.2.2.2.2.2.1) 8),0,()):=by
 have h:=l3s s K 3 0 (by omega) (xs,0,())
 refine h.trans ?_
 rw[ro _ _ (by omega),ao,l3s _ _ 2 1 (by omega),ro _ _ (by simp[aD];omega),ao,l3s _ _ 1 2 (by omega),ro _ _ (by simp[aD];omega),ao,l3e]
 simp
abbrev pts(s:ST):List (List Int):=s.2.2.2.2.2.2.2.2.2.2.2.2.2.1
abbrev sig(s:ST):List Int:=s.2.2.2.2.2.2.2.2.2.2.2.2.2.2.1
def pt(s:ST)(i:Nat):List Int:=(pts s).getD i (List.replicate 32 (0:Int))
theorem G0(s:ST)(K:WT→Option (List Int×Int))(xs:List Int)(hx:xs.length≤10000000)(h0:(pt s 0).length=32)(h1:(pt s 1).length=32)(h2:(sig s).length=32):fo s K 4 (0,xs,0,())=K (xs++(pt s 0++pt s 1++sig s),0,()):=by
 have h:=l1s s K 3 0 (by omega) (xs,0,())
 refine h.trans ?_
 rw[vo _ _ (by show xs.length+(pt s 0).length≤_;omega),ao,l1s _ _ 2 1 (by omega),vo _ _ (by show(xs++pt s 0).length+(pt s 1).length≤_;simp;omega),ao,l1s _ _ 1 2 (by omega),vo _ _ (by show(xs++pt s 0++pt s 1).length+(sig s).length≤_;simp;omega),ao,l1e]
 show K (xs++pt s 0++pt s 1++sig s,0,())=_
 simp
theorem G1(l:List Int)(hl:l.length≤100)(hv:∀c∈l,0≤c∧c≤2048)(K:WT→Option (List Int×Int)):∀(k i m:Nat) (xs:List Int),i+k=l.length→k<m→xs.length+k*2≤140737488355328→iA K l m ((i:Int),xs,0,())=K (xs++(l.drop i).flatMap (λc=>be c.toNat 2),0,()):=by
 intro k
 induction k with
 |zero=>
  intro i m xs hi hm _
  cases m with
  |zero=>omega
  |succ m=>
   rw[iA,if_neg (by simp;omega),List.drop_eq_nil_of_le (by omega)]
   simp
 |succ k ih=>
  intro i m xs hi hm hx
  cases m with
  |zero=>omega
  |succ m=>
   have hlt:i<l.length:=by omega
   have hg:List.getD l (Int.toNat (i:Int)) 0=l[i]:=by simp[List.getD,hlt]
   have hu:=hv l[i] (List.getElem_mem hlt)
   have e:IntKind.wrap .u16 l[i]=(((l[i]).toNat:Nat):Int):=by rw[oO (by omega) (by omega)];omega
   rw[iA,if_pos (by simp;omega),if_pos (by omega),aE,hg,e,Ea _ (by omega) _ (by omega),ao,aM (by omega) (by omega)]
   have:=ih (i+1) m (xs++be (l[i]).toNat 2) (by omega) (by omega) (by simp[aD];omega)
   rw[show((i:Int)+1)=((i+1:Nat):Int)from rfl]
   refine this.trans ?_
   rw[List.drop_eq_getElem_cons hlt]
   simp only[List.flatMap_cons,List.append_assoc]
def slB(x:SlT):List Int:=be (fl x.2.2.1) 1++be (un x.1) 8++x.2.1
theorem G2(s:ST)(hl:(shf s).length≤100)(hv:∀x∈shf s,x.2.1.length=32)(K:WT→Option (List Int×Int)):∀(k i m:Nat) (xs:List Int),i+k=(shf s).length→k<m→xs.length+k*41≤5000000→gP s K m ((i:Int),xs,0,())=K (xs++((shf s).drop i).flatMap slB,0,()):=by
 have hq:List.length s.2.2.2.2.2.2.2.2.2.2.2.2.2.2.2.1=(shf s).length:=rfl
 intro k
 induction k with
 |zero=>
  intro i m xs hi hm _
  cases m with
  |zero=>omega
  |succ m=>
   rw[gP,if_neg (by simp;omega),List.drop_eq_nil_of_le (by omega)]
   simp
 |succ k ih=>
  intro i m xs hi hm hx
  cases m with
  |zero=>omega
  |succ m=>
   have hlt:i<(shf s).length:=by omega
   have hg:List.getD (shf s) (Int.toNat (i:Int)) (0,(List.replicate 32 (0:Int)),false,())=(shf s)[i]:=by simp[List.getD,hlt]
   have hu:=hv (shf s)[i] (List.getElem_mem hlt)
   rw[gP,if_pos (by simp;omega),if_pos (by omega)]
   show((kY (xs,0,()) (List.getD (shf s) (Int.toNat (i:Int)) (0,(List.replicate 32 (0:Int)),false,())).2.2.1).bind λr31=>(bU r31 (List.getD (shf s) (Int.toNat (i:Int)) (0,(List.replicate 32 (0:Int)),false,())).1).bind λr32=>(cD r32 (List.getD (shf s) (Int.toNat (i:Int)) (0,(List.replicate 32 (0:Int)),false,())).2.1).bind λr33=>gP s K m (IntKind.wrap .i64 ((i:Int)+1),r33))=_
   rw[hg,Bh _ _ (by omega),ao,ro _ _ (by simp[aD];omega),ao,vo _ _ (by simp[aD];omega),ao,aM (by omega) (by omega)]
   have:=ih (i+1) m (xs++be (fl ((shf s)[i]).2.2.1) 1++be (un ((shf s)[i]).1) 8++((shf s)[i]).2.1) (by omega) (by omega) (by simp[aD];omega)
   rw[show((i:Int)+1)=((i+1:Nat):Int)from rfl]
   refine this.trans ?_
   rw[List.drop_eq_getElem_cons hlt]
   simp only[List.flatMap_cons,List.append_assoc,slB]
def stB(n:Int)(s:ST):List Int:=be (un n) 8++(be s.1.toNat 1++((be (un s.2.1) 8++be (un s.2.2.1) 8++be (un s.2.2.2.1) 8)++(ulB s.2.2.2.2.1++(ulB s.2.2.2.2.2.1++((be (un s.2.2.2.2.2.2.1) 8++be (un s.2.2.2.2.2.2.2.1) 8++be (un s.2.2.2.2.2.2.2.2.1) 8)++((cts s).flatMap (λc=>be c.toNat 2)++(be (fl s.2.2.2.2.2.2.2.2.2.2.2.2.1) 1++((pt s 0++pt s 1++sig s)++(be (shf s).length 1++((shf s).flatMap slB++(be s.2.2.2.2.2.2.2.2.2.2.2.2.2.2.2.2.1.toNat 4++be (un s.2.2.2.2.2.2.2.2.2.2.2.2.2.2.2.2.2.1) 8)))))))))))
structure Wf(s:ST):Prop where
 ours:∀u∈s.2.2.2.2.1,u.2.2.2.1.length=32
 peers:∀u∈s.2.2.2.2.2.1,u.2.2.2.1.length=32
 shf:∀x∈shf s,x.2.1.length=32
 p0:(pt s 0).length=32
 p1:(pt s 1).length=32
 sg:(sig s).length=32
 np:(pts s).length=2
set_option maxHeartbeats 1000000 in
theorem qv{n:Int}{s:ST}(hw:Wf s)(hc:CanW n s):ft n s=some (stB n s,0):=by
 obtain⟨b,hb,hbi⟩:=Db n s
 have hb1:b=true:=hbi.2 hc
 have ho:∀u∈s.2.2.2.2.1,Uok u:=λu hu=>⟨hc.ours.2 u hu,hw.ours u hu⟩
 have hp:∀u∈s.2.2.2.2.2.1,Uok u:=λu hu=>⟨hc.peers.2 u hu,hw.peers u hu⟩
 have lo:=nB hc.ours.1 ho
 have lp:=nB hc.peers.1 hp
 have ls:=iO slB 41 (shf s) λx hx=>by simp[slB,aD,hw.shf x hx]
 have ls2:(shf s).length*41≤49*41:=Nat.mul_le_mul_right _ hc.shf.1
 have lc:=iO (λc:Int=>be c.toNat 2) 2 (cts s) λc _=>by simp[aD]
 have lc2:(cts s).length=6:=rfl
 have e1:IntKind.wrap .u8 s.1=((s.1.toNat:Nat):Int):=by have:=hc.side;rw[oP (by omega) (by omega)];omega
 have e2:IntKind.wrap .u8 (List.length (shf s):Int)=(((shf s).length:Nat):Int):=by have:=hc.shf.1;rw[oP (by omega) (by omega)]
 have e3:IntKind.wrap .u32 s.2.2.2.2.2.2.2.2.2.2.2.2.2.2.2.2.1=((s.2.2.2.2.2.2.2.2.2.2.2.2.2.2.2.2.1.toNat:Nat):Int):=by have:=hc.fail;rw[zY (by omega) (by omega)];omega
 have h9:s.1.toNat<256:=by have:=hc.side;omega
 have h10:(shf s).length<256:=by have:=hc.shf.1;omega
 have h11:s.2.2.2.2.2.2.2.2.2.2.2.2.2.2.2.2.1.toNat<4294967296:=by have:=hc.fail;omega
 unfold ft
 rw[hb,hb1,ao,if_neg (by simp)]
 unfold ka
 rw[ao,ro _ _ (by simp),ao,e1,wU8 _ h9 _ (by simp[aD]),ao]
 simp only[aE]
 rw[show(Int.toNat ((List.length [s.2.1,s.2.2.1,s.2.2.2.1]:Int) - 0)+1)=4 from rfl,GY _ _ _ (by simp[aD])]
 rw[Bg _ hc.ours.1 ho _ (by simp[aD]),ao,Bg _ hc.peers.1 hp _ (by simp only[List.length_append,List.length_nil,aD];omega),ao]
 rw[show(Int.toNat ((List.length [s.2.2.2.2.2.2.1,s.2.2.2.2.2.2.2.1,s.2.2.2.2.2.2.2.2.1]:Int) - 0)+1)=4 from rfl,GZ _ _ _ (by simp only[List.length_append,List.length_nil,aD];omega)]
 rw[show kL s=some (cts s)from rfl,ao]
 refine(G1 (cts s) (by rw[lc2];omega) hc.cts _ 6 0 _ _ rfl (by rw[lc2];decide) (by simp only[List.length_append,List.length_nil,aD];omega)).trans ?_
 rw[List.drop_zero,Bh _ _ (by simp only[List.length_append,List.length_nil,aD];omega),ao,if_pos (by decide),if_pos (by decide)]
 refine(G0 s _ _ (by simp only[List.length_append,List.length_nil,aD];omega) hw.p0 hw.p1 hw.sg).trans ?_
 rw[show(List.length s.2.2.2.2.2.2.2.2.2.2.2.2.2.2.2.1:Int)=(List.length (shf s):Int)from rfl,e2,wU8 _ h10 _ (by simp only[List.length_append,List.length_nil,aD,hw.p0,hw.p1,hw.sg];omega),ao]
 refine(G2 s (by omega) hw.shf _ (shf s).length 0 _ _ (by omega) (by omega) (by simp only[List.length_append,List.length_nil,aD,hw.p0,hw.p1,hw.sg];omega)).trans ?_
 rw[List.drop_zero,e3,HJ _ h11 _ (by simp only[List.length_append,List.length_nil,aD,hw.p0,hw.p1,hw.sg];omega),ao,ro _ _ (by simp only[List.length_append,List.length_nil,aD,hw.p0,hw.p1,hw.sg];omega),ao]
 unfold dq
 rw[if_neg (by simp),ao]
 simp only[stB,List.nil_append,List.append_assoc]
theorem qw{n:Int}{s:ST}(hc:¬CanW n s):ft n s=some ([],210):=by
 obtain⟨b,hb,hbi⟩:=Db n s
 have hb1:b=false:=by
  cases b with
  |false=>rfl
  |true=>exact absurd (hbi.1 rfl) hc
 unfold ft
 rw[hb,hb1,ao,if_pos (by simp)]
theorem vp{v:Int}(h0:0≤v)(h:v<18446744073709551616):un v=v.toNat:=by
 unfold un;rw[je h0 h]
theorem Gm(v:Int)(K:List Int→Option (List Int)):∀(i m:Nat) (xs:List Int),i≤8→i<m→xs.length+i≤140737488355328→eD v K m ((i:Int) - 1,xs)=K (xs++be (un v) i):=by
 intro i
 induction i with
 |zero=>
  intro m xs _ hm _
  cases m with
  |zero=>omega
  |succ m=>
   unfold eD
   rw[if_neg (by simp)]
   simp[be]
 |succ i ih=>
  intro m xs hi hm hl
  cases m with
  |zero=>omega
  |succ m=>
   unfold eD
   have e1:((i+1:Nat):Int) - 1=(i:Int):=by omega
   have e2:IntKind.wrap .i64 (8*(i:Int))=((8*i:Nat):Int):=by rw[aM (by omega) (by omega)];omega
   have e3:IntKind.wrap .u8 (ca .i64 v ((8*i:Nat):Int))=((un v/2^(8*i) % 256:Nat):Int):=by
    rw[D6 v (8*i) (by omega),nA,FI v i (by omega)]
   simp only[e1,e2,e3]
   rw[if_pos (by simp),if_pos (by omega),if_pos (by simp;omega),aE,aM (by omega) (by omega),ih m _ (by omega) (by omega) (by simp;omega),qi]
   simp
theorem z1(xs:List Int)(v:Int)(n:Nat)(hn:n≤8)(hx:xs.length≤10000000):bE xs v (n:Int)=some (xs++be (un v) n):=by
 unfold bE
 rw[aE,aE,aM (by omega) (by omega),Gm v _ n _ xs hn (by omega) (by omega)]
theorem tu(xs:List Int)(v:Int)(hx:xs.length≤10000000):bE xs v 8=some (xs++be (un v) 8):=z1 xs v 8 (by omega) hx
theorem Gn(xs:List Int)(v:Int)(hv:0≤v∧v≤65535)(hx:xs.length≤10000000):bE xs v 2=some (xs++be v.toNat 2):=by
 have:=z1 xs v 2 (by omega) hx
 rwa [vp hv.1 (by omega)]at this
theorem HN(xs:List Int)(v:Int)(hv:0≤v∧v≤4294967295)(hx:xs.length≤10000000):bE xs v 4=some (xs++be v.toNat 4):=by
 have:=z1 xs v 4 (by omega) hx
 rwa [vp hv.1 (by omega)]at this
theorem Gp(V:Nat)(hV:V<18446744073709551616)(K:List Int→Option (List Int)):∀(i m:Nat) (xs:List Int),i≤8→i<m→xs.length+i≤140737488355328→eY (V:Int) K m ((i:Int) - 1,xs)=K (xs++be V i):=by
 intro i
 induction i with
 |zero=>
  intro m xs _ hm _
  cases m with
  |zero=>omega
  |succ m=>
   unfold eY
   rw[if_neg (by simp)]
   simp[be]
 |succ i ih=>
  intro m xs hi hm hl
  cases m with
  |zero=>omega
  |succ m=>
   unfold eY
   have e1:((i+1:Nat):Int) - 1=(i:Int):=by omega
   have e2:IntKind.wrap .u64 (8*(IntKind.wrap .u64 (i:Int)))=((8*i:Nat):Int):=by rw[je (n:=(i:Int)) (by omega) (by omega),je (by omega) (by omega)];omega
   have e3:IntKind.wrap .u8 (ca .u64 (V:Int) ((8*i:Nat):Int))=((V/2^(8*i) % 256:Nat):Int):=by
    rw[sD V (8*i) (by omega),nA];omega
   simp only[e1,e2,e3]
   rw[if_pos (by simp),if_pos (by simp;omega),aE,aM (by omega) (by omega),ih m _ (by omega) (by omega) (by simp;omega),qi]
   simp
theorem Gq(V:Nat)(hV:V<18446744073709551616)(n:Nat)(hn:n≤8):cO (V:Int) (n:Int)=some (be V n):=by
 unfold cO
 rw[aE,aE,aM (by omega) (by omega),Gp V hV _ n _ [] hn (by omega) (by simp;omega),List.nil_append]
theorem BZ(v:Int)(n:Nat)(hn:n≤8):cO (IntKind.wrap .u64 v) (n:Int)=some (be (un v) n):=by
 rw[BU];exact Gq _ (wK v) n hn
theorem z6(u:UT):fA u=some (vU u):=by
 unfold fA vU
 simp only[aE,apply_ite some]
theorem FP(u:UT)(hh:u.2.2.2.1.length=32):jm u=some (if vU u=true then(uB u,0)else([],120)):=by
 unfold jm
 simp only[z6,ao,aE]
 cases hv:vU u with
 |false=>simp
 |true=>
  obtain⟨h0,h⟩:=qt hv
  have hk:1≤u.1∧u.1≤3:=by omega
  have b1:cO (IntKind.wrap .u64 u.1) 1=some (be u.1.toNat 1):=by rw[←vp (v:=u.1) (by omega) (by omega)];exact BZ u.1 1 (by omega)
  have b2:cO (IntKind.wrap .u64 u.2.1) 2=some (be u.2.1.toNat 2):=by rw[←vp (v:=u.2.1) (by omega) (by omega)];exact BZ u.2.1 2 (by omega)
  have b8:cO (IntKind.wrap .u64 u.2.2.1) 8=some (be (un u.2.2.1) 8):=BZ u.2.2.1 8 (by omega)
  have bn:cO (IntKind.wrap .u64 (List.length u.2.2.2.2.1:Int)) 2=some (be (un (List.length u.2.2.2.2.1:Int)) 2):=BZ _ 2 (by omega)
  rw[if_neg (by simp),if_pos rfl,b1,ao,b2,ao,if_pos (by simp[aD,most])]
  rcases h with h|h|h
  ·rw[if_pos (by simp[h.1]),b8,ao,if_pos (by simp[aD,most]),if_pos (by simp[aD,most,hh])]
   simp[uB,h.1]
  ·rw[if_neg (by simp[h.1]),if_pos (by simp[h.1]),if_pos (by simp[aD,most,hh])]
   simp[uB,h.1]
  ·have hn:=h.2.2.2
   rw[if_neg (by simp[h.1]),if_neg (by simp[h.1]),bn,ao,if_pos (by simp[aD,most]),if_pos (by simp[aD,most];omega),vp (by omega) (by omega)]
   simp[uB,h.1]
theorem FQ(l:List UT)(hl:l.length≤2048)(hv:∀u∈l,u.2.2.2.1.length=32)(K:List Int→Option (List Int×Bool)):∀(k i m:Nat) (xs:List Int),i+k=l.length→k<m→xs.length+k*100≤140737488355328→
  dW l K m ((i:Int),xs)=if((l.drop i).all vU)=true then K (xs++(l.drop i).flatMap uB)else some ([],false):=by
 intro k
 induction k with
 |zero=>
  intro i m xs hi hm _
  cases m with
  |zero=>omega
  |succ m=>
   rw[dW,if_neg (by simp;omega),List.drop_eq_nil_of_le (by omega)]
   simp
 |succ k ih=>
  intro i m xs hi hm hx
  cases m with
  |zero=>omega
  |succ m=>
   have hlt:i<l.length:=by omega
   have hg:List.getD l (Int.toNat (i:Int)) (0,0,0,(List.replicate 32 (0:Int)),[],())=l[i]:=by simp[List.getD,hlt]
   have hu:=hv l[i] (List.getElem_mem hlt)
   rw[dW,if_pos (by simp;omega),if_pos (by omega),hg,FP _ hu,ao,List.drop_eq_getElem_cons hlt,List.all_cons]
   cases h:vU l[i]with
   |false=>simp
   |true=>
    have hb:=qu h hu
    rw[if_pos rfl,if_neg (by simp)]
    dsimp only
    rw[if_pos (by omega),aE,aM (by omega) (by omega)]
    have:=ih (i+1) m (xs++uB l[i]) (by omega) (by omega) (by simp;omega)
    rw[show((i:Int)+1)=((i+1:Nat):Int)from rfl]
    refine this.trans ?_
    simp only[Bool.true_and,List.flatMap_cons,List.append_assoc]
theorem Bi(l:List UT)(hv:∀u∈l,u.2.2.2.1.length=32)(xs:List Int)(hx:xs.length≤10000000 - 1):gu xs l=some (if l.length≤2048∧(l.all vU)=true then(xs++ulB l,true)else([],false)):=by
 unfold gu
 by_cases hl:l.length≤2048
 ·rw[if_neg (by simp;omega),Gn _ _ (by omega) (by omega),ao,aE]
  refine(FQ l hl hv _ l.length 0 _ _ (by omega) (by omega) (by simp[aD];omega)).trans ?_
  rw[List.drop_zero]
  cases h:l.all vU with
  |false=>simp
  |true=>simp[hl,ulB]
 ·rw[if_pos (by simp;omega),if_neg (by omega)]
theorem xl(v most:Int):ck v most=some (bt v 0 most):=by
 unfold ck bt
 rw[aE]
theorem EM(b:Bool)(xs:List Int)(hx:xs.length≤10000000):gI xs b=some (xs++be (fl b) 1):=by
 unfold gI
 cases b with
 |true=>rw[if_pos rfl,if_pos (by simp;omega)];rfl
 |false=>rw[if_neg (by simp),if_pos (by simp;omega)];rfl
theorem Ec(l:List SlT)(hl:l.length≤49)(hv:∀x∈l,x.2.1.length=32)(K:List Int→Option (List Int×Bool)):∀(k i m:Nat) (xs:List Int),i+k=l.length→k<m→xs.length+k*41≤5000000→
  eZ l K m ((i:Int),xs)=if((l.drop i).all λx=>bt x.1 0 281474976710655)=true then K (xs++(l.drop i).flatMap slB)else some ([],false):=by
 intro k
 induction k with
 |zero=>
  intro i m xs hi hm _
  cases m with
  |zero=>omega
  |succ m=>
   rw[eZ,if_neg (by simp;omega),List.drop_eq_nil_of_le (by omega)]
   simp
 |succ k ih=>
  intro i m xs hi hm hx
  cases m with
  |zero=>omega
  |succ m=>
   have hlt:i<l.length:=by omega
   have hg:List.getD l (Int.toNat (i:Int)) (0,(List.replicate 32 (0:Int)),false,())=l[i]:=by simp[List.getD,hlt]
   have hu:=hv l[i] (List.getElem_mem hlt)
   rw[eZ,if_pos (by simp;omega),if_pos (by omega),hg,xl,ao,List.drop_eq_getElem_cons hlt,List.all_cons]
   cases h:bt l[i].1 0 281474976710655 with
   |false=>simp
   |true=>
    rw[if_neg (by simp),aE]
    dsimp only
    rw[if_pos (by omega),if_pos (by omega),EM _ _ (by omega),ao,tu _ _ (by simp[aD];omega),ao,if_pos (by omega),if_pos (by simp[aD,hu];omega),aE,aM (by omega) (by omega)]
    have:=ih (i+1) m (xs++slB l[i]) (by omega) (by omega) (by simp[slB,aD,hu];omega)
    rw[show((i:Int)+1)=((i+1:Nat):Int)from rfl]
    simp only[slB,List.append_assoc,Bool.true_and,List.flatMap_cons]at this⊢
    exact this
theorem Ed(l:List SlT)(hv:∀x∈l,x.2.1.length=32)(xs:List Int)(hx:xs.length≤4000000):ie xs l=some (if l.length≤49∧(l.all λx=>bt x.1 0 281474976710655)=true then(xs++(be l.length 1++l.flatMap slB),true)else([],false)):=by
 unfold ie
 by_cases hl:l.length≤49
 ·have e:be l.length 1=[(l.length:Int)]:=by simp[be];omega
  rw[if_neg (by simp;omega),if_pos (by simp;omega),aE,oP (by omega) (by omega)]
  refine(Ec l hl hv _ l.length 0 _ _ (by omega) (by omega) (by simp;omega)).trans ?_
  rw[List.drop_zero,e]
  cases h:l.all λx=>bt x.1 0 281474976710655 with
  |false=>simp
  |true=>simp[hl]
 ·rw[if_pos (by simp;omega),if_neg (by omega)]
theorem Gr(l:List Int)(hl:l.length=6)(K:Unit→Option Bool):∀(k i m:Nat),i+k=6→k<m→fR l K m (i:Int)=if((l.drop i).all λc=>bt c 0 2048)=true then K ()else some false:=by
 intro k
 induction k with
 |zero=>
  intro i m hi hm
  cases m with
  |zero=>omega
  |succ m=>
   rw[fR,if_neg (by simp;omega),List.drop_eq_nil_of_le (by omega)]
   simp
 |succ k ih=>
  intro i m hi hm
  cases m with
  |zero=>omega
  |succ m=>
   have hlt:i<l.length:=by omega
   have hg:List.getD l (Int.toNat (i:Int)) 0=l[i]:=by simp[List.getD,hlt]
   rw[fR,if_pos (by simp;omega),if_pos (by omega),hg,xl,ao,List.drop_eq_getElem_cons hlt,List.all_cons]
   cases h:bt l[i] 0 2048 with
   |false=>simp
   |true=>
    rw[if_neg (by simp),aE,aM (by omega) (by omega)]
    have:=ih (i+1) m (by omega) (by omega)
    rw[show((i:Int)+1)=((i+1:Nat):Int)from rfl]
    refine this.trans ?_
    simp only[Bool.true_and]
structure MayW(n:Int)(s:ST):Prop where
 n:0≤n∧n≤1152921504606846976
 side:0≤s.1∧s.1≤1
 cap:0≤s.2.1∧s.2.1≤1152921504606846976
 bo:0≤s.2.2.1∧s.2.2.1≤1152921504606846976
 bp:0≤s.2.2.2.1∧s.2.2.2.1≤1152921504606846976
 loc:0≤s.2.2.2.2.2.2.1∧s.2.2.2.2.2.2.1≤281474976710655
 rem:0≤s.2.2.2.2.2.2.2.1∧s.2.2.2.2.2.2.2.1≤281474976710655
 ack:0≤s.2.2.2.2.2.2.2.2.1∧s.2.2.2.2.2.2.2.2.1≤281474976710655
 cts:∀c∈cts s,0≤c∧c≤2048
 fail:0≤s.2.2.2.2.2.2.2.2.2.2.2.2.2.2.2.2.1∧s.2.2.2.2.2.2.2.2.2.2.2.2.2.2.2.2.1≤1000000
 clo: -1≤s.2.2.2.2.2.2.2.2.2.2.2.2.2.2.2.2.2.1∧s.2.2.2.2.2.2.2.2.2.2.2.2.2.2.2.2.2.1≤281474976710655
theorem can_iff{n:Int}{s:ST}:CanW n s↔MayW n s∧(s.2.2.2.2.1.length≤2048∧(s.2.2.2.2.1.all vU)=true)∧(s.2.2.2.2.2.1.length≤2048∧(s.2.2.2.2.2.1.all vU)=true)∧((shf s).length≤49∧((shf s).all λx=>bt x.1 0 281474976710655)=true):=by
 simp only[List.all_eq_true,bt_iff]
 constructor
 ·intro h
  exact⟨⟨h.n,h.side,h.cap,h.bo,h.bp,h.loc,h.rem,h.ack,h.cts,h.fail,h.clo⟩,h.ours,h.peers,h.shf⟩
 ·rintro⟨h,a,b,c⟩
  exact⟨h.n,h.side,h.cap,h.bo,h.bp,a,b,h.loc,h.rem,h.ack,h.cts,c,h.fail,h.clo⟩
theorem FR(n:Int)(s:ST):∃b,kb n s=some b∧(b=true↔MayW n s):=by
 refine⟨((cts s).all λc=>bt c 0 2048)&&(bt n 0 1152921504606846976&&(bt s.1 0 1&&(bt s.2.1 0 1152921504606846976&&(bt s.2.2.1 0 1152921504606846976&&(bt s.2.2.2.1 0 1152921504606846976&&(bt s.2.2.2.2.2.2.1 0 281474976710655&&(bt s.2.2.2.2.2.2.2.1 0 281474976710655&&(bt s.2.2.2.2.2.2.2.2.1 0 281474976710655&&(bt s.2.2.2.2.2.2.2.2.2.2.2.2.2.2.2.2.1 0 1000000&&bt s.2.2.2.2.2.2.2.2.2.2.2.2.2.2.2.2.2.1 (-1) 281474976710655))))))))),?_,?_⟩
 ·have hc:gQ s=some (cts s):=rfl
  unfold kb
  rw[hc,ao,aE]
  refine(Gr (cts s) rfl _ 6 0 _ rfl (by decide)).trans ?_
  rw[List.drop_zero]
  simp only[aE,xl,ao]
  cases(cts s).all λc=>bt c 0 2048 with
  |false=>rfl
  |true=>
   rw[if_pos rfl,Bool.true_and]
   cases bt n 0 1152921504606846976 with
   |false=>rfl
   |true=>
   cases bt s.1 0 1 with
   |false=>rfl
   |true=>
   cases bt s.2.1 0 1152921504606846976 with
   |false=>rfl
   |true=>
   cases bt s.2.2.1 0 1152921504606846976 with
   |false=>rfl
   |true=>
   cases bt s.2.2.2.1 0 1152921504606846976 with
   |false=>rfl
   |true=>
   cases bt s.2.2.2.2.2.2.1 0 281474976710655 with
   |false=>rfl
   |true=>
   cases bt s.2.2.2.2.2.2.2.1 0 281474976710655 with
   |false=>rfl
   |true=>
   cases bt s.2.2.2.2.2.2.2.2.1 0 281474976710655 with
   |false=>rfl
   |true=>
   cases bt s.2.2.2.2.2.2.2.2.2.2.2.2.2.2.2.2.1 0 1000000 with
   |false=>rfl
   |true=>rfl
 ·simp only[Bool.and_eq_true,List.all_eq_true,bt_iff]
  constructor
  ·rintro⟨a,b,c,d,e,f,g,h,i,j,k⟩
   exact⟨b,c,d,e,f,g,h,i,a,j,k⟩
  ·intro h
   exact⟨h.cts,h.n,h.side,h.cap,h.bo,h.bp,h.loc,h.rem,h.ack,h.fail,h.clo⟩
theorem Bj(l:List Int)(hl:l.length=6)(hv:∀c∈l,0≤c∧c≤2048)(K:List Int→Option (List Int×Int)):∀(k i m:Nat) (xs:List Int),i+k=6→k<m→xs.length+k*2≤10000000→fa l K m ((i:Int),xs)=K (xs++(l.drop i).flatMap (λc=>be c.toNat 2)):=by
 intro k
 induction k with
 |zero=>
  intro i m xs hi hm _
  cases m with
  |zero=>omega
  |succ m=>
   rw[fa,if_neg (by simp;omega),List.drop_eq_nil_of_le (by omega)]
   simp
 |succ k ih=>
  intro i m xs hi hm hx
  cases m with
  |zero=>omega
  |succ m=>
   have hlt:i<l.length:=by omega
   have hg:List.getD l (Int.toNat (i:Int)) 0=l[i]:=by simp[List.getD,hlt]
   have hu:=hv l[i] (List.getElem_mem hlt)
   rw[fa,if_pos (by simp;omega),if_pos (by omega),hg,Gn _ _ (by omega) (by dsimp only;omega),ao,aE,aM (by omega) (by omega)]
   have:=ih (i+1) m (xs++be l[i].toNat 2) (by omega) (by omega) (by simp[aD];omega)
   rw[show((i:Int)+1)=((i+1:Nat):Int)from rfl]
   refine this.trans ?_
   rw[List.drop_eq_getElem_cons hlt]
   simp only[List.flatMap_cons,List.append_assoc]
set_option maxHeartbeats 1000000 in
theorem uI(n:Int){s:ST}(hw:Wf s):(CanW n s→fB n s=some (stB n s,0))∧(¬CanW n s→fB n s=some ([],210)):=by
 obtain⟨b,hb,hbi⟩:=FR n s
 unfold fB
 rw[hb,ao]
 cases b with
 |false=>
  refine⟨λhc=>absurd (hbi.2 (can_iff.1 hc).1) (by simp),λ_=>?_⟩
  rw[if_pos (by simp)]
 |true=>
  have hm:MayW n s:=hbi.1 rfl
  rw[if_neg (by simp)]
  simp only[aE]
  have e1:[IntKind.wrap .u8 s.1]=be s.1.toNat 1:=by
   have:=hm.side
   rw[oP (by omega) (by omega)];simp[be];omega
  rw[tu _ _ (by simp),ao,List.nil_append,if_pos (by simp[aD]),e1,tu _ _ (by simp[aD]),ao,tu _ _ (by simp[aD]),ao,tu _ _ (by simp[aD]),ao,Bi _ hw.ours _ (by simp[aD]),ao]
  by_cases h1:s.2.2.2.2.1.length≤2048∧(s.2.2.2.2.1.all vU)=true
  ·rw[if_pos h1,if_neg (by simp)]
   have lo:=nB h1.1 λu hu=>⟨List.all_eq_true.1 h1.2 u hu,hw.ours u hu⟩
   rw[Bi _ hw.peers _ (by simp only[List.length_append,aD];omega),ao]
   by_cases h2:s.2.2.2.2.2.1.length≤2048∧(s.2.2.2.2.2.1.all vU)=true
   ·rw[if_pos h2,if_neg (by simp)]
    have lp:=nB h2.1 λu hu=>⟨List.all_eq_true.1 h2.2 u hu,hw.peers u hu⟩
    have lc:=iO (λc:Int=>be c.toNat 2) 2 (cts s) λc _=>by simp[aD]
    have lc2:(cts s).length=6:=rfl
    rw[tu _ _ (by simp only[List.length_append,aD];omega),ao,tu _ _ (by simp only[List.length_append,aD];omega),ao,tu _ _ (by simp only[List.length_append,aD];omega),ao,show gQ s=some (cts s)from rfl,ao]
    have fin:∀X:List Int,X.length≤1000000→(gI X s.2.2.2.2.2.2.2.2.2.2.2.2.1).bind (λr29=>if(0:Int)≤0∧(0:Int)<2 then(if(0:Int)≤1∧(1:Int)<2 then(if(List.length r29+List.length (List.getD s.2.2.2.2.2.2.2.2.2.2.2.2.2.1 0 (List.replicate 32 (0:Int))))*1≤140737488355328 then(if(List.length (r29++(List.getD s.2.2.2.2.2.2.2.2.2.2.2.2.2.1 0 (List.replicate 32 (0:Int))))+List.length (List.getD s.2.2.2.2.2.2.2.2.2.2.2.2.2.1 1 (List.replicate 32 (0:Int))))*1≤140737488355328 then(if(List.length ((r29++(List.getD s.2.2.2.2.2.2.2.2.2.2.2.2.2.1 0 (List.replicate 32 (0:Int))))++(List.getD s.2.2.2.2.2.2.2.2.2.2.2.2.2.1 1 (List.replicate 32 (0:Int))))+List.length s.2.2.2.2.2.2.2.2.2.2.2.2.2.2.1)*1≤140737488355328 then((ie (((r29++(List.getD s.2.2.2.2.2.2.2.2.2.2.2.2.2.1 0 (List.replicate 32 (0:Int))))++(List.getD s.2.2.2.2.2.2.2.2.2.2.2.2.2.1 1 (List.replicate 32 (0:Int))))++s.2.2.2.2.2.2.2.2.2.2.2.2.2.2.1) s.2.2.2.2.2.2.2.2.2.2.2.2.2.2.2.1).bind λ(r34:List (Int)×Bool)=>if(!r34.2)=true then(some ([],210))else((bE r34.1 s.2.2.2.2.2.2.2.2.2.2.2.2.2.2.2.2.1 4).bind λ(r38:List (Int))=>(bE r38 s.2.2.2.2.2.2.2.2.2.2.2.2.2.2.2.2.2.1 8).bind λ(r40:List (Int))=>some (r40,0)))else none)else none)else none)else none)else none)=
      some (if(shf s).length≤49∧((shf s).all λx=>bt x.1 0 281474976710655)=true then(X++be (fl s.2.2.2.2.2.2.2.2.2.2.2.2.1) 1++(pt s 0++pt s 1++sig s)++(be (shf s).length 1++(shf s).flatMap slB)++be s.2.2.2.2.2.2.2.2.2.2.2.2.2.2.2.2.1.toNat 4++be (un s.2.2.2.2.2.2.2.2.2.2.2.2.2.2.2.2.2.1) 8,0)else([],(210:Int))):=by
     intro X hX
     have p0:=hw.p0;have p1:=hw.p1;have sg:=hw.sg
     have q0:(List.getD s.2.2.2.2.2.2.2.2.2.2.2.2.2.1 0 (List.replicate 32 (0:Int)))=pt s 0:=rfl
     have q1:(List.getD s.2.2.2.2.2.2.2.2.2.2.2.2.2.1 1 (List.replicate 32 (0:Int)))=pt s 1:=rfl
     have q2:s.2.2.2.2.2.2.2.2.2.2.2.2.2.2.1=sig s:=rfl
     have q3:s.2.2.2.2.2.2.2.2.2.2.2.2.2.2.2.1=shf s:=rfl
     have hfa:=hm.fail
     rw[EM _ _ (by omega),ao,if_pos (by decide),if_pos (by decide),q0,q1,q2,q3,if_pos (by simp only[List.length_append,aD];omega),if_pos (by simp only[List.length_append,aD];omega),if_pos (by simp only[List.length_append,aD];omega),Ed _ hw.shf _ (by simp only[List.length_append,aD];omega),ao]
     by_cases h3:(shf s).length≤49∧((shf s).all λx=>bt x.1 0 281474976710655)=true
     ·have ls:=iO slB 41 (shf s) λx hx=>by simp[slB,aD,hw.shf x hx]
      have ls2:(shf s).length*41≤49*41:=Nat.mul_le_mul_right _ h3.1
      rw[if_pos h3,if_pos h3,if_neg (by simp),HN _ _ (by omega) (by simp only[List.length_append,aD];omega),ao,tu _ _ (by simp only[List.length_append,aD];omega),ao]
      simp only[List.append_assoc]
     ·rw[if_neg h3,if_neg h3,if_pos (by simp)]
    refine⟨λhc=>?_,λhc=>?_⟩
    ·refine(Bj (cts s) rfl hm.cts _ 6 0 _ _ rfl (by decide) (by simp only[List.length_append,aD];omega)).trans ?_
     rw[List.drop_zero]
     refine(fin _ (by simp only[List.length_append,aD];omega)).trans ?_
     rw[if_pos (can_iff.1 hc).2.2.2]
     simp only[stB,List.append_assoc]
    ·refine(Bj (cts s) rfl hm.cts _ 6 0 _ _ rfl (by decide) (by simp only[List.length_append,aD];omega)).trans ?_
     rw[List.drop_zero]
     refine(fin _ (by simp only[List.length_append,aD];omega)).trans ?_
     rw[if_neg λh=>hc (can_iff.2 ⟨hm,h1,h2,h⟩)]
   ·refine⟨λhc=>absurd (can_iff.1 hc).2.2.1 h2,λ_=>?_⟩
    rw[if_neg h2,if_pos (by simp)]
  ·refine⟨λhc=>absurd (can_iff.1 hc).2.1 h1,λ_=>?_⟩
   rw[if_neg h1,if_pos (by simp)]
abbrev RT:=List Int×Int×Unit
def RG(r:RT):Prop:=aQ r.1
theorem uJ:aQ []:=λc hc=>by cases hc
theorem mj{l:List Int}(h:aQ l)(n:Nat):aQ (l.drop n):=λc hc=>h c (List.mem_of_mem_drop hc)
theorem ml{l:List Int}(h:aQ l)(n:Nat):aQ (l.take n):=λc hc=>h c (List.mem_of_mem_take hc)
theorem tw(r:RT)(n:Nat)(N:Int)(hN:N=(n:Int))(h:RG r):∃(t:List Int) (r':RT),cm r N=some (t,r')∧RG r'∧r'.1.length≤r.1.length∧aQ t∧t.length≤n:=by
 subst hN
 unfold cm
 simp only[aE]
 split
 ·exact⟨_,_,rfl,h,Nat.le_refl _,uJ,by simp⟩
 ·split
  ·unfold gk
   rw[ao]
   exact⟨_,_,rfl,uJ,by simp,uJ,by simp⟩
  ·rename_i hl
   have hl':n≤r.1.length:=by simp only[decide_eq_true_eq]at hl;omega
   rw[if_pos (by omega),if_pos (by omega)]
   refine⟨_,_,rfl,?_,?_,?_,?_⟩
   ·exact mj (ml h _) _
   ·simp
   ·exact mj (ml h _) _
   ·simp;omega
theorem tx(a tl:List Int)(N:Int)(hN:N=(a.length:Int)):cm (a++tl,0,()) N=some (a,tl,0,()):=by
 subst hN
 unfold cm
 simp only[aE]
 rw[if_neg (by simp),if_neg (by simp;omega),if_pos (by simp;omega),if_pos (by simp;omega),Int.toNat_natCast,Int.toNat_natCast,List.drop_zero,List.take_left',List.take_of_length_le (Nat.le_refl _),List.drop_left']
 ·rfl
 ·rfl
theorem qx{s:List Int}(hb:aQ s){i:Nat}(hi:i<8):ior .u64 (ja .u64 (pre s i) 8) (IntKind.wrap .u64 (List.getD s (Int.toNat (i:Int)) 0))=pre s (i+1):=by
 have h1:=l9 hb i
 have h2:=pY hb i
 have h3:(256:Int)^i≤256^7:=by
  have:i=0∨i=1∨i=2∨i=3∨i=4∨i=5∨i=6∨i=7:=by omega
  rcases this with rfl|rfl|rfl|rfl|rfl|rfl|rfl|rfl<;>decide
 have h4:(256:Int)^7=72057594037927936:=by decide
 obtain⟨x,hx⟩:∃x:Nat,pre s i=(x:Int):=⟨(pre s i).toNat,by omega⟩
 obtain⟨c,hc⟩:∃c:Nat,s.getD i 0=(c:Int):=⟨(s.getD i 0).toNat,by omega⟩
 rw[Int.toNat_natCast,hc,hx,je (by omega) (by omega),BV x c (by omega) (by omega)]
 simp only[pre]
 rw[hx,hc];omega
theorem FS(s:List Int)(hb:aQ s)(hl:s.length≤8)(K:Int→Option Int):∀(k i m:Nat),i+k=s.length→k<m→eE s K m (pre s i,(i:Int))=K (pre s s.length):=by
 intro k
 induction k with
 |zero=>
  intro i m hi hm
  cases m with
  |zero=>omega
  |succ m=>
   rw[eE,if_neg (by simp;omega)]
   show K (pre s i)=_
   rw[show i=s.length by omega]
 |succ k ih=>
  intro i m hi hm
  cases m with
  |zero=>omega
  |succ m=>
   rw[eE]
   simp only[aE]
   rw[if_pos (by simp;omega),if_pos (by omega),qx hb (by omega),aM (by omega) (by omega)]
   exact ih (i+1) m (by omega) (by omega)
theorem Gs(s:List Int)(hb:aQ s)(hl:s.length≤8):iQ s=some (IntKind.wrap .u8 (pre s s.length)):=by
 unfold iQ
 rw[aE]
 exact FS s hb hl _ s.length 0 _ (by omega) (by omega)
theorem Ee(s:List Int)(hb:aQ s)(hl:s.length≤8)(K:Int→Option Int):∀(k i m:Nat),i+k=s.length→k<m→dY s K m (pre s i,(i:Int))=K (pre s s.length):=by
 intro k
 induction k with
 |zero=>
  intro i m hi hm
  cases m with
  |zero=>omega
  |succ m=>
   rw[dY,if_neg (by simp;omega)]
   show K (pre s i)=_
   rw[show i=s.length by omega]
 |succ k ih=>
  intro i m hi hm
  cases m with
  |zero=>omega
  |succ m=>
   rw[dY]
   simp only[aE]
   rw[if_pos (by simp;omega),if_pos (by omega),qx hb (by omega),aM (by omega) (by omega)]
   exact ih (i+1) m (by omega) (by omega)
theorem wL(s:List Int)(hb:aQ s)(hl:s.length≤8):dK s=some (IntKind.wrap .u16 (pre s s.length)):=by
 unfold dK
 rw[aE]
 exact Ee s hb hl _ s.length 0 _ (by omega) (by omega)
theorem Ef(s:List Int)(hb:aQ s)(hl:s.length≤8)(K:Int→Option Int):∀(k i m:Nat),i+k=s.length→k<m→dZ s K m (pre s i,(i:Int))=K (pre s s.length):=by
 intro k
 induction k with
 |zero=>
  intro i m hi hm
  cases m with
  |zero=>omega
  |succ m=>
   rw[dZ,if_neg (by simp;omega)]
   show K (pre s i)=_
   rw[show i=s.length by omega]
 |succ k ih=>
  intro i m hi hm
  cases m with
  |zero=>omega
  |succ m=>
   rw[dZ]
   simp only[aE]
   rw[if_pos (by simp;omega),if_pos (by omega),qx hb (by omega),aM (by omega) (by omega)]
   exact ih (i+1) m (by omega) (by omega)
theorem EN(s:List Int)(hb:aQ s)(hl:s.length≤8):ip s=some (IntKind.wrap .u32 (pre s s.length)):=by
 unfold ip
 rw[aE]
 exact Ef s hb hl _ s.length 0 _ (by omega) (by omega)
theorem Eg(s:List Int)(hb:aQ s)(hl:s.length≤8)(K:Int→Option Int):∀(k i m:Nat),i+k=s.length→k<m→dX s K m (pre s i,(i:Int))=K (pre s s.length):=by
 intro k
 induction k with
 |zero=>
  intro i m hi hm
  cases m with
  |zero=>omega
  |succ m=>
   rw[dX,if_neg (by simp;omega)]
   show K (pre s i)=_
   rw[show i=s.length by omega]
 |succ k ih=>
  intro i m hi hm
  cases m with
  |zero=>omega
  |succ m=>
   rw[dX]
   simp only[aE]
   rw[if_pos (by simp;omega),if_pos (by omega),qx hb (by omega),aM (by omega) (by omega)]
   exact ih (i+1) m (by omega) (by omega)
theorem EO(s:List Int)(hb:aQ s)(hl:s.length≤8):io s=some (pre s s.length):=by
 unfold io
 rw[aE]
 exact Eg s hb hl _ s.length 0 _ (by omega) (by omega)
theorem HO(n:Int):0≤IntKind.wrap .u8 n∧IntKind.wrap .u8 n<256:=by rw[nA];omega
theorem EP(n:Int):0≤IntKind.wrap .u16 n∧IntKind.wrap .u16 n<65536:=by
 have:IntKind.wrap .u16 n=n % 65536:=by
  simp only[IntKind.wrap,IntKind.bits,IntKind.signed,Bool.false_and,Bool.false_eq_true,if_false];rfl
 omega
theorem G3(n:Int):0≤IntKind.wrap .u32 n∧IntKind.wrap .u32 n<4294967296:=by
 have:IntKind.wrap .u32 n=n % 4294967296:=by
  simp only[IntKind.wrap,IntKind.bits,IntKind.signed,Bool.false_and,Bool.false_eq_true,if_false];rfl
 omega
theorem Bl(U:Nat)(hU:U<256):pre (be U 1) 1=U:=by
 have e:be U 1=[((U/1 % 256:Nat):Int)]:=rfl
 rw[e];simp only[pre,List.getD_cons_zero];omega
theorem sE(U:Nat)(hU:U<65536):pre (be U 2) 2=U:=by
 have e:be U 2=[((U/256 % 256:Nat):Int),((U/1 % 256:Nat):Int)]:=rfl
 rw[e];simp only[pre,List.getD_cons_zero,List.getD_cons_succ];omega
theorem Bm(U:Nat)(hU:U<4294967296):pre (be U 4) 4=U:=by
 have e:be U 4=[((U/16777216 % 256:Nat):Int),((U/65536 % 256:Nat):Int),((U/256 % 256:Nat):Int),((U/1 % 256:Nat):Int)]:=rfl
 rw[e];simp only[pre,List.getD_cons_zero,List.getD_cons_succ];omega
theorem rU8(r:RT)(h:RG r):∃(v:Int) (r':RT),cy r=some (v,r')∧RG r'∧r'.1.length≤r.1.length∧0≤v∧v<256:=by
 obtain⟨t,r',h1,h2,h3,h4,h5⟩:=tw r 1 1 rfl h
 unfold cy
 rw[h1,ao,Gs t h4 (by omega),ao]
 exact⟨_,_,rfl,h2,h3,HO _⟩
theorem dU8(v:Nat)(hv:v<256)(tl:List Int):cy (be v 1++tl,0,())=some ((v:Int),tl,0,()):=by
 unfold cy
 rw[tx (be v 1) tl 1 (by rw[aD];rfl),ao,Gs _ (kI v 1) (by rw[aD];omega),ao,aD,Bl v hv,oP (by omega) (by omega)]
theorem HP(r:RT)(h:RG r):∃(v:Int) (r':RT),cP r=some (v,r')∧RG r'∧r'.1.length≤r.1.length∧0≤v∧v<65536:=by
 obtain⟨t,r',h1,h2,h3,h4,h5⟩:=tw r 2 2 rfl h
 unfold cP
 rw[h1,ao,wL t h4 (by omega),ao]
 exact⟨_,_,rfl,h2,h3,EP _⟩
theorem Gt(v:Nat)(hv:v<65536)(tl:List Int):cP (be v 2++tl,0,())=some ((v:Int),tl,0,()):=by
 unfold cP
 rw[tx (be v 2) tl 2 (by rw[aD];rfl),ao,wL _ (kI v 2) (by rw[aD];omega),ao,aD,sE v hv,oO (by omega) (by omega)]
theorem HQ(r:RT)(h:RG r):∃(v:Int) (r':RT),fE r=some (v,r')∧RG r'∧r'.1.length≤r.1.length∧0≤v∧v<4294967296:=by
 obtain⟨t,r',h1,h2,h3,h4,h5⟩:=tw r 4 4 rfl h
 unfold fE
 rw[h1,ao,EN t h4 (by omega),ao]
 exact⟨_,_,rfl,h2,h3,G3 _⟩
theorem HR(v:Nat)(hv:v<4294967296)(tl:List Int):fE (be v 4++tl,0,())=some ((v:Int),tl,0,()):=by
 unfold fE
 rw[tx (be v 4) tl 4 (by rw[aD];rfl),ao,EN _ (kI v 4) (by rw[aD];omega),ao,aD,Bm v hv,zY (by omega) (by omega)]
theorem HS(r:RT)(h:RG r):∃(v:Int) (r':RT),bA r=some (v,r')∧RG r'∧r'.1.length≤r.1.length:=by
 obtain⟨t,r',h1,h2,h3,h4,h5⟩:=tw r 8 8 rfl h
 unfold bA
 rw[h1,ao,EO t h4 (by omega),ao]
 exact⟨_,_,rfl,h2,h3⟩
theorem B1(v:Int)(hv: -9223372036854775808≤v∧v≤9223372036854775807)(tl:List Int):bA (be (un v) 8++tl,0,())=some (v,tl,0,()):=by
 have e:pre (be (un v) 8) 8=(un v:Int):=by have:=zX (un v) (wK v) [];rwa [List.append_nil]at this
 unfold bA
 rw[tx (be (un v) 8) tl 8 (by rw[aD];rfl),ao,EO _ (kI _ 8) (by rw[aD];omega),ao,aD,e,xk hv]
theorem Eh(n:Nat)(t:List Int)(ht:t.length≤n):(cb (List.replicate n (0:Int)) 0 t).length=n:=by
 simp[cb];omega
theorem Dc(t:List Int):cb (List.replicate t.length (0:Int)) 0 t=t:=by
 simp[cb]
theorem G4(r:RT)(h:RG r):∃(v:List Int) (r':RT),ce r=some (v,r')∧RG r'∧r'.1.length≤r.1.length∧v.length=32:=by
 obtain⟨t,r',h1,h2,h3,h4,h5⟩:=tw r 32 32 rfl h
 unfold ce
 rw[h1,ao]
 exact⟨_,_,rfl,h2,h3,Eh 32 t h5⟩
theorem vq(v:List Int)(hv:v.length=32)(tl:List Int):ce (v++tl,0,())=some (v,tl,0,()):=by
 unfold ce
 rw[tx v tl 32 (by rw[hv];rfl),ao]
 have:=Dc v
 rw[hv]at this
 show some (cb (List.replicate 32 (0:Int)) 0 v,tl,0,())=_
 rw[this]
theorem G5(r:RT)(h:RG r)(n:Int):∃(v:List Int) (r':RT),eP r n=some (v,r')∧RG r'∧r'.1.length≤r.1.length:=by
 have key:∀r:RT,RG r→∃(v:List Int) (r':RT),((cm r 2).bind λr3=>(dK r3.1).bind λr4=>(cm r3.2 (IntKind.wrap .i64 r4)).bind λr5=>some (r5.1,r5.2))=some (v,r')∧RG r'∧r'.1.length≤r.1.length:=λr h=>by
  obtain⟨t,r',h1,h2,h3,h4,h5⟩:=tw r 2 2 rfl h
  rw[h1,ao,wL t h4 (by omega),ao]
  have hw:=EP (pre t t.length)
  obtain⟨t2,r2,g1,g2,g3,g4,g5⟩:=tw r' (IntKind.wrap .u16 (pre t t.length)).toNat (IntKind.wrap .i64 (IntKind.wrap .u16 (pre t t.length))) (by rw[aM (by omega) (by omega)];omega) h2
  rw[g1,ao]
  exact⟨_,_,rfl,g2,Nat.le_trans g3 h3⟩
 unfold eP
 simp only[aE]
 split
 ·rename_i hb
  have hl:2≤r.1.length:=by simp only[Bool.and_eq_true,decide_eq_true_eq]at hb;omega
  rw[if_pos (by omega)]
  have hbt:aQ (List.drop 0 (List.take 2 r.1)):=mj (ml h _) _
  rw[wL _ hbt (by simp;omega),ao]
  split
  ·unfold gk
   rw[ao]
   obtain⟨v,r',h1,h2,h3⟩:=key ([],3,r.2.2) (uJ)
   exact⟨v,r',h1,h2,by simp at h3;simp[h3]⟩
  ·exact key r h
 ·rw[if_neg (by simp)]
  exact key r h
theorem G6(t:List Int)(ht:t.length≤64)(tl:List Int):eP (be t.length 2++(t++tl),0,()) 64=some (t,tl,0,()):=by
 have e:pre (be t.length 2) 2=(t.length:Int):=sE _ (by omega)
 have ed:List.drop 0 (List.take 2 (be t.length 2++(t++tl)))=be t.length 2:=by
  rw[List.drop_zero,List.take_append_of_le_length (by rw[aD];omega),List.take_of_length_le (by rw[aD];omega)]
 have ev:dK (be t.length 2)=some (t.length:Int):=by
  rw[wL _ (kI _ 2) (by rw[aD];omega),aD,e,oO (by omega) (by omega)]
 unfold eP
 simp only[aE]
 rw[if_pos (by simp[aD];omega),if_pos (by simp[aD];omega),ed,ev,ao,if_neg (by rw[aM (by omega) (by omega)];simp;omega)]
 rw[tx (be t.length 2) (t++tl) 2 (by rw[aD];rfl),ao,ev,ao,tx t tl _ (by rw[aM (by omega) (by omega)]),ao]
theorem nC{α β:Type}{f:α→Option β}{g:(α→Option β)→Option β}{P:β→Prop}(Q:α→Prop)(hf:∀o,Q o→∃x,f o=some x∧P x)(hg:∀k,(∀o,Q o→∃x,k o=some x∧P x)→∃x,g k=some x∧P x):∃x,bnd f g=some x∧P x:=by
 rw[aE];exact hg f hf
theorem qj{α β:Type}{a:α}{f:α→Option β}{P:β→Prop}(h:∃x,f a=some x∧P x):∃x,bnd a f=some x∧P x:=by
 rw[aE];exact h
theorem aR{α β:Type}{x:Option α}{f:α→Option β}{Q:α→Prop}{P:β→Prop}(h:∃y,x=some y∧Q y)(g:∀y,Q y→∃z,f y=some z∧P z):∃z,x.bind f=some z∧P z:=by
 obtain⟨y,hy,hq⟩:=h
 rw[hy,ao];exact g y hq
def RN(r:RT)(n:Nat):Prop:=aQ r.1∧r.1.length≤n
theorem tU8{r:RT}{n:Nat}(h:RN r n):∃y,cy r=some y∧(RN y.2 n∧0≤y.1∧y.1<256):=by
 obtain⟨v,r',a,b,c,d⟩:=rU8 r h.1
 exact⟨_,a,⟨b,Nat.le_trans c h.2⟩,d⟩
theorem Gu{r:RT}{n:Nat}(h:RN r n):∃y,cP r=some y∧(RN y.2 n∧0≤y.1∧y.1<65536):=by
 obtain⟨v,r',a,b,c,d⟩:=HP r h.1
 exact⟨_,a,⟨b,Nat.le_trans c h.2⟩,d⟩
theorem HT{r:RT}{n:Nat}(h:RN r n):∃y,fE r=some y∧(RN y.2 n∧0≤y.1∧y.1<4294967296):=by
 obtain⟨v,r',a,b,c,d⟩:=HQ r h.1
 exact⟨_,a,⟨b,Nat.le_trans c h.2⟩,d⟩
theorem rp{r:RT}{n:Nat}(h:RN r n):∃y,bA r=some y∧RN y.2 n:=by
 obtain⟨v,r',a,b,c⟩:=HS r h.1
 exact⟨_,a,b,Nat.le_trans c h.2⟩
theorem vr{r:RT}{n:Nat}(h:RN r n):∃y,ce r=some y∧(RN y.2 n∧y.1.length=32):=by
 obtain⟨v,r',a,b,c,d⟩:=G4 r h.1
 exact⟨_,a,⟨b,Nat.le_trans c h.2⟩,d⟩
theorem G7{r:RT}{n:Nat}(h:RN r n)(m:Int):∃y,eP r m=some y∧RN y.2 n:=by
 obtain⟨v,r',a,b,c⟩:=G5 r h.1 m
 exact⟨_,a,b,Nat.le_trans c h.2⟩
theorem Ei{r:RT}{n:Nat}(h:RN r n):∃y,cZ r=some y∧(RN y.2 n∧y.1=r.2.1∧y.2=r):=⟨_,rfl,h,rfl,rfl⟩
theorem EQ{r:RT}{n:Nat}(h:RN r n):∃y,cR r=some y∧(RN y.2 n∧aQ y.1∧y.1.length≤n):=⟨_,rfl,h,h.1,h.2⟩
theorem HU(b:List Int)(hb:aQ b)(hl:b.length<4611686018427387904):∃x,gA b=some x∧(x.1.2.2.2.1.length=32∧0≤x.2.1∧x.2.1≤b.length):=by
 have hz:(List.replicate 32 (0:Int)).length=32:=by simp
 unfold gA dx
 rw[ao]
 refine aR (tU8 (n:=b.length) ⟨hb,Nat.le_refl _⟩) λr6 h6=>?_
 refine aR (Ei h6.1) λr8 h8=>?_
 refine qj ?_
 refine nC (λ_=>True) (λo11 _=>?_) λk10 hk=>?_
 ·split
  ·exact⟨_,rfl,hz,by simp,by simp⟩
  ·refine aR (Gu h8.1) λr13 h13=>?_
   refine nC (λo=>RN o.1 b.length∧o.2.2.2.2.1.length=32) (λo15 h15=>?_) λk14 hk14=>?_
   ·refine aR (Ei h15.1) λr16 h16=>?_
    split
    ·unfold nW
     split
     ·exact⟨_,rfl,hz,by simp,by simp⟩
     ·exact⟨_,rfl,hz,by simp,by simp⟩
    ·rw[tq,ao]
     split
     ·exact⟨_,rfl,hz,by simp,by simp⟩
     ·rw[aE]
      refine aR (EQ h16.1) λr21 h21=>?_
      refine⟨_,rfl,h15.2,?_⟩
      have:=h21.2.2
      show 0≤IntKind.wrap .i64 ((List.length b:Int) - (List.length r21.1:Int))∧IntKind.wrap .i64 ((List.length b:Int) - (List.length r21.1:Int))≤_
      rw[aM (by omega) (by omega)]
      omega
   ·split
    ·refine aR (rp h13.1) λr22 h22=>?_
     refine aR (vr h22) λr23 h23=>?_
     exact hk14 _ ⟨h23.1,h23.2⟩
    ·split
     ·refine aR (vr h13.1) λr24 h24=>?_
      exact hk14 _ ⟨h24.1,h24.2⟩
     ·split
      ·refine aR (G7 h13.1 64) λr25 h25=>?_
       exact hk14 _ ⟨h25,hz⟩
      ·exact hk14 _ ⟨h13.1,hz⟩
 ·split
  ·refine qj ?_
   exact hk _ trivial
  ·exact hk _ trivial
theorem HV(u:UT)(hu:Uok u)(tl:List Int)(hl:(uB u++tl).length<4611686018427387904):gA (uB u++tl)=some (u,(List.length (uB u):Int),0):=by
 obtain⟨k,id,am,hs,nt,⟨⟩⟩:=u
 replace hl:(uB (k,id,am,hs,nt,())++tl).length<4611686018427387904:=hl
 show gA (uB (k,id,am,hs,nt,())++tl)=some ((k,id,am,hs,nt,()),(List.length (uB (k,id,am,hs,nt,())):Int),0)
 obtain⟨h0,h⟩:=qt hu.1
 have hv:=tq (k,id,am,hs,nt,())
 rw[show vU (k,id,am,hs,nt,())=true from hu.1]at hv
 have hh:hs.length=32:=hu.2
 simp only at h0 h
 have ek:IntKind.wrap .i64 ((k.toNat:Nat):Int)=k:=by rw[aM (by omega) (by omega)];omega
 have ei:IntKind.wrap .i64 ((id.toNat:Nat):Int)=id:=by rw[aM (by omega) (by omega)];omega
 have el:(uB (k,id,am,hs,nt,())++tl).length=(uB (k,id,am,hs,nt,())).length+tl.length:=List.length_append
 have ew:IntKind.wrap .i64 ((List.length (uB (k,id,am,hs,nt,())++tl):Int) - (List.length tl:Int))=(List.length (uB (k,id,am,hs,nt,())):Int):=by rw[aM (by omega) (by omega)];omega
 have hid:=Gt id.toNat (by omega)
 generalize hB:(List.length (uB (k,id,am,hs,nt,())):Int)=B at ew⊢
 rcases h with h|h|h
 ·obtain⟨rfl,ha,hb,rfl⟩:=h
  have e0:uB (1,id,am,hs,[],())++tl=be 1 1++(be id.toNat 2++(be (un am) 8++(hs++tl))):=by simp[uB]
  rw[e0]at ew⊢
  have hk:cy (be 1 1++(be id.toNat 2++(be (un am) 8++(hs++tl))),0,())=some (1,be id.toNat 2++(be (un am) 8++(hs++tl)),0,()):=dU8 1 (by omega) _
  have ek1:IntKind.wrap .i64 1=1:=by decide
  simp only[gA,dx,cZ,cR,aE,ao,hk,ek1,hid,ei,B1 am (by omega),vq hs hh,hv,ew]
  rfl
 ·obtain⟨rfl,rfl,rfl⟩:=h
  have e0:uB (2,id,0,hs,[],())++tl=be 2 1++(be id.toNat 2++(hs++tl)):=by simp[uB]
  rw[e0]at ew⊢
  have hk:cy (be 2 1++(be id.toNat 2++(hs++tl)),0,())=some (2,be id.toNat 2++(hs++tl),0,()):=dU8 2 (by omega) _
  have ek1:IntKind.wrap .i64 2=2:=by decide
  simp only[gA,dx,cZ,cR,aE,ao,hk,ek1,hid,ei,vq hs hh,hv,ew]
  rfl
 ·obtain⟨rfl,rfl,rfl,hn⟩:=h
  have e0:uB (3,id,0,List.replicate 32 (0:Int),nt,())++tl=be 3 1++(be id.toNat 2++(be nt.length 2++(nt++tl))):=by simp[uB]
  rw[e0]at ew⊢
  have hk:cy (be 3 1++(be id.toNat 2++(be nt.length 2++(nt++tl))),0,())=some (3,be id.toNat 2++(be nt.length 2++(nt++tl)),0,()):=dU8 3 (by omega) _
  have ek1:IntKind.wrap .i64 3=3:=by decide
  simp only[gA,dx,cZ,cR,aE,ao,hk,ek1,hid,ei,G6 nt hn,hv,ew]
  rfl
abbrev LR:=(Int×RT)×Bool×Unit
def RL(x:LR)(n:Nat):Prop:=x.1.1=0∧RN x.1.2 n
theorem qy{a:LR}{n:Nat}(h:RL a n):∃y,cv a=some y∧(RL y.2 n∧0≤y.1∧y.1<65536):=by
 unfold cv
 rw[if_pos h.1]
 refine aR (Gu h.2) λr7 h7=>⟨_,rfl,⟨h.1,h7.1⟩,?_⟩
 rw[aM (by omega) (by omega)]
 exact h7.2
theorem ER{a:LR}{n:Nat}(h:RL a n):∃y,fD a=some y∧RL y.2 n:=by
 unfold fD
 rw[if_pos h.1]
 exact aR (tU8 h.2) λr7 h7=>⟨_,rfl,h.1,h7.1⟩
theorem Dd(v:Nat)(hv:v<65536)(tl:List Int)(b:Bool):cv ((0,be v 2++tl,0,()),b,())=some ((v:Int),(0,tl,0,()),b,()):=by
 unfold cv
 rw[if_pos rfl,Gt v hv,ao,aM (by omega) (by omega)]
theorem ES(v:Bool)(tl:List Int)(b:Bool):fD ((0,be (fl v) 1++tl,0,()),b,())=some (v,(0,tl,0,()),b,()):=by
 unfold fD
 rw[if_pos rfl,dU8 (fl v) (by cases v<;>decide),ao]
 cases v<;>rfl
def LOk(n:Nat)(x:List UT×LR):Prop:=RL x.2 n∧∀u∈x.1,u.2.2.2.1.length=32
theorem Ej(n:Nat)(hn:n<4611686018427387904)(r7:Int×LR)(N:Nat)(hN:r7.1=(N:Int))(hN2:N<65536)(k4:LR×List UT→Option (List UT×LR))(hk:∀o,(RL o.1 n∧∀u∈o.2,u.2.2.2.1.length=32)→∃x,k4 o=some x∧LOk n x):
  ∀(c i m:Nat) (st:LR) (acc:List UT),i+c=N→c<m→acc.length=i→RL st n→(∀u∈acc,u.2.2.2.1.length=32)→∃x,da k4 r7 m ((i:Int),st,acc)=some x∧LOk n x:=by
 intro c
 induction c with
 |zero=>
  intro i m st acc hi hm ha hs hu
  cases m with
  |zero=>omega
  |succ m=>
   rw[da,if_neg (by rw[hN];simp;omega)]
   exact hk _ ⟨hs,hu⟩
 |succ c ih=>
  intro i m st acc hi hm ha hs hu
  cases m with
  |zero=>omega
  |succ m=>
   rw[da,if_pos (by rw[hN];simp;omega),if_pos hs.1]
   refine aR (EQ hs.2) λr17 h17=>?_
   refine aR (HU r17.1 h17.2.1 (by omega)) λr18 h18=>?_
   refine qj ?_
   refine nC (λo=>RN o.2 n) (λo22 h22=>?_) λk21 hk21=>?_
   ·split
    ·exact⟨_,rfl,⟨hs.1,h22⟩,λu hu=>by cases hu⟩
    ·rw[if_pos (by simp;omega),if_pos (by omega)]
     unfold dx
     rw[ao,aM (by omega) (by omega)]
     refine ih (i+1) m _ _ (by omega) (by omega) (by simp;omega) ⟨hs.1,?_,?_⟩ λu hu'=>?_
     ·exact mj (ml h17.2.1 _) _
     ·show(List.drop _ (List.take _ r17.1)).length≤n
      simp only[List.length_drop,List.length_take];omega
     ·rcases List.mem_append.1 hu' with h|h
      ·exact hu u h
      ·obtain rfl:=List.mem_singleton.1 h;exact h18.1
   ·split
    ·exact hk21 _ h17.1
    ·exact aR (Ei h17.1) λr23 h23=>hk21 _ h23.1
theorem ET{a:LR}{n:Nat}(hn:n<4611686018427387904)(h:RL a n):∃y,fC a=some y∧LOk n y:=by
 unfold fC
 refine nC (λo=>RL o.1 n∧∀u∈o.2,u.2.2.2.1.length=32) (λo ho=>⟨_,rfl,ho⟩) λk4 hk=>?_
 refine aR (qy h) λr7 h7=>?_
 have e:r7.1=((r7.1.toNat:Nat):Int):=by omega
 exact Ej n hn r7 r7.1.toNat e (by omega) k4 hk r7.1.toNat 0 _ r7.2 [] (by omega) (by omega) rfl h7.1 λu hu=>by cases hu
theorem Ek(l:List UT)(hl:l.length≤2048)(hu:∀u∈l,Uok u)(tl:List Int)(ht:tl.length<4000000000000000000)(b:Bool)(r7:Int×LR)(hN:r7.1=(l.length:Int))(k4:LR×List UT→Option (List UT×LR)):
  ∀(c i m:Nat),i+c=l.length→c<m→da k4 r7 m ((i:Int),((0,(l.drop i).flatMap uB++tl,0,()),b,()),l.take i)=k4 (((0,tl,0,()),b,()),l):=by
 intro c
 induction c with
 |zero=>
  intro i m hi hm
  cases m with
  |zero=>omega
  |succ m=>
   rw[da,if_neg (by rw[hN];simp;omega),List.drop_eq_nil_of_le (by omega),List.take_of_length_le (by omega)]
   rfl
 |succ c ih=>
  intro i m hi hm
  cases m with
  |zero=>omega
  |succ m=>
   have hlt:i<l.length:=by omega
   have hui:=hu l[i] (List.getElem_mem hlt)
   have ub:=qu hui.1 hui.2
   have ed:(l.drop i).flatMap uB++tl=uB l[i]++((l.drop (i+1)).flatMap uB++tl):=by
    rw[List.drop_eq_getElem_cons hlt];simp only[List.flatMap_cons,List.append_assoc]
   have h2:=iO uB 100 (l.drop (i+1)) λu hu'=>by have:=hu u (List.mem_of_mem_drop hu');exact qu this.1 this.2
   have h3:(l.drop (i+1)).length*100≤2048*100:=Nat.mul_le_mul_right _ (by simp;omega)
   have hlen:(uB l[i]++((l.drop (i+1)).flatMap uB++tl)).length<4611686018427387904:=by
    simp only[List.length_append];omega
   rw[da,if_pos (by rw[hN];simp;omega),if_pos rfl]
   unfold cR
   rw[ao,ed]
   simp only[aE]
   rw[HV _ hui _ hlen,ao,if_neg (by simp)]
   unfold cZ
   rw[ao,if_neg (by simp),if_pos (by simp;omega),if_pos (by simp;omega),aM (by omega) (by omega)]
   unfold dx
   rw[ao,Int.toNat_natCast,Int.toNat_natCast,List.take_of_length_le (Nat.le_refl _),List.drop_left' rfl]
   have et:l.take i++[l[i]]=l.take (i+1):=by rw[List.take_succ_eq_append_getElem hlt]
   rw[et]
   exact ih (i+1) m (by omega) (by omega)
theorem EU(l:List UT)(hl:l.length≤2048)(hu:∀u∈l,Uok u)(tl:List Int)(ht:tl.length<4000000000000000000)(b:Bool):fC ((0,ulB l++tl,0,()),b,())=some (l,(0,tl,0,()),b,()):=by
 unfold fC ulB
 rw[aE,List.append_assoc,Dd _ (by omega),ao]
 exact Ek l hl hu tl ht b _ rfl _ l.length 0 _ (by omega) (by omega)
abbrev SR:=Int×ST×Int
def SOk(n:Nat)(o:LR×List SlT):Prop:=RL o.1 n∧∀x∈o.2,x.2.1.length=32
theorem De(n:Nat)(P:SR→Prop)(k32:LR×List SlT→Option SR)(r47:Int×RT)(N:Nat)(hN:r47.1=(N:Int))(hN2:N<256)(hk:∀o,SOk n o→∃x,k32 o=some x∧P x):
  ∀(c i m:Nat) (st:LR) (acc:List SlT),i+c=N→c<m→acc.length=i→RL st n→(∀x∈acc,x.2.1.length=32)→∃x,fg k32 r47 m ((i:Int),st,acc)=some x∧P x:=by
 intro c
 induction c with
 |zero=>
  intro i m st acc hi hm ha hs hu
  cases m with
  |zero=>omega
  |succ m=>
   rw[fg,if_neg (by rw[hN,aM (by omega) (by omega)];simp;omega)]
   exact hk _ ⟨hs,hu⟩
 |succ c ih=>
  intro i m st acc hi hm ha hs hu
  cases m with
  |zero=>omega
  |succ m=>
   rw[fg,if_pos (by rw[hN,aM (by omega) (by omega)];simp;omega)]
   refine aR (ER hs) λr55 h55=>?_
   rw[if_pos h55.1]
   refine aR (rp h55.2) λr60 h60=>?_
   refine aR (vr h60) λr61 h61=>?_
   rw[if_pos (by simp;omega),aM (by omega) (by omega)]
   refine ih (i+1) m _ _ (by omega) (by omega) (by simp;omega) ⟨h55.1,h61.1⟩ λx hx=>?_
   rcases List.mem_append.1 hx with h|h
   ·exact hu x h
   ·obtain rfl:=List.mem_singleton.1 h;exact h61.2
theorem Df(l:List SlT)(hl:l.length≤49)(hu:∀x∈l,x.2.1.length=32∧0≤x.1∧x.1≤281474976710655)(tl:List Int)(b:Bool)(k32:LR×List SlT→Option SR)(r47:Int×RT)(hN:r47.1=(l.length:Int)):
  ∀(c i m:Nat),i+c=l.length→c<m→fg k32 r47 m ((i:Int),((0,(l.drop i).flatMap slB++tl,0,()),b,()),l.take i)=k32 (((0,tl,0,()),b,()),l):=by
 intro c
 induction c with
 |zero=>
  intro i m hi hm
  cases m with
  |zero=>omega
  |succ m=>
   rw[fg,if_neg (by rw[hN,aM (by omega) (by omega)];simp;omega),List.drop_eq_nil_of_le (by omega),List.take_of_length_le (by omega)]
   rfl
 |succ c ih=>
  intro i m hi hm
  cases m with
  |zero=>omega
  |succ m=>
   have hlt:i<l.length:=by omega
   have hui:=hu l[i] (List.getElem_mem hlt)
   have ed:(l.drop i).flatMap slB++tl=be (fl (l[i]).2.2.1) 1++(be (un (l[i]).1) 8++((l[i]).2.1++((l.drop (i+1)).flatMap slB++tl))):=by
    rw[List.drop_eq_getElem_cons hlt];simp only[List.flatMap_cons,List.append_assoc,slB]
   rw[fg,if_pos (by rw[hN,aM (by omega) (by omega)];simp;omega),ed]
   simp only[]
   rw[ES,ao,if_pos rfl,B1 _ (by omega),ao,vq _ hui.1,ao,if_pos (by simp;omega),aM (by omega) (by omega)]
   have et:l.take i++[((l[i]).1,(l[i]).2.1,(l[i]).2.2.1,())]=l.take (i+1):=by rw[List.take_succ_eq_append_getElem hlt]
   rw[et]
   exact ih (i+1) m (by omega) (by omega)
abbrev FRT:=List Int×Bool×Unit
def tk(r:FRT)(n:Nat):List Int×FRT:=if r.2.1=true∨r.1.length<n then(List.replicate n 0,(r.1,true,()))else(r.1.take n,(r.1.drop n,r.2))
theorem yy(r:FRT)(n:Nat)(hn:n≤100000):dk r (n:Int)=some (tk r n):=by
 unfold dk tk
 by_cases h:r.2.1=true∨r.1.length<n
 ·rw[if_pos (by rcases h with h|h<;>simp[h]),if_pos (by omega),if_pos h,Int.toNat_natCast]
 ·have h1:r.2.1=false:=by cases e:r.2.1<;>simp_all
  rw[if_neg (by rw[h1];simp;omega),if_neg h,if_pos (by omega),aE,if_pos (by omega),Int.toNat_natCast,Int.toNat_natCast,List.take_of_length_le (Nat.le_refl _),List.drop_zero]
theorem z7(r:FRT)(n:Nat):(tk r n).1.length=n:=by
 unfold tk
 split
 ·simp
 ·rename_i h;simp;omega
def RKF(r:FRT)(n:Nat):Prop:=aQ r.1∧r.1.length≤n
theorem nD{r:FRT}{n:Nat}(h:RKF r n)(k:Nat):aQ (tk r k).1∧RKF (tk r k).2 n:=by
 unfold tk
 split
 ·exact⟨λc hc=>by have:=(List.mem_replicate.1 hc).2;omega,h⟩
 ·exact⟨ml h.1 _,mj h.1 _,by have:=h.2;simp;omega⟩
theorem z8(a tl:List Int):tk (a++tl,false,()) a.length=(a,tl,false,()):=by
 unfold tk
 rw[if_neg (by simp),List.take_left' rfl,List.drop_left' rfl]
theorem FU(r3:List Int×FRT)(n:Nat)(hn:n≤8)(hb:aQ r3.1)(hl:r3.1.length=n)(K:Int→Option (Int×FRT)):∀(k i m:Nat),i+k=n→k<m→cY (n:Int) r3 K m (pre r3.1 i,(i:Int))=K (pre r3.1 n):=by
 intro k
 induction k with
 |zero=>
  intro i m hi hm
  cases m with
  |zero=>omega
  |succ m=>
   rw[cY,if_neg (by simp;omega)]
   rw[show i=n by omega]
 |succ k ih=>
  intro i m hi hm
  cases m with
  |zero=>omega
  |succ m=>
   rw[cY,if_pos (by simp;omega),if_pos (by omega),aE,aE,qx hb (by omega),aM (by omega) (by omega)]
   exact ih (i+1) m (by omega) (by omega)
theorem B3(r:FRT){N:Nat}(h:RKF r N)(n:Nat)(hn:n≤8):aA r (n:Int)=some (IntKind.wrap .i64 (pre (tk r n).1 n),(tk r n).2):=by
 unfold aA
 rw[yy r n (by omega),ao,aE]
 exact FU _ n hn (nD h n).1 (z7 r n) _ n 0 _ (by omega) (by omega)
theorem pL{r:FRT}{N:Nat}(h:RKF r N)(n:Nat)(hn:n≤8):∃y,aA r (n:Int)=some y∧RKF y.2 N:=⟨_,B3 r h n hn,(nD h n).2⟩
theorem yz{r:FRT}{N:Nat}(h:RKF r N):∃y,aA r 1=some y∧(RKF y.2 N∧0≤y.1∧y.1<256):=by
 refine⟨_,B3 r h 1 (by omega),(nD h 1).2,?_⟩
 have:=l9 (nD h 1).1 1
 simp only at this⊢
 rw[aM (by omega) (by omega)];omega
theorem G8{r:FRT}{N:Nat}(h:RKF r N):∃y,aA r 2=some y∧(RKF y.2 N∧0≤y.1∧y.1<65536):=by
 refine⟨_,B3 r h 2 (by omega),(nD h 2).2,?_⟩
 have:=l9 (nD h 2).1 2
 simp only at this⊢
 rw[aM (by omega) (by omega)];omega
theorem B4(V n:Nat)(hn:n≤8)(tl:List Int)(hV:pre (be V n) n=V)(hb:aQ tl):aA (be V n++tl,false,()) (n:Int)=some (IntKind.wrap .i64 V,tl,false,()):=by
 have h:=B3 (be V n++tl,false,()) (N:=(be V n++tl).length) ⟨λc hc=>(List.mem_append.1 hc).elim (kI _ _ c) (hb c),Nat.le_refl _⟩ n hn
 have e:=z8 (be V n) tl
 rw[aD]at e
 rw[e]at h
 rw[h,hV]
theorem B5(v:Int)(hv: -9223372036854775808≤v∧v≤9223372036854775807)(tl:List Int)(hb:aQ tl):aA (be (un v) 8++tl,false,()) 8=some (v,tl,false,()):=by
 have hp:pre (be (un v) 8) 8=(un v:Nat):=by have:=zX (un v) (wK v) [];rwa [List.append_nil]at this
 have:=B4 (un v) 8 (by omega) tl hp hb
 rwa [xk hv]at this
theorem yA(V:Nat)(hV:V<256)(tl:List Int)(hb:aQ tl):aA (be V 1++tl,false,()) 1=some ((V:Int),tl,false,()):=by
 have:=B4 V 1 (by omega) tl (Bl V hV) hb
 rwa [aM (by omega) (by omega)]at this
theorem B6(V:Nat)(hV:V<65536)(tl:List Int)(hb:aQ tl):aA (be V 2++tl,false,()) 2=some ((V:Int),tl,false,()):=by
 have:=B4 V 2 (by omega) tl (sE V hV) hb
 rwa [aM (by omega) (by omega)]at this
theorem G9(V:Nat)(hV:V<4294967296)(tl:List Int)(hb:aQ tl):aA (be V 4++tl,false,()) 4=some ((V:Int),tl,false,()):=by
 have:=B4 V 4 (by omega) tl (Bm V hV) hb
 rwa [aM (by omega) (by omega)]at this
theorem Aa(t:List Int)(i k:Nat)(x:Int)(h:i<t.length)(hx:x=t[i]):List.set (t.take i++List.replicate (k+1) 0) i x=t.take (i+1)++List.replicate k (0:Int):=by
 have hl:(t.take i).length=i:=by simp;omega
 have e1:List.set (t.take i++List.replicate (k+1) (0:Int)) i x=t.take i++List.set (List.replicate (k+1) (0:Int)) (i - (t.take i).length) x:=List.set_append_right _ _ (by omega)
 rw[e1,hl,Nat.sub_self,List.replicate_succ,List.set_cons_zero,List.take_succ_eq_append_getElem h,hx,List.append_assoc]
 rfl
theorem El(r3:List Int×FRT)(hl:r3.1.length=32)(K:List Int→Option (List Int×FRT)):∀(k i m:Nat),i+k=32→k<m→di r3 K m ((i:Int),r3.1.take i++List.replicate k 0)=K r3.1:=by
 intro k
 induction k with
 |zero=>
  intro i m hi hm
  cases m with
  |zero=>omega
  |succ m=>
   rw[di,if_neg (by simp;omega),List.take_of_length_le (by omega)]
   simp
 |succ k ih=>
  intro i m hi hm
  cases m with
  |zero=>omega
  |succ m=>
   rw[di,if_pos (by simp;omega),if_pos (by omega),if_pos (by omega),aE,aM (by omega) (by omega)]
   dsimp only
   rw[Int.toNat_natCast,Aa r3.1 i k _ (by omega) (by simp[List.getD,show i<r3.1.length by omega])]
   exact ih (i+1) m (by omega) (by omega)
theorem EV(r:FRT):cA r=some (tk r 32):=by
 unfold cA
 have e:dk r 32=some (tk r 32):=yy r 32 (by omega)
 rw[e,ao,aE]
 exact El (tk r 32) (z7 r 32) _ 32 0 _ (by omega) (by decide)
theorem wM{r:FRT}{N:Nat}(h:RKF r N):∃y,cA r=some y∧(RKF y.2 N∧y.1.length=32):=⟨_,EV r,(nD h 32).2,z7 r 32⟩
theorem wN(v tl:List Int)(hv:v.length=32):cA (v++tl,false,())=some (v,tl,false,()):=by
 have e:=z8 v tl
 rw[hv]at e
 rw[EV,e]
theorem Em{r:FRT}{N:Nat}(h:RKF r N):∃y,cF r=some y∧RKF y.2 N:=by
 unfold cF
 refine aR (pL h 2 (by omega)) λr3 h3=>?_
 refine aR (pL h3 2 (by omega)) λr4 h4=>?_
 exact⟨_,rfl,h4⟩
theorem En(a b:Int)(ha:0≤a∧a≤2048)(hb:0≤b∧b≤2048)(tl:List Int)(ht:aQ tl):cF (be a.toNat 2++(be b.toNat 2++tl),false,())=some ((a,b,()),tl,false,()):=by
 unfold cF
 rw[B6 _ (by omega) _ (λc hc=>(List.mem_append.1 hc).elim (kI _ _ c) (ht c)),ao,B6 _ (by omega) _ ht,ao]
 have e1:((a.toNat:Nat):Int)=a:=by omega
 have e2:((b.toNat:Nat):Int)=b:=by omega
 rw[e1,e2]
theorem Gv(s:List Int)(hb:aQ s)(hl:s.length≤8)(K:Int→Option Int):∀(k i m:Nat),i+k=s.length→k<m→eF s K m (pre s i,(i:Int))=K (pre s s.length):=by
 intro k
 induction k with
 |zero=>
  intro i m hi hm
  cases m with
  |zero=>omega
  |succ m=>
   rw[eF,if_neg (by simp;omega)]
   rw[show i=s.length by omega]
 |succ k ih=>
  intro i m hi hm
  cases m with
  |zero=>omega
  |succ m=>
   have h1:=l9 hb i
   have h2:=pY hb i
   have h3:(256:Nat)^i≤256^7:=Nat.pow_le_pow_right (by omega) (by omega)
   have h4:(256:Int)^i=((256^i:Nat):Int):=by simp
   have h5:(256:Nat)^7=72057594037927936:=by decide
   rw[h4]at h1
   rw[h5]at h3
   rw[eF,if_pos (by simp;omega),if_pos (by omega),aE,aE,aM (by omega) (by omega)]
   dsimp only
   rw[Int.toNat_natCast,je (n:=pre s i*256) (by omega) (by omega),je (n:=s.getD i 0) (by omega) (by omega),je (by omega) (by omega)]
   exact ih (i+1) m (by omega) (by omega)
theorem n03(s:List Int)(hb:aQ s)(hl:s.length≤8):fT s=some (pre s s.length):=by
 unfold fT
 rw[aE]
 exact Gv s hb hl _ s.length 0 _ (by omega) (by omega)
theorem Gw(s:List Int)(hl:s.length=32)(K:List Int→Option (List Int)):∀(k i m:Nat),i+k=32→k<m→fJ s K m ((i:Int),s.take i++List.replicate k 0)=K s:=by
 intro k
 induction k with
 |zero=>
  intro i m hi hm
  cases m with
  |zero=>omega
  |succ m=>
   rw[fJ,aE,if_neg (by simp;omega),List.take_of_length_le (by omega)]
   simp
 |succ k ih=>
  intro i m hi hm
  cases m with
  |zero=>omega
  |succ m=>
   rw[fJ,aE,if_pos (by simp;omega),if_pos (by omega),if_pos (by omega),aE,aM (by omega) (by omega)]
   dsimp only
   rw[Int.toNat_natCast,Aa s i k _ (by omega) (by simp[List.getD,show i<s.length by omega])]
   exact ih (i+1) m (by omega) (by omega)
theorem h12(s:List Int)(hl:s.length=32):iB s=some s:=by
 unfold iB
 rw[aE]
 exact Gw s hl _ 32 0 33 (by omega) (by omega)
theorem EW(b:List Int)(hb:aQ b)(hne:b≠[]):jU b=some (if b.getD 0 0=1 then 43 else if b.getD 0 0=2 then 35 else if b.getD 0 0≠3 then -1 else if b.length<5 then 0 else if pre (List.drop 3 (List.take 5 b)) 2>64 then -1 else 5+pre (List.drop 3 (List.take 5 b)) 2):=by
 have hpos:0<b.length:=List.length_pos_iff.2 hne
 have c0:(0:Int)≤0∧0<(List.length b:Int):=by omega
 unfold jU
 rw[if_pos c0]
 by_cases h1:b.getD 0 0=1
 ·rw[if_pos (c:=(b.getD 0 0==1)=true) (by simpa using h1),if_pos h1]
 ·rw[if_neg (c:=(b.getD 0 0==1)=true) (by simpa using h1),if_neg h1,if_pos c0]
  by_cases h2:b.getD 0 0=2
  ·rw[if_pos (c:=(b.getD 0 0==2)=true) (by simpa using h2),if_pos h2]
  ·rw[if_neg (c:=(b.getD 0 0==2)=true) (by simpa using h2),if_neg h2,if_pos c0]
   by_cases h3:b.getD 0 0=3
   ·rw[if_neg (c:=(b.getD 0 0 !=3)=true) (by simpa using h3),if_neg (c:=b.getD 0 0≠3) (by simpa using h3)]
    by_cases h5:b.length<5
    ·rw[if_pos (c:=decide ((List.length b:Int)<5)=true) (by rw[decide_eq_true_eq];omega),if_pos h5]
    ·have hs:(List.drop 3 (List.take 5 b)).length=2:=by simp;omega
     have hsb:aQ (List.drop 3 (List.take 5 b)):=mj (ml hb _) _
     have hbd:=l9 hsb 2
     rw[if_neg h5,if_neg (c:=decide ((List.length b:Int)<5)=true) (by simp;omega),if_pos (c:=(0:Int)≤3∧(3:Int)≤5∧5≤(List.length b:Int)) (by omega),n03 _ hsb (by omega),ao,hs]
     simp only[aE]
     rw[aM (by omega) (by omega)]
     by_cases h6:pre (List.drop 3 (List.take 5 b)) 2>64
     ·rw[if_pos (c:=decide (pre (List.drop 3 (List.take 5 b)) 2>64)=true) (by simpa using h6),if_pos h6]
     ·rw[if_neg (c:=decide (pre (List.drop 3 (List.take 5 b)) 2>64)=true) (by simpa using h6),if_neg h6,aM (by omega) (by omega)]
   ·rw[if_pos (c:=(b.getD 0 0 !=3)=true) (by simpa using h3),if_pos (c:=b.getD 0 0≠3) h3]
def UG(x:UT×Int×Int):Prop:=x.1.2.2.2.1.length=32∧0≤x.2.1∧x.2.1≤100
theorem wO(e:Int):UG ((0,0,0,(List.replicate 32 (0:Int)),[],()),0,e):=⟨by simp,by simp,by simp⟩
theorem rG(r4:Int)(h4:0≤r4∧r4≤100)(o:UT)(ho:o.2.2.2.1.length=32):∃x,((fA o).bind λr12=>if(!r12)=true then some ((0,0,0,(List.replicate 32 (0:Int)),[],()),0,120)else some (o,r4,(0:Int)))=some x∧UG x:=by
 rw[z6,ao]
 split
 ·exact⟨_,rfl,wO _⟩
 ·exact⟨_,rfl,ho,h4⟩
theorem Ha(b:List Int)(hb:aQ b):∃x,gJ b=some x∧UG x:=by
 unfold gJ
 by_cases hne:b=[]
 ·rw[if_pos (by simp[hne])];exact⟨_,rfl,wO _⟩
 ·rw[if_neg (by simpa using hne),EW b hb hne,ao]
  simp only[aE]
  generalize hz:(if b.getD 0 0=1 then(43:Int)else if b.getD 0 0=2 then 35 else if b.getD 0 0≠3 then -1 else if b.length<5 then 0 else if pre (List.drop 3 (List.take 5 b)) 2>64 then -1 else 5+pre (List.drop 3 (List.take 5 b)) 2)=z
  by_cases h0:z<0
  ·rw[if_pos (by simpa using h0)];exact⟨_,rfl,wO _⟩
  ·rw[if_neg (by simpa using h0)]
   by_cases h1:z=0∨(b.length:Int)<z
   ·rw[if_pos (by simpa using h1)];exact⟨_,rfl,wO _⟩
   ·rw[if_neg (by simpa using h1)]
    have hbd:aQ (List.drop 3 (List.take 5 b)):=mj (ml hb _) _
    have h4:=l9 hbd 2
    have hb0:=pY hb 0
    have hzz:(b.getD 0 0=1∧z=43)∨(b.getD 0 0=2∧z=35)∨(b.getD 0 0≠1∧b.getD 0 0≠2∧5≤z∧z≤69):=by
     split at hz
     ·exact .inl ⟨by assumption,by omega⟩
     ·split at hz
      ·exact .inr (.inl ⟨by assumption,by omega⟩)
      ·split at hz
       ·omega
       ·split at hz
        ·omega
        ·split at hz
         ·omega
         ·exact .inr (.inr ⟨by assumption,by assumption,by omega,by omega⟩)
    have hs1:(List.drop 1 (List.take 3 b)).length≤8:=by simp;omega
    rw[if_pos (by omega),if_pos (by omega),n03 _ (mj (ml hb _) _) hs1,ao]
    rcases hzz with⟨hc,hz⟩|⟨hc,hz⟩|⟨hc1,hc2,hz⟩
    ·rw[hc,if_pos (by decide),if_pos (by omega),n03 (List.drop 3 (List.take 11 b)) (mj (ml hb _) _) (by simp;omega),ao]
     split
     ·exact⟨_,rfl,wO _⟩
     ·rw[if_pos (by omega),h12 (List.drop 11 (List.take 43 b)) (by simp;omega),ao]
      exact rG z (by omega) _ (by simp;omega)
    ·rw[hc,if_neg (by decide),if_pos (by decide),if_pos (by omega),h12 (List.drop 3 (List.take 35 b)) (by simp;omega),ao]
     exact rG z (by omega) _ (by simp;omega)
    ·have e:IntKind.wrap .i64 (b.getD 0 0)=b.getD 0 0:=aM (by omega) (by omega)
     rw[e,if_neg (by simpa using hc1),if_neg (by simpa using hc2),if_pos (by omega)]
     exact rG z (by omega) _ (by simp)
theorem rG2(r4:Int)(o:UT)(ho:vU o=true):((fA o).bind λr12=>if(!r12)=true then some ((0,0,0,(List.replicate 32 (0:Int)),[],()),0,120)else some (o,r4,(0:Int)))=some (o,r4,0):=by
 rw[z6,ao,ho,if_neg (by simp)]
theorem be1(V:Nat)(h:V<256):be V 1=[(V:Int)]:=by simp[be];omega
theorem xm(V:Nat)(h:V<65536):pre (be V 2) (be V 2).length=V:=by rw[aD];exact sE V h
theorem FV(V:Nat)(h:V<18446744073709551616):pre (be V 8) (be V 8).length=V:=by have:=zX V h [];rw[List.append_nil]at this;rw[aD];exact this
theorem nE(p a t:List Int)(i j:Nat)(hi:i=p.length)(hj:j=p.length+a.length):List.drop i (List.take j (p++(a++t)))=a:=by
 subst hi;subst hj
 rw[←List.append_assoc,List.take_left' (by simp),List.drop_left' rfl]
theorem Hb(u:UT)(hu:Uok u)(tl:List Int)(hl:(uB u++tl).length<4611686018427387904):gJ (uB u++tl)=some (u,(List.length (uB u):Int),0)∨¬aQ (uB u++tl):=by
 by_cases hbk:aQ (uB u++tl)
 ·left
  obtain⟨k,id,am,hs,nt,⟨⟩⟩:=u
  obtain⟨h0,h⟩:=qt hu.1
  have hv:=hu.1
  have hh:hs.length=32:=hu.2
  simp only at h0 h
  have ei:IntKind.wrap .i64 ((id.toNat:Nat):Int)=id:=by rw[aM (by omega) (by omega)];omega
  have hne:uB (k,id,am,hs,nt,())++tl≠[]:=by
   intro h
   have:=congrArg List.length h
   simp[uB,aD]at this
  have hsz:=EW _ hbk hne
  unfold gJ
  rw[if_neg (by simpa using hne)]
  simp only[aE]
  rcases h with h|h|h
  ·obtain⟨rfl,ha,hb,rfl⟩:=h
   have e0:uB (1,id,am,hs,[],())++tl=[1]++(be id.toNat 2++(be (un am) 8++(hs++tl))):=by simp[uB,be1]
   have eL:(uB (1,id,am,hs,[],())++tl).length=43+tl.length:=by rw[e0];simp[aD,hh];omega
   have eB:(List.length (uB (1,id,am,hs,[],())):Int)=43:=by simp[uB,aD,hh]
   have c0:(uB (1,id,am,hs,[],())++tl).getD 0 0=1:=by rw[e0];rfl
   have c1:List.drop 1 (List.take 3 (uB (1,id,am,hs,[],())++tl))=be id.toNat 2:=by rw[e0];exact nE [1] _ _ 1 3 rfl (by simp[aD])
   have c2:List.drop 3 (List.take 11 (uB (1,id,am,hs,[],())++tl))=be (un am) 8:=by
    rw[e0,←List.append_assoc];exact nE _ _ _ 3 11 (by simp[aD]) (by simp[aD])
   have c3:List.drop 11 (List.take 43 (uB (1,id,am,hs,[],())++tl))=hs:=by
    rw[e0,←List.append_assoc,←List.append_assoc];exact nE _ _ _ 11 43 (by simp[aD]) (by simp[aD,hh])
   have ua:un am=am.toNat:=vp (by omega) (by omega)
   have ea:IntKind.wrap .i64 ((un am:Nat):Int)=am:=xk (by omega)
   have hgt:¬((un am:Nat):Int)>1152921504606846976:=by rw[ua];omega
   rw[eB]
   generalize hX:uB (1,id,am,hs,[],())++tl=X at*
   rw[c0,if_pos rfl]at hsz
   rw[hsz,ao,c0,if_neg (by decide),if_neg (by simp;omega),if_pos (by omega),if_pos (by omega),c1,n03 _ (kI _ _) (by simp[aD]),ao,xm _ (by omega),if_pos (by decide),if_pos (by omega),c2,n03 _ (kI _ _) (by simp[aD]),ao,FV _ (wK _),if_neg (by simpa using hgt),if_pos (by omega),c3,h12 hs hh,ao,ei,ea]
   exact rG2 43 _ hv
  ·obtain⟨rfl,rfl,rfl⟩:=h
   have e0:uB (2,id,0,hs,[],())++tl=[2]++(be id.toNat 2++(hs++tl)):=by simp[uB,be1]
   have eL:(uB (2,id,0,hs,[],())++tl).length=35+tl.length:=by rw[e0];simp[aD,hh];omega
   have eB:(List.length (uB (2,id,0,hs,[],())):Int)=35:=by simp[uB,aD,hh]
   have c0:(uB (2,id,0,hs,[],())++tl).getD 0 0=2:=by rw[e0];rfl
   have c1:List.drop 1 (List.take 3 (uB (2,id,0,hs,[],())++tl))=be id.toNat 2:=by rw[e0];exact nE [2] _ _ 1 3 rfl (by simp[aD])
   have c3:List.drop 3 (List.take 35 (uB (2,id,0,hs,[],())++tl))=hs:=by
    rw[e0,←List.append_assoc];exact nE _ _ _ 3 35 (by simp[aD]) (by simp[aD,hh])
   rw[eB]
   generalize hX:uB (2,id,0,hs,[],())++tl=X at*
   rw[c0,if_neg (by decide),if_pos rfl]at hsz
   rw[hsz,ao,c0,if_neg (by decide),if_neg (by simp;omega),if_pos (by omega),if_pos (by omega),c1,n03 _ (kI _ _) (by simp[aD]),ao,xm _ (by omega),if_neg (by decide),if_pos (by decide),if_pos (by omega),c3,h12 hs hh,ao,ei]
   exact rG2 35 _ hv
  ·obtain⟨rfl,rfl,rfl,hn⟩:=h
   have e0:uB (3,id,0,List.replicate 32 (0:Int),nt,())++tl=[3]++(be id.toNat 2++(be nt.length 2++(nt++tl))):=by simp[uB,be1]
   have eL:(uB (3,id,0,List.replicate 32 (0:Int),nt,())++tl).length=5+nt.length+tl.length:=by rw[e0];simp[aD];omega
   have eB:(List.length (uB (3,id,0,List.replicate 32 (0:Int),nt,())):Int)=5+(nt.length:Int):=by simp[uB,aD];omega
   have c0:(uB (3,id,0,List.replicate 32 (0:Int),nt,())++tl).getD 0 0=3:=by rw[e0];rfl
   have c1:List.drop 1 (List.take 3 (uB (3,id,0,List.replicate 32 (0:Int),nt,())++tl))=be id.toNat 2:=by rw[e0];exact nE [3] _ _ 1 3 rfl (by simp[aD])
   have c2:List.drop 3 (List.take 5 (uB (3,id,0,List.replicate 32 (0:Int),nt,())++tl))=be nt.length 2:=by
    rw[e0,←List.append_assoc];exact nE _ _ _ 3 5 (by simp[aD]) (by simp[aD])
   have c3:List.drop 5 (List.take (Int.toNat (5+(nt.length:Int))) (uB (3,id,0,List.replicate 32 (0:Int),nt,())++tl))=nt:=by
    rw[e0,←List.append_assoc,←List.append_assoc];exact nE _ _ _ 5 _ (by simp[aD]) (by simp[aD];omega)
   have p2:pre (be nt.length 2) 2=(nt.length:Int):=sE _ (by omega)
   rw[eB]
   generalize hX:uB (3,id,0,List.replicate 32 (0:Int),nt,())++tl=X at*
   rw[c0,c2,p2,if_neg (by decide),if_neg (by decide),if_neg (by decide),if_neg (by omega),if_neg (by omega)]at hsz
   rw[hsz,ao,c0,if_neg (by simp;omega),if_neg (by simp;omega),if_pos (by omega),if_pos (by omega),c1,n03 _ (kI _ _) (by simp[aD]),ao,xm _ (by omega),if_neg (by decide),if_neg (by decide),if_pos (by omega),c3,ei]
   exact rG2 _ _ hv
 ·exact .inr hbk
def LKF(n:Nat)(x:List UT×FRT):Prop:=RKF x.2 n∧∀u∈x.1,u.2.2.2.1.length=32
theorem FW(n:Nat)(r2:Int×FRT)(N:Nat)(hN:r2.1=(N:Int))(hN2:N<65536)(K:List UT×FRT→Option (List UT×FRT))(hk:∀o,(RKF o.2 n∧∀u∈o.1,u.2.2.2.1.length=32)→∃x,K o=some x∧LKF n x):
  ∀(c i m:Nat) (st:FRT) (acc:List UT),i+c=N→c<m→acc.length=i→RKF st n→(∀u∈acc,u.2.2.2.1.length=32)→∃x,bY r2 K m ((i:Int),st,acc)=some x∧LKF n x:=by
 intro c
 induction c with
 |zero=>
  intro i m st acc hi hm ha hs hu
  cases m with
  |zero=>omega
  |succ m=>
   rw[bY,aE,if_neg (by rw[hN];simp;omega)]
   exact hk _ ⟨hs,hu⟩
 |succ c ih=>
  intro i m st acc hi hm ha hs hu
  cases m with
  |zero=>omega
  |succ m=>
   rw[bY,aE]
   split
   ·refine aR (Ha _ hs.1) λr13 h13=>?_
    split
    ·exact⟨_,rfl,hs,λu hu=>by cases hu⟩
    ·obtain⟨z,hz⟩:∃z:Nat,r13.2.1=(z:Int):=⟨r13.2.1.toNat,by have:=h13.2.1;omega⟩
     have hz2:z≤100:=by have:=h13.2.2;omega
     rw[hz,yy _ z (by omega),ao,if_pos (by simp;omega),aE,aM (by omega) (by omega)]
     refine ih (i+1) m _ _ (by omega) (by omega) (by simp;omega) (nD hs z).2 λu hu'=>?_
     rcases List.mem_append.1 hu' with h|h
     ·exact hu u h
     ·obtain rfl:=List.mem_singleton.1 h;exact h13.1
   ·exact hk _ ⟨hs,hu⟩
theorem Gx{r:FRT}{n:Nat}(h:RKF r n):∃y,cS r=some y∧LKF n y:=by
 unfold cS
 refine aR (G8 h) λr2 h2=>?_
 rw[aE]
 obtain⟨N,hN⟩:∃N:Nat,r2.1=(N:Int):=⟨r2.1.toNat,by omega⟩
 exact FW n r2 N hN (by omega) _ (λo ho=>⟨_,rfl,ho⟩) N 0 _ _ _ (by omega) (by omega) rfl h2.1 λu hu=>by cases hu
theorem FX(l:List UT)(hl:l.length≤2048)(hu:∀u∈l,Uok u)(tl:List Int)(ht:tl.length<4000000000000000000)(r2:Int×FRT)(hN:r2.1=(l.length:Int))(K:List UT×FRT→Option (List UT×FRT)):
  ∀(c i m:Nat),i+c=l.length→c<m→aQ ((l.drop i).flatMap uB++tl)→bY r2 K m ((i:Int),((l.drop i).flatMap uB++tl,false,()),l.take i)=K (l,tl,false,()):=by
 intro c
 induction c with
 |zero=>
  intro i m hi hm hb
  cases m with
  |zero=>omega
  |succ m=>
   rw[bY,aE,if_neg (by rw[hN];simp;omega),List.drop_eq_nil_of_le (by omega),List.take_of_length_le (by omega)]
   rfl
 |succ c ih=>
  intro i m hi hm hb
  cases m with
  |zero=>omega
  |succ m=>
   have hlt:i<l.length:=by omega
   have hui:=hu l[i] (List.getElem_mem hlt)
   have ub:=qu hui.1 hui.2
   have ed:(l.drop i).flatMap uB++tl=uB l[i]++((l.drop (i+1)).flatMap uB++tl):=by
    rw[List.drop_eq_getElem_cons hlt];simp only[List.flatMap_cons,List.append_assoc]
   have h2:=iO uB 100 (l.drop (i+1)) λu hu'=>by have:=hu u (List.mem_of_mem_drop hu');exact qu this.1 this.2
   have h3:(l.drop (i+1)).length*100≤2048*100:=Nat.mul_le_mul_right _ (by simp;omega)
   have hlen:(uB l[i]++((l.drop (i+1)).flatMap uB++tl)).length<4611686018427387904:=by
    simp only[List.length_append];omega
   rw[ed]at hb
   have hd:=(Hb _ hui _ hlen).resolve_right (λh=>h hb)
   rw[bY,aE,if_pos (by rw[hN];simp;omega),ed,hd,ao,if_neg (by simp),yy _ _ (by omega),ao,z8,if_pos (by simp;omega),aE,aM (by omega) (by omega)]
   have et:l.take i++[l[i]]=l.take (i+1):=by rw[List.take_succ_eq_append_getElem hlt]
   dsimp only
   rw[et]
   exact ih (i+1) m (by omega) (by omega) λc hc=>hb c (List.mem_append_right _ hc)
theorem Gy(l:List UT)(hl:l.length≤2048)(hu:∀u∈l,Uok u)(tl:List Int)(ht:tl.length<4000000000000000000)(hb:aQ (ulB l++tl)):cS (ulB l++tl,false,())=some (l,tl,false,()):=by
 unfold cS
 unfold ulB at hb⊢
 rw[List.append_assoc]at hb⊢
 have hb2:aQ (l.flatMap uB++tl):=λc hc=>hb c (List.mem_append_right _ hc)
 rw[B6 _ (by omega) _ hb2,ao,aE]
 exact FX l hl hu tl ht _ rfl _ l.length 0 _ (by omega) (by omega) hb2
def SKF(n:Nat)(x:List SlT×FRT):Prop:=RKF x.2 n∧∀u∈x.1,u.2.1.length=32
theorem FY(n:Nat)(r2:Int×FRT)(N:Nat)(hN:r2.1=(N:Int))(hN2:N<256)(K:List SlT×FRT→Option (List SlT×FRT))(hk:∀o,SKF n o→∃x,K o=some x∧SKF n x):
  ∀(c i m:Nat) (st:FRT) (acc:List SlT),i+c=N→c<m→acc.length=i→RKF st n→(∀u∈acc,u.2.1.length=32)→∃x,cg r2 K m ((i:Int),st,acc)=some x∧SKF n x:=by
 intro c
 induction c with
 |zero=>
  intro i m st acc hi hm ha hs hu
  cases m with
  |zero=>omega
  |succ m=>
   rw[cg,aE,if_neg (by rw[hN];simp;omega)]
   exact hk _ ⟨hs,hu⟩
 |succ c ih=>
  intro i m st acc hi hm ha hs hu
  cases m with
  |zero=>omega
  |succ m=>
   rw[cg,aE]
   split
   ·refine aR (yz hs) λr13 h13=>qj ?_
    refine aR (pL h13.1 8 (by omega)) λr15 h15=>?_
    refine aR (wM h15) λr16 h16=>?_
    rw[if_pos (by simp;omega),aE,aM (by omega) (by omega)]
    refine ih (i+1) m _ _ (by omega) (by omega) (by simp;omega) h16.1 λu hu'=>?_
    rcases List.mem_append.1 hu' with h|h
    ·exact hu u h
    ·obtain rfl:=List.mem_singleton.1 h;exact h16.2
   ·exact hk _ ⟨hs,hu⟩
theorem HW{r:FRT}{n:Nat}(h:RKF r n):∃y,dG r=some y∧SKF n y:=by
 unfold dG
 refine aR (yz h) λr2 h2=>?_
 rw[aE]
 obtain⟨N,hN⟩:∃N:Nat,r2.1=(N:Int):=⟨r2.1.toNat,by omega⟩
 exact FY n r2 N hN (by omega) _ (λo ho=>⟨_,rfl,ho⟩) N 0 _ _ _ (by omega) (by omega) rfl h2.1 λu hu=>by cases hu
theorem FZ(l:List SlT)(hl:l.length≤49)(hu:∀x∈l,x.2.1.length=32∧0≤x.1∧x.1≤281474976710655)(tl:List Int)(r2:Int×FRT)(hN:r2.1=(l.length:Int))(K:List SlT×FRT→Option (List SlT×FRT)):
  ∀(c i m:Nat),i+c=l.length→c<m→aQ ((l.drop i).flatMap slB++tl)→cg r2 K m ((i:Int),((l.drop i).flatMap slB++tl,false,()),l.take i)=K (l,tl,false,()):=by
 intro c
 induction c with
 |zero=>
  intro i m hi hm hb
  cases m with
  |zero=>omega
  |succ m=>
   rw[cg,aE,if_neg (by rw[hN];simp;omega),List.drop_eq_nil_of_le (by omega),List.take_of_length_le (by omega)]
   rfl
 |succ c ih=>
  intro i m hi hm hb
  cases m with
  |zero=>omega
  |succ m=>
   have hlt:i<l.length:=by omega
   have hui:=hu l[i] (List.getElem_mem hlt)
   have ed:(l.drop i).flatMap slB++tl=be (fl l[i].2.2.1) 1++(be (un l[i].1) 8++(l[i].2.1++((l.drop (i+1)).flatMap slB++tl))):=by
    rw[List.drop_eq_getElem_cons hlt];simp only[List.flatMap_cons,slB,List.append_assoc]
   rw[ed]at hb
   have b1:aQ (be (un l[i].1) 8++(l[i].2.1++((l.drop (i+1)).flatMap slB++tl))):=λc hc=>hb c (List.mem_append_right _ hc)
   have b2:aQ (l[i].2.1++((l.drop (i+1)).flatMap slB++tl)):=λc hc=>b1 c (List.mem_append_right _ hc)
   have b3:aQ ((l.drop (i+1)).flatMap slB++tl):=λc hc=>b2 c (List.mem_append_right _ hc)
   have hf:fl l[i].2.2.1<256:=by unfold fl;split<;>omega
   rw[cg,aE,if_pos (by rw[hN];simp;omega),ed,yA _ hf _ b1,ao]
   simp only[aE]
   rw[B5 _ (by omega) _ b2,ao,wN _ _ hui.1,ao,if_pos (by simp;omega),aM (by omega) (by omega)]
   have et:l.take i++[(l[i].1,l[i].2.1,(((fl l[i].2.2.1:Nat):Int)==1),())]=l.take (i+1):=by
    rw[List.take_succ_eq_append_getElem hlt]
    obtain⟨x,y,z,⟨⟩⟩:=l[i]
    cases z<;>rfl
   dsimp only
   rw[et]
   exact ih (i+1) m (by omega) (by omega) b3
theorem HX(l:List SlT)(hl:l.length≤49)(hu:∀x∈l,x.2.1.length=32∧0≤x.1∧x.1≤281474976710655)(tl:List Int)(hb:aQ (l.flatMap slB++tl)):dG (be l.length 1++(l.flatMap slB++tl),false,())=some (l,tl,false,()):=by
 unfold dG
 rw[yA _ (by omega) _ hb,ao,aE]
 exact FZ l hl hu tl _ rfl _ l.length 0 _ (by omega) (by omega) hb
def zS:ST:=(0,0,0,0,[],[],0,0,0,(0,0,()),(0,0,()),(0,0,()),false,(List.replicate 2 ((List.replicate 32 (0:Int)):List (Int))),(List.replicate 32 (0:Int)),[],0,0,())
def eS:SR:=(0,zS,210)
def ROk(b:List Int)(x:SR):Prop:=x=eS∨(x.2.2=0∧Wf x.2.1∧ft x.1 x.2.1=some (b,0))
theorem Gz(n:Int){s:ST}(hw:Wf s):∃y,ft n s=some y∧ft n s=some y:=by
 by_cases hc:CanW n s
 ·exact⟨_,qv hw hc,qv hw hc⟩
 ·exact⟨_,qw hc,qw hc⟩
abbrev PS:=Int×Int×Int×Int×Unit×List UT×Int×Int×Int×(Int×Int×Unit)×(Int×Int×Unit)×(Int×Int×Unit)×Bool×List (List Int)×List Int×Unit×Int×Int×Unit
def POk(p:PS):Prop:=(∀u∈p.2.2.2.2.2.1,u.2.2.2.1.length=32)∧p.2.2.2.2.2.2.2.2.2.2.2.2.2.1=List.replicate 2 (List.replicate 32 (0:Int))
theorem EX(b:List Int)(hb:aQ b)(hl:b.length<4611686018427387904):∃x,hJ b=some x∧ROk b x:=by
 have h0:RN (b,0,()) b.length:=⟨hb,Nat.le_refl _⟩
 unfold hJ dx
 rw[ao]
 refine aR (rp h0) λr8 h8=>?_
 refine aR (tU8 h8) λr9 h9=>?_
 refine aR (rp h9.1) λr10 h10=>?_
 refine aR (rp h10) λr11 h11=>?_
 refine aR (rp h11) λr12 h12=>?_
 refine aR (ET hl (a:=((0,r12.2),false,())) ⟨rfl,h12⟩) λr13 h13=>?_
 refine nC (λo=>RL o.2 b.length∧POk o.1) (λo16 h16=>?_) λk15 hk15=>?_
 ·rw[if_pos h16.1.1]
  refine aR (rp h16.1.2) λr20 h20=>?_
  refine aR (rp h20) λr21 h21=>?_
  refine aR (rp h21) λr22 h22=>?_
  refine nC (λo=>RL o.1 b.length∧POk o.2) (λo24 h24=>?_) λk23 hk23=>?_
  ·refine aR (ER h24.1) λr25 h25=>?_
   rw[if_pos h25.1]
   refine aR (vr h25.2) λr29 h29=>?_
   refine aR (vr h29.1) λr30 h30=>?_
   refine aR (vr h30.1) λr31 h31=>?_
   rw[if_pos (by decide),if_pos (by decide)]
   refine nC (SOk b.length) (λo33 h33=>?_) λk32 hk32=>?_
   ·rw[if_pos h33.1.1]
    refine aR (HT h33.1.2) λr38 h38=>?_
    refine aR (rp h38.1) λr39 h39=>?_
    rw[h24.2.2]
    have hw:Wf (o24.2.1,o24.2.2.1,o24.2.2.2.1,o24.2.2.2.2.1,r13.1,o24.2.2.2.2.2.2.1,o24.2.2.2.2.2.2.2.1,o24.2.2.2.2.2.2.2.2.1,o24.2.2.2.2.2.2.2.2.2.1,o24.2.2.2.2.2.2.2.2.2.2.1,o24.2.2.2.2.2.2.2.2.2.2.2.1,o24.2.2.2.2.2.2.2.2.2.2.2.2.1,r25.1,(List.set (List.set (List.replicate 2 (List.replicate 32 (0:Int))) 0 r29.1) 1 r30.1),r31.1,o33.2,(IntKind.wrap .i64 r38.1),r39.1,o24.2.2.2.2.2.2.2.2.2.2.2.2.2.2.2.2.2.2.2):=
     ⟨h13.2,h24.2.1,h33.2,h29.2,h30.2,h31.2,rfl⟩
    refine aR (Gz r8.1 hw) λr40 h40=>?_
    refine nC (λ_=>True) (λo43 _=>?_) λk42 hk42=>?_
    ·refine qj ?_
     split
     ·exact⟨_,rfl,.inl rfl⟩
     ·rename_i hcond
      refine⟨_,rfl,.inr ⟨rfl,hw,?_⟩⟩
      have e1:r40.2=0:=by
       cases h:(r40.2 !=0)with
       |true=>rw[h]at hcond;simp at hcond
       |false=>simpa using h
      have e2:r40.1=b:=by
       cases h:(r40.1 !=b)with
       |true=>rw[h]at hcond;simp at hcond
       |false=>simpa using h
      rw[h40,←e1,←e2]
    ·split
     ·exact hk42 _ trivial
     ·have hd:∃y,fS r39.2=some y∧True:=by
       unfold fS
       refine qj ?_
       split
       ·exact⟨_,rfl,trivial⟩
       ·exact⟨_,rfl,trivial⟩
      exact aR hd λr44 _=>hk42 _ trivial
   ·refine aR (tU8 h31.1) λr47 h47=>?_
    have e:r47.1=((r47.1.toNat:Nat):Int):=by omega
    exact De b.length (ROk b) k32 r47 r47.1.toNat e (by omega) hk32 r47.1.toNat 0 _ _ [] (by omega) (by rw[aM (by omega) (by omega)];omega) rfl ⟨h25.1,h47.1⟩ λx hx=>by cases hx
  ·refine aR (qy (a:=((o16.2.1.1,r22.2),o16.2.2.1,o16.2.2.2)) ⟨h16.1.1,h22⟩) λr68 h68=>?_
   refine aR (qy h68.1) λr69 h69=>?_
   refine aR (qy h69.1) λr72 h72=>?_
   refine aR (qy h72.1) λr73 h73=>?_
   refine aR (qy h73.1) λr76 h76=>?_
   refine aR (qy h76.1) λr77 h77=>?_
   exact hk23 _ ⟨h77.1,h16.2.1,h16.2.2⟩
 ·split
  ·refine aR (ET hl h13.1) λr79 h79=>?_
   exact hk15 _ ⟨h79.1,h79.2,rfl⟩
  ·exact hk15 _ ⟨h13.1,(λu hu=>by cases hu),rfl⟩
theorem Dg:∀{q:List (List Int)},q.length=2→∃a b,q=[a,b]
 |[a,b],_=>⟨a,b,rfl⟩
 |[],h=>by simp at h
 |[_],h=>by simp at h
 |_::_::_::_,h=>by simp at h
set_option maxHeartbeats 2000000 in
theorem Hc(n:Int)(s:ST)(hw:Wf s)(hc:CanW n s)(tl:List Int)(ht:tl.length≤1):hJ (stB n s++tl)=some (if tl=[]then(n,s,0)else eS):=by
 have hwr:=qv hw hc
 obtain⟨p0,p1,hps⟩:=Dg hw.np
 have ho:∀u∈s.2.2.2.2.1,Uok u:=λu hu=>⟨hc.ours.2 u hu,hw.ours u hu⟩
 have hpe:∀u∈s.2.2.2.2.2.1,Uok u:=λu hu=>⟨hc.peers.2 u hu,hw.peers u hu⟩
 have lo:=nB hc.ours.1 ho
 have lp:=nB hc.peers.1 hpe
 have ls:=iO slB 41 (shf s) λx hx=>by simp[slB,aD,hw.shf x hx]
 have ls2:(shf s).length*41≤49*41:=Nat.mul_le_mul_right _ hc.shf.1
 have hsh:∀x∈shf s,x.2.1.length=32∧0≤x.1∧x.1≤281474976710655:=λx hx=>⟨hw.shf x hx,hc.shf.2 x hx⟩
 obtain⟨side,cap,bo,bp,ours,peers,loc,rem,ack,⟨a1,a2,⟨⟩⟩,⟨b1,b2,⟨⟩⟩,⟨c1,c2,⟨⟩⟩,beh,ps,sg,sh,fail,clo,⟨⟩⟩:=s
 replace hps:ps=[p0,p1]:=hps
 subst hps
 have hn:=hc.n;have hside:=hc.side;have hcap:=hc.cap;have hbo:=hc.bo;have hbp:=hc.bp;have hloc:=hc.loc;have hrem:=hc.rem;have hack:=hc.ack;have hfail:=hc.fail;have hclo:=hc.clo
 have hct:=hc.cts
 have hl1:=hc.ours.1;have hl2:=hc.peers.1;have hl3:=hc.shf.1
 have hp0:p0.length=32:=hw.p0
 have hp1:p1.length=32:=hw.p1
 have hsg:sg.length=32:=hw.sg
 simp only[cts,List.mem_cons,List.not_mem_nil,or_false,forall_eq_or_imp,forall_eq]at hct
 simp only at hn hside hcap hbo hbp hloc hrem hack hfail hclo hl1 hl2 hl3 ho hpe hsh lo lp
 obtain⟨ha1,ha2,hb1,hb2,hc1,hc2⟩:=hct
 replace hsh:∀x∈sh,x.2.1.length=32∧0≤x.1∧x.1≤281474976710655:=hsh
 replace hl3:sh.length≤49:=hl3
 replace ls:(sh.flatMap slB).length≤sh.length*41:=ls
 replace ls2:sh.length*41≤49*41:=ls2
 generalize hS:((side,cap,bo,bp,ours,peers,loc,rem,ack,(a1,a2,PUnit.unit),(b1,b2,PUnit.unit),(c1,c2,PUnit.unit),beh,[p0,p1],sg,sh,fail,clo,PUnit.unit):ST)=S at hwr⊢
 have e0:stB n S++tl=be (un n) 8++(be side.toNat 1++(be (un cap) 8++(be (un bo) 8++(be (un bp) 8++(ulB ours++(ulB peers++(be (un loc) 8++(be (un rem) 8++(be (un ack) 8++(be a1.toNat 2++(be a2.toNat 2++(be b1.toNat 2++(be b2.toNat 2++(be c1.toNat 2++(be c2.toNat 2++(be (fl beh) 1++(p0++(p1++(sg++(be sh.length 1++(sh.flatMap slB++(be fail.toNat 4++(be (un clo) 8++tl))))))))))))))))))))))):=by
  subst hS
  simp only[stB,cts,pt,pts,sig,shf,List.flatMap_cons,List.flatMap_nil,List.append_nil,List.append_assoc,List.getD_cons_zero,List.getD_cons_succ]
 have t64:∀(v:Int) (tl:List Int),0≤v∧v≤1152921504606846976→bA (be (un v) 8++tl,0,())=some (v,tl,0,()):=λv tl h=>B1 v (by omega) tl
 have cnt:∀(v:Int) (tl:List Int),0≤v∧v≤2048→cv ((0,be v.toNat 2++tl,0,()),false,())=some (v,(0,tl,0,()),false,()):=λv tl h=>by
  have:=Dd v.toNat (by omega) tl false
  rw[this];simp only[Option.some.injEq,Prod.mk.injEq,and_true];omega
 have e8:IntKind.wrap .i64 ((side.toNat:Nat):Int)=side:=by rw[aM (by omega) (by omega)];omega
 have e32:IntKind.wrap .i64 ((fail.toNat:Nat):Int)=fail:=by rw[aM (by omega) (by omega)];omega
 have hsl:∀(k32:LR×List SlT→Option SR) (rr:RT) (tl':List Int),fg k32 (((sh.length:Nat):Int),rr) (Int.toNat (IntKind.wrap .i64 ((sh.length:Nat):Int) - 0)+1) (0,((0,sh.flatMap slB++tl',0,()),false,()),[])=k32 (((0,tl',0,()),false,()),sh):=λk32 rr tl'=>by
  have:=Df sh hl3 hsh tl' false k32 (((sh.length:Nat):Int),rr) rfl sh.length 0 (Int.toNat (IntKind.wrap .i64 ((sh.length:Nat):Int) - 0)+1) (by omega) (by rw[aM (by omega) (by omega)];omega)
  simpa using this
 have q1:((0:Int)≤0∧(0:Int)<2)=True:=by simp
 have q2:((0:Int)≤1∧(1:Int)<2)=True:=by simp
 have hS2:((side,cap,bo,bp,ours,peers,loc,rem,ack,(a1,a2,()),(b1,b2,()),(c1,c2,()),beh,(List.set (List.set (List.replicate 2 (List.replicate 32 (0:Int))) 0 p0) 1 p1),sg,sh,fail,clo,()):ST)=S:=by rw[←hS];rfl
 have lT:(sh.flatMap slB++(be fail.toNat 4++(be (un clo) 8++tl))).length≤10000:=by simp only[List.length_append,aD];omega
 have hL1:=EU ours hl1 ho (ulB peers++(be (un loc) 8++(be (un rem) 8++(be (un ack) 8++(be a1.toNat 2++(be a2.toNat 2++(be b1.toNat 2++(be b2.toNat 2++(be c1.toNat 2++(be c2.toNat 2++(be (fl beh) 1++(p0++(p1++(sg++(be sh.length 1++(sh.flatMap slB++(be fail.toNat 4++(be (un clo) 8++tl)))))))))))))))))) (by simp only[List.length_append,aD]at lT⊢;omega) false
 have hL2:=EU peers hl2 hpe (be (un loc) 8++(be (un rem) 8++(be (un ack) 8++(be a1.toNat 2++(be a2.toNat 2++(be b1.toNat 2++(be b2.toNat 2++(be c1.toNat 2++(be c2.toNat 2++(be (fl beh) 1++(p0++(p1++(sg++(be sh.length 1++(sh.flatMap slB++(be fail.toNat 4++(be (un clo) 8++tl))))))))))))))))) (by simp only[List.length_append,aD]at lT⊢;omega) false
 have hdone:∀r:RT,r.2.1=0→fS r=some (if(r.1 !=[])=true then(4,r)else(0,r)):=λr hr=>by
  unfold fS
  rw[aE,hr]
  simp only[beq_self_eq_true,Bool.true_and]
  split<;>rfl
 have key:hJ (stB n S++tl)=(if(decide (tl≠[])||(stB n S !=stB n S++tl))=true then some eS else some (n,S,0)):=by
  generalize hX:stB n S++tl=X
  rw[e0]at hX
  unfold hJ dx
  rw[←hX,ao,t64 n _ hn,ao,dU8 _ (by omega),ao,t64 cap _ hcap,ao,t64 bo _ hbo,ao,t64 bp _ hbp,ao,hL1,ao,aE]
  simp only[Bool.not_false,if_true]
  rw[hL2,ao]
  simp only[if_true]
  rw[t64 loc _ (by omega),ao,t64 rem _ (by omega),ao,t64 ack _ (by omega),ao,aE]
  simp only[]
  rw[cnt a1 _ ha1,ao,cnt a2 _ ha2,ao,cnt b1 _ hb1,ao,cnt b2 _ hb2,ao,cnt c1 _ hc1,ao,cnt c2 _ hc2,ao]
  simp only[]
  rw[ES,ao,if_pos rfl,vq p0 hp0,ao,vq p1 hp1,ao,vq sg hsg,ao,if_pos (by simp),if_pos (by simp),aE]
  simp only[]
  rw[dU8 _ (by omega),ao,hsl]
  simp only[if_true]
  rw[HR _ (by omega),ao,B1 clo (by omega),ao,e8,e32,hS2,hwr,ao,aE]
  simp only[Bool.false_eq_true,if_false]
  rw[hdone _ rfl,ao]
  simp only[aE]
  rw[hX]
  by_cases htl:tl=[]
  ·subst htl
   simp[eS,zS]
  ·simp[htl,eS,zS]
 rw[key]
 by_cases htl:tl=[]
 ·subst htl
  simp
 ·rw[if_pos (by simp[htl]),if_neg htl]
theorem Eo(l:List UT)(hl:l.length<4611686018427387904)(K:Unit→Option Bool):∀(k i m:Nat),i+k=l.length→k<m→fK l l K m (i:Int)=K ():=by
 intro k
 induction k with
 |zero=>
  intro i m hi hm
  cases m with
  |zero=>omega
  |succ m=>rw[fK,if_neg (by simp;omega)]
 |succ k ih=>
  intro i m hi hm
  cases m with
  |zero=>omega
  |succ m=>
   have e:∀u:UT,eqD (.pair (.int .i64) (.pair (.int .i64) (.pair (.int .i64) (.pair (.arr 32 (.int .u8)) (.pair .str .unit))))) u u=true:=λu=>(lB (t:= .pair (.int .i64) (.pair (.int .i64) (.pair (.int .i64) (.pair (.arr 32 (.int .u8)) (.pair .str .unit))))) (by decide) u u).2 rfl
   rw[fK,if_pos (by simp;omega),if_pos (by omega),if_pos (by omega),e,if_neg (by simp),aE,aM (by omega) (by omega)]
   exact ih (i+1) m (by omega) (by omega)
theorem EY(l:List UT)(hl:l.length<4611686018427387904):iC l l=some true:=by
 unfold iC
 rw[if_neg (by simp),aE]
 exact Eo l hl _ l.length 0 _ (by omega) (by omega)
theorem Ep(s:ST)(hl:(shf s).length<4611686018427387904)(K:Unit→Option Bool):∀(k i m:Nat),i+k=(shf s).length→k<m→dH s s K m (i:Int)=K ():=by
 have hq:List.length s.2.2.2.2.2.2.2.2.2.2.2.2.2.2.2.1=(shf s).length:=rfl
 intro k
 induction k with
 |zero=>
  intro i m hi hm
  cases m with
  |zero=>omega
  |succ m=>rw[dH,if_neg (by simp;omega)]
 |succ k ih=>
  intro i m hi hm
  cases m with
  |zero=>omega
  |succ m=>
   have e:∀u:SlT,eqD (.pair (.int .i64) (.pair (.arr 32 (.int .u8)) (.pair .bool .unit))) u u=true:=λu=>(lB (t:= .pair (.int .i64) (.pair (.arr 32 (.int .u8)) (.pair .bool .unit))) (by decide) u u).2 rfl
   rw[dH,if_pos (by simp;omega),if_pos (by omega),if_pos (by omega),e,if_neg (by simp),aE,aM (by omega) (by omega)]
   exact ih (i+1) m (by omega) (by omega)
theorem xW(s:ST)(h1:s.2.2.2.2.1.length<4611686018427387904)(h2:s.2.2.2.2.2.1.length<4611686018427387904)(h3:(shf s).length<4611686018427387904):dN s s=some true:=by
 have e2:∀u:Int×Int×Unit,eqD (.pair (.int .i64) (.pair (.int .i64) .unit)) u u=true:=λu=>(lB (t:= .pair (.int .i64) (.pair (.int .i64) .unit)) (by decide) u u).2 rfl
 have e3:∀u:List (List Int),eqD (.arr 2 (.arr 32 (.int .u8))) u u=true:=λu=>(lB (t:= .arr 2 (.arr 32 (.int .u8))) (by decide) u u).2 rfl
 have e4:∀u:List Int,eqD (.arr 32 (.int .u8)) u u=true:=λu=>(lB (t:= .arr 32 (.int .u8)) (by decide) u u).2 rfl
 unfold dN
 simp only[aE,e2,e3,e4,bne_self_eq_false,Bool.or_false,Bool.not_true,Bool.false_eq_true,if_false]
 refine(Ep s h3 _ (shf s).length 0 _ (by omega) (Nat.lt_succ_self _)).trans ?_
 rw[EY _ h1,ao,if_pos rfl,EY _ h2,ao]
structure Bk(s:ST):Prop where
 ours:∀u∈s.2.2.2.2.1,aQ u.2.2.2.1∧aQ u.2.2.2.2.1
 peers:∀u∈s.2.2.2.2.2.1,aQ u.2.2.2.1∧aQ u.2.2.2.2.1
 shf:∀x∈shf s,aQ x.2.1
 p0:aQ (pt s 0)
 p1:aQ (pt s 1)
 sg:aQ (sig s)
theorem F0{n:Int}{s:ST}(hw:Wf s)(hc:CanW n s):(stB n s).length≤1000000∧1≤(stB n s).length:=by
 have lo:=nB hc.ours.1 λu hu=>⟨hc.ours.2 u hu,hw.ours u hu⟩
 have lp:=nB hc.peers.1 λu hu=>⟨hc.peers.2 u hu,hw.peers u hu⟩
 have ls:=iO slB 41 (shf s) λx hx=>by simp[slB,aD,hw.shf x hx]
 have ls2:(shf s).length*41≤49*41:=Nat.mul_le_mul_right _ hc.shf.1
 have lc:=iO (λc:Int=>be c.toNat 2) 2 (cts s) λc _=>by simp[aD]
 have lc2:(cts s).length=6:=rfl
 have h0:=hw.p0;have h1:=hw.p1;have h2:=hw.sg
 unfold stB
 simp only[List.length_append,aD]
 omega
abbrev HashOk(x:List Int):Prop:=List.length x=32∧∀c∈x,rng .u8 c
abbrev Dh(x:List Int):Prop:=aQ x∧List.length x≤140737488351232
abbrev UOk(u:UT):Prop:=rng .i64 u.1∧rng .i64 u.2.1∧rng .i64 u.2.2.1∧HashOk u.2.2.2.1∧Dh u.2.2.2.2.1∧True
abbrev HY(x:SlT):Prop:=rng .i64 x.1∧HashOk x.2.1∧True∧True
abbrev B7(x:Int×Int×Unit):Prop:=rng .i64 x.1∧rng .i64 x.2.1∧True
abbrev StOk(s:ST):Prop:=
 rng .i64 s.1∧rng .i64 s.2.1∧rng .i64 s.2.2.1∧rng .i64 s.2.2.2.1
 ∧(List.length s.2.2.2.2.1*72≤140737488351232∧∀u∈s.2.2.2.2.1,UOk u)
 ∧(List.length s.2.2.2.2.2.1*72≤140737488351232∧∀u∈s.2.2.2.2.2.1,UOk u)
 ∧rng .i64 s.2.2.2.2.2.2.1∧rng .i64 s.2.2.2.2.2.2.2.1∧rng .i64 s.2.2.2.2.2.2.2.2.1
 ∧B7 s.2.2.2.2.2.2.2.2.2.1∧B7 s.2.2.2.2.2.2.2.2.2.2.1∧B7 s.2.2.2.2.2.2.2.2.2.2.2.1∧True
 ∧(List.length s.2.2.2.2.2.2.2.2.2.2.2.2.2.1=2∧∀h∈s.2.2.2.2.2.2.2.2.2.2.2.2.2.1,HashOk h)
 ∧HashOk s.2.2.2.2.2.2.2.2.2.2.2.2.2.2.1
 ∧(List.length s.2.2.2.2.2.2.2.2.2.2.2.2.2.2.2.1*48≤140737488351232∧∀x∈s.2.2.2.2.2.2.2.2.2.2.2.2.2.2.2.1,HY x)
 ∧rng .i64 s.2.2.2.2.2.2.2.2.2.2.2.2.2.2.2.2.1∧rng .i64 s.2.2.2.2.2.2.2.2.2.2.2.2.2.2.2.2.2.1∧True
theorem HashOk.byte{x:List Int}(h:HashOk x):aQ x:=λc hc=>by
 have:=h.2 c hc
 simp only[rng,lo,Sx.hi]at this
 omega
theorem vu{l:List (List Int)}(h:List.length l=2∧∀x∈l,HashOk x){i:Nat}(hi:i<2)(d:List Int):HashOk (l.getD i d):=by
 refine h.2 _ ?_
 rw[List.getD_eq_getElem?_getD,List.getElem?_eq_getElem (by omega)]
 exact List.getElem_mem _
theorem Hd{s:ST}(h:StOk s):Wf s∧Bk s:=by
 obtain⟨_,_,_,_,⟨_,ho⟩,⟨_,hp⟩,_,_,_,_,_,_,_,hq,hs,⟨_,hl⟩,_⟩:=h
 exact⟨⟨λu hu=>(ho u hu).2.2.2.1.1,λu hu=>(hp u hu).2.2.2.1.1,λx hx=>(hl x hx).2.1.1,(vu hq (by omega) _).1,(vu hq (by omega) _).1,hs.1,hq.1⟩,
  ⟨λu hu=>⟨(ho u hu).2.2.2.1.byte,(ho u hu).2.2.2.2.1.1⟩,λu hu=>⟨(hp u hu).2.2.2.1.byte,(hp u hu).2.2.2.2.1.1⟩,λx hx=>(hl x hx).2.1.byte,(vu hq (by omega) _).byte,(vu hq (by omega) _).byte,hs.byte⟩⟩
set_option maxRecDepth 100000
theorem rq:jo=some true:=by kernel_rfl
def RKR(b:List Int)(x:SR):Prop:=x=eS∨(x.2.2=0∧Wf x.2.1∧CanW x.1 x.2.1∧stB x.1 x.2.1=b)
theorem GA(b:List Int)(hb:aQ b):∃x,fU b=some x∧RKR b x:=by
 have h0:RKF (b,false,()) b.length:=⟨hb,Nat.le_refl _⟩
 unfold fU
 refine aR (pL h0 8 (by omega)) λr5 h5=>?_
 refine aR (yz h5) λr6 h6=>?_
 refine aR (pL h6.1 8 (by omega)) λr7 h7=>?_
 refine aR (pL h7 8 (by omega)) λr8 h8=>?_
 refine aR (pL h8 8 (by omega)) λr9 h9=>?_
 refine aR (Gx h9) λr10 h10=>?_
 refine aR (Gx h10.1) λr12 h12=>?_
 refine aR (pL h12.1 8 (by omega)) λr14 h14=>?_
 refine aR (pL h14 8 (by omega)) λr15 h15=>?_
 refine aR (pL h15 8 (by omega)) λr16 h16=>?_
 refine aR (Em h16) λr17 h17=>?_
 refine aR (Em h17) λr18 h18=>?_
 refine aR (Em h18) λr19 h19=>?_
 refine aR (yz h19) λr20 h20=>?_
 refine aR (wM h20.1) λr21 h21=>?_
 rw[if_pos (by decide)]
 refine aR (wM h21.1) λr22 h22=>?_
 rw[if_pos (by decide)]
 refine aR (wM h22.1) λr23 h23=>?_
 refine aR (HW h23.1) λr24 h24=>?_
 refine aR (pL h24.1 4 (by omega)) λr26 h26=>?_
 refine aR (pL h26 8 (by omega)) λr27 h27=>?_
 have hw:Wf (r6.1,r7.1,r8.1,r9.1,r10.1,r12.1,r14.1,r15.1,r16.1,r17.1,r18.1,r19.1,(r20.1==1),(List.set (List.set (List.replicate 2 (List.replicate 32 (0:Int))) 0 r21.1) 1 r22.1),r23.1,r24.1,r26.1,r27.1,()):=
  ⟨h10.2,h12.2,h24.2,h21.2,h22.2,h23.2,rfl⟩
 by_cases hc:CanW r5.1 (r6.1,r7.1,r8.1,r9.1,r10.1,r12.1,r14.1,r15.1,r16.1,r17.1,r18.1,r19.1,(r20.1==1),(List.set (List.set (List.replicate 2 (List.replicate 32 (0:Int))) 0 r21.1) 1 r22.1),r23.1,r24.1,r26.1,r27.1,())
 ·rw[(uI r5.1 hw).1 hc,ao]
  simp only[aE]
  split
  ·exact⟨_,rfl,.inl rfl⟩
  ·rename_i hcond
   refine⟨_,rfl,.inr ⟨rfl,hw,hc,?_⟩⟩
   rw[Bool.or_eq_true,not_or]at hcond
   simpa using hcond.2
 ·rw[(uI r5.1 hw).2 hc,ao]
  simp only[aE]
  rw[if_pos (by simp)]
  exact⟨_,rfl,.inl rfl⟩
theorem jS{a b:List Int}(h:aQ (a++b)):aQ b:=λc hc=>h c (List.mem_append_right _ hc)
set_option maxHeartbeats 1000000 in
theorem GB(n:Int)(s:ST)(hw:Wf s)(hc:CanW n s)(hbk:aQ (stB n s)):fU (stB n s)=some (n,s,0):=by
 have hwr:=(uI n hw).1 hc
 obtain⟨p0,p1,hps⟩:=Dg hw.np
 have ho:∀u∈s.2.2.2.2.1,Uok u:=λu hu=>⟨hc.ours.2 u hu,hw.ours u hu⟩
 have hpe:∀u∈s.2.2.2.2.2.1,Uok u:=λu hu=>⟨hc.peers.2 u hu,hw.peers u hu⟩
 have lS:=(F0 hw hc).1
 have hsh:∀x∈shf s,x.2.1.length=32∧0≤x.1∧x.1≤281474976710655:=λx hx=>⟨hw.shf x hx,hc.shf.2 x hx⟩
 obtain⟨side,cap,bo,bp,ours,peers,loc,rem,ack,⟨a1,a2,⟨⟩⟩,⟨b1,b2,⟨⟩⟩,⟨c1,c2,⟨⟩⟩,beh,ps,sg,sh,fail,clo,⟨⟩⟩:=s
 replace hps:ps=[p0,p1]:=hps
 subst hps
 have hn:=hc.n;have hside:=hc.side;have hcap:=hc.cap;have hbo:=hc.bo;have hbp:=hc.bp;have hloc:=hc.loc;have hrem:=hc.rem;have hack:=hc.ack;have hfail:=hc.fail;have hclo:=hc.clo
 have hct:=hc.cts
 have hl1:=hc.ours.1;have hl2:=hc.peers.1;have hl3:=hc.shf.1
 have hp0:p0.length=32:=hw.p0
 have hp1:p1.length=32:=hw.p1
 have hsg:sg.length=32:=hw.sg
 simp only[cts,List.mem_cons,List.not_mem_nil,or_false,forall_eq_or_imp,forall_eq]at hct
 simp only at hn hside hcap hbo hbp hloc hrem hack hfail hclo hl1 hl2 hl3 ho hpe hsh
 obtain⟨ha1,ha2,hb1,hb2,hc1,hc2⟩:=hct
 replace hsh:∀x∈sh,x.2.1.length=32∧0≤x.1∧x.1≤281474976710655:=hsh
 replace hl3:sh.length≤49:=hl3
 generalize hS:((side,cap,bo,bp,ours,peers,loc,rem,ack,(a1,a2,PUnit.unit),(b1,b2,PUnit.unit),(c1,c2,PUnit.unit),beh,[p0,p1],sg,sh,fail,clo,PUnit.unit):ST)=S at hwr hbk lS⊢
 have e0:stB n S=be (un n) 8++(be side.toNat 1++(be (un cap) 8++(be (un bo) 8++(be (un bp) 8++(ulB ours++(ulB peers++(be (un loc) 8++(be (un rem) 8++(be (un ack) 8++(be a1.toNat 2++(be a2.toNat 2++(be b1.toNat 2++(be b2.toNat 2++(be c1.toNat 2++(be c2.toNat 2++(be (fl beh) 1++(p0++(p1++(sg++(be sh.length 1++(sh.flatMap slB++(be fail.toNat 4++(be (un clo) 8))))))))))))))))))))))):=by
  subst hS
  simp only[stB,cts,pt,pts,sig,shf,List.flatMap_cons,List.flatMap_nil,List.append_nil,List.append_assoc,List.getD_cons_zero,List.getD_cons_succ]
 have hS2:((side,cap,bo,bp,ours,peers,loc,rem,ack,(a1,a2,()),(b1,b2,()),(c1,c2,()),beh,(List.set (List.set (List.replicate 2 (List.replicate 32 (0:Int))) 0 p0) 1 p1),sg,sh,fail,clo,()):ST)=S:=by rw[←hS];rfl
 have k0:=hbk
 rw[e0]at k0
 have k1:=jS k0
 have k2:=jS k1
 have k3:=jS k2
 have k4:=jS k3
 have k5:=jS k4
 have k6:=jS k5
 have k7:=jS k6
 have k8:=jS k7
 have k9:=jS k8
 have k10:=jS k9
 have k11:=jS k10
 have k12:=jS k11
 have k13:=jS k12
 have k14:=jS k13
 have k15:=jS k14
 have k16:=jS k15
 have k17:=jS k16
 have k18:=jS k17
 have k19:=jS k18
 have k20:=jS k19
 have k21:=jS k20
 have k22:=jS k21
 have k23:=jS k22
 have t64:∀(v:Int) (tl:List Int),aQ tl→0≤v∧v≤1152921504606846976→aA (be (un v) 8++tl,false,()) 8=some (v,tl,false,()):=λv tl hb h=>B5 v (by omega) tl hb
 have e8:((side.toNat:Nat):Int)=side:=by omega
 have e32:((fail.toNat:Nat):Int)=fail:=by omega
 have hfl:fl beh<256:=by unfold fl;split<;>omega
 have last:aA (be (un clo) 8,false,()) 8=some (clo,[],false,()):=by
  have:=B5 clo (by omega) [] uJ
  rwa [List.append_nil]at this
 have q8:IntKind.wrap .i64 side=side:=aM (by omega) (by omega)
 have efl:((((fl beh:Nat):Int))==1)=beh:=by cases beh<;>rfl
 have hL1:=Gy ours hl1 ho (ulB peers++(be (un loc) 8++(be (un rem) 8++(be (un ack) 8++(be a1.toNat 2++(be a2.toNat 2++(be b1.toNat 2++(be b2.toNat 2++(be c1.toNat 2++(be c2.toNat 2++(be (fl beh) 1++(p0++(p1++(sg++(be sh.length 1++(sh.flatMap slB++(be fail.toNat 4++(be (un clo) 8)))))))))))))))))) (by have:=congrArg List.length e0;simp only[List.length_append]at this⊢;omega) k5
 have hL2:=Gy peers hl2 hpe (be (un loc) 8++(be (un rem) 8++(be (un ack) 8++(be a1.toNat 2++(be a2.toNat 2++(be b1.toNat 2++(be b2.toNat 2++(be c1.toNat 2++(be c2.toNat 2++(be (fl beh) 1++(p0++(p1++(sg++(be sh.length 1++(sh.flatMap slB++(be fail.toNat 4++(be (un clo) 8))))))))))))))))) (by have:=congrArg List.length e0;simp only[List.length_append]at this⊢;omega) k6
 generalize hX:stB n S=X at*
 unfold fU
 rw[e0,t64 n _ k1 hn,ao,yA _ (by omega) _ k2,ao,t64 cap _ k3 hcap,ao,t64 bo _ k4 hbo,ao,t64 bp _ k5 hbp,ao,hL1,ao,hL2,ao]
 rw[t64 loc _ k8 (by omega),ao,t64 rem _ k9 (by omega),ao,t64 ack _ k10 (by omega),ao]
 rw[En a1 a2 ha1 ha2 _ k12,ao,En b1 b2 hb1 hb2 _ k14,ao,En c1 c2 hc1 hc2 _ k16,ao]
 rw[yA _ hfl _ k17,ao,wN _ _ hp0,ao,if_pos (by decide),wN _ _ hp1,ao,if_pos (by decide),wN _ _ hsg,ao]
 rw[HX sh hl3 hsh _ k21,ao,G9 _ (by omega) _ k23,ao,last,ao,efl,e8,e32,hS2,hwr,ao]
 simp only[aE]
 rw[←e0,if_neg (by simp)]
theorem Az(text:List Int)(ht:aQ text)(hl:text.length<4611686018427387904):∃x,hJ text=some x∧fU text=some x:=by
 obtain⟨x,hx,hok⟩:=EX text ht hl
 obtain⟨y,hy,hyk⟩:=GA text ht
 refine⟨x,hx,?_⟩
 rcases hok with rfl|⟨e1,e2,e3⟩
 ·rcases hyk with rfl|⟨f1,f2,f3,f4⟩
  ·exact hy
  ·exfalso
   have:=Hc y.1 y.2.1 f2 f3 [] (by simp)
   rw[List.append_nil,f4,hx,if_pos rfl]at this
   have:=congrArg (λz:SR=>z.2.2) (Option.some.inj this)
   simp[eS]at this
 ·by_cases hcx:CanW x.1 x.2.1
  ·rw[qv e2 hcx]at e3
   have e4:stB x.1 x.2.1=text:=(Prod.mk.inj (Option.some.inj e3)).1
   have:=GB x.1 x.2.1 e2 hcx (by rw[e4];exact ht)
   rw[e4]at this
   rw[this,←e1]
  ·rw[qw hcx]at e3
   have:=congrArg Prod.snd (Option.some.inj e3)
   simp at this
theorem shl(s:ST):(s.2.2.2.2.2.2.2.2.2.2.2.2.2.2.2.1)=shf s:=rfl
theorem Di(x:SR)(text:List Int)(hl:text.length<4611686018427387904)(h:ROk text x):x.2.1.2.2.2.2.1.length<4611686018427387904∧x.2.1.2.2.2.2.2.1.length<4611686018427387904∧(shf x.2.1).length<4611686018427387904:=by
 rcases h with rfl|⟨_,e2,e3⟩
 ·decide
 ·by_cases hc:CanW x.1 x.2.1
  ·have h1:=hc.ours.1;have h2:=hc.peers.1;have h3:=hc.shf.1
   omega
  ·rw[qw hc]at e3
   have:=congrArg Prod.snd (Option.some.inj e3)
   simp at this
theorem B8(n:Int)(s:ST)(text:List Int)(hw:Wf s)(h1:s.2.2.2.2.1.length*72≤140737488351232)(h2:s.2.2.2.2.2.1.length*72≤140737488351232)(h3:(shf s).length*48≤140737488351232)(ht:aQ text)(hl:text.length<4611686018427387904)(hf:jo=some true):
  gB n s text=some true:=by
 obtain⟨x,hx,hok⟩:=EX text ht hl
 obtain⟨x',hx',hy'⟩:=Az text ht hl
 obtain rfl:x=x':=Option.some.inj (hx.symm.trans hx')
 have hlen:=Di x text hl hok
 have hs1:dN x.2.1 x.2.1=some true:=xW x.2.1 hlen.1 hlen.2.1 hlen.2.2
 have hs2:dN s s=some true:=xW s (by omega) (by omega) (by omega)
 unfold gB
 rw[if_pos (by simp;omega),if_pos (by simp;omega),if_pos (by rw[shl];simp;omega)]
 simp only[List.nil_append]
 have es:((s.1,s.2.1,s.2.2.1,s.2.2.2.1,s.2.2.2.2.1,s.2.2.2.2.2.1,s.2.2.2.2.2.2.1,s.2.2.2.2.2.2.2.1,s.2.2.2.2.2.2.2.2.1,s.2.2.2.2.2.2.2.2.2.1,s.2.2.2.2.2.2.2.2.2.2.1,s.2.2.2.2.2.2.2.2.2.2.2.1,s.2.2.2.2.2.2.2.2.2.2.2.2.1,s.2.2.2.2.2.2.2.2.2.2.2.2.2.1,s.2.2.2.2.2.2.2.2.2.2.2.2.2.2.1,s.2.2.2.2.2.2.2.2.2.2.2.2.2.2.2.1,s.2.2.2.2.2.2.2.2.2.2.2.2.2.2.2.2):ST)=s:=rfl
 rw[es]
 have wr:∃z,ft n s=some z∧fB n s=some z:=by
  by_cases hc:CanW n s
  ·exact⟨_,qv hw hc,(uI n hw).1 hc⟩
  ·exact⟨_,qw hc,(uI n hw).2 hc⟩
 obtain⟨z,hz1,hz2⟩:=wr
 rw[hz1,ao,hz2,ao,hx,ao,hy',ao]
 simp only[aE,beq_self_eq_true,Bool.true_and,if_true,hs1,hs2,hf,ao]
theorem pF(a0:Int)(a1:ST)(a2:List Int)(_:rng .i64 a0)(h1:StOk a1)(h2:Dh a2):gB a0 a1 a2=some true:=by
 obtain⟨hw,hb⟩:=Hd h1
 obtain⟨_,_,_,_,⟨ho,_⟩,⟨hp,_⟩,_,_,_,_,_,_,_,_,_,⟨hl,_⟩,_⟩:=h1
 exact B8 a0 a1 a2 hw ho hp hl h2.1 (by have:=h2.2;omega) rq
end Sx
