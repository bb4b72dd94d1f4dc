/-
  Own work, of several texts. Bytes of numbers, and a writer's, without a program in sight.
-/
import Derived.Test.YtfadfecpoimkiaaGreatDoorDefs
import Derived.KernelRfl
import Derived.Test.YtfadfecpoimkiaaGreatDoorComm
namespace Sx
open Go
theorem aO{n:Int}(h0: -9223372036854775808≤n)(h:n<9223372036854775808):IntKind.wrap .i64 n=n:=by
 simp only[IntKind.wrap,IntKind.bits,IntKind.signed,Bool.true_and]
 split<;>simp_all<;>omega
theorem ov{n:Int}(h0:0≤n)(h:n<18446744073709551616):IntKind.wrap .u64 n=n:=by
 simp only[IntKind.wrap,IntKind.bits,IntKind.signed,Bool.false_and,Bool.false_eq_true,if_false];omega
theorem tL(n:Int):IntKind.wrap .u64 n=n % 18446744073709551616:=by
 simp only[IntKind.wrap,IntKind.bits,IntKind.signed,Bool.false_and,Bool.false_eq_true,if_false];rfl
theorem yL(x:Nat):(x:Int) % 256=((x % 256:Nat):Int):=by omega
theorem nk(n:Int):IntKind.wrap .u8 n=n % 256:=by
 simp only[IntKind.wrap,IntKind.bits,IntKind.signed,Bool.false_and,Bool.false_eq_true,if_false];rfl
def be(v n:Nat):List Int:=(List.range n).map λi=>((v/2^(8*(n - 1 - i)) % 256:Nat):Int)
theorem fL(v n:Nat):(be v n).length=n:=by simp[be]
theorem jj(v n:Nat):aQ (be v n):=by
 intro c hc
 simp only[be,List.mem_map]at hc
 obtain⟨i,_,rfl⟩:=hc
 omega
theorem ul(v m:Nat):be v (m+1)=((v/2^(8*m) % 256:Nat):Int)::be v m:=by
 simp only[be,List.range_succ_eq_map,List.map_cons,List.map_map]
 congr 1
 apply List.map_congr_left
 intro k hk
 simp only[Function.comp]
 congr 4
 simp at hk
 omega
theorem pP(V m:Nat)(hm:m≤64):bS .u64 (V:Int) (m:Int)=((V/2^m:Nat):Int):=by
 unfold bS
 have:min (Int.toNat (m:Int)) (IntKind.bits .u64)=m:=by simp[IntKind.bits];omega
 rw[this,Int.fdiv_eq_ediv_of_nonneg _ (Int.le_of_lt (Int.pow_pos (by decide)))]
 simp
def un(v:Int):Nat:=(IntKind.wrap .u64 v).toNat
theorem GF(v:Int):IntKind.wrap .u64 v=(un v:Int):=by
 unfold un;rw[tL];omega
theorem GG(v:Int):un v<18446744073709551616:=by
 unfold un;rw[tL];omega
def pre(b:List Int):Nat→Int
 |0=>0
 |i+1=>pre b i*256+b.getD i 0
abbrev WT:=List Int×Int×Unit
abbrev UT:=Int×Int×Int×List Int×List Int×Unit
abbrev SlT:=Int×List Int×Bool×Unit
abbrev ST:=Int×Int×Int×Int×List UT×List UT×Int×Int×Int×(Int×Int×Unit)×(Int×Int×Unit)×(Int×Int×Unit)×Bool×List (List Int)×List Int×List SlT×Int×Int×Unit
theorem Fe(V:Nat)(hV:V<256)(K:List Int→Option WT):∀(i m:Nat) (xs:List Int),i≤8→i<m→xs.length+i≤140737488355328→eV (V:Int) K m ((i:Int) - 1,xs)=K (xs++be V i):=by
 intro i
 induction i with
 |zero=>
  intro m xs _ hm _
  cases m with
  |zero=>omega
  |succ m=>
   unfold eV
   rw[if_neg (by simp)]
   simp[be]
 |succ i ih=>
  intro m xs hi hm hl
  cases m with
  |zero=>omega
  |succ m=>
   unfold eV
   have e1:((i+1:Nat):Int) - 1=(i:Int):=by omega
   have e2:IntKind.wrap .i64 (8*(i:Int))=((8*i:Nat):Int):=by rw[aO (by omega) (by omega)];omega
   have e3:IntKind.wrap .u8 (bS .u64 (IntKind.wrap .u64 (V:Int)) ((8*i:Nat):Int))=((V/2^(8*i) % 256:Nat):Int):=by
    rw[ov (by omega) (by omega)]
    rw[pP V (8*i) (by omega),nk];omega
   simp only[e1,e2,e3]
   rw[if_pos (by simp),if_pos (by omega),if_pos (by simp;omega),aP,aO (by omega) (by omega),ih m _ (by omega) (by omega) (by simp;omega),ul]
   simp
theorem Ht(V n:Nat)(N:Int)(hN:N=(n:Int))(hV:V<256)(h1:1≤n)(h8:n≤8)(xs:List Int)(hl:xs.length+n≤140737488355328):jq (xs,0,()) (V:Int) N=some (xs++be V n,0,()):=by
 subst hN
 unfold jq
 rw[if_neg (by simp),aP,aO (by omega) (by omega),aP]
 exact Fe V hV _ n _ xs h8 (by omega) hl
theorem DL(V:Nat)(hV:V<65536)(K:List Int→Option WT):∀(i m:Nat) (xs:List Int),i≤8→i<m→xs.length+i≤140737488355328→eC (V:Int) K m ((i:Int) - 1,xs)=K (xs++be V i):=by
 intro i
 induction i with
 |zero=>
  intro m xs _ hm _
  cases m with
  |zero=>omega
  |succ m=>
   unfold eC
   rw[if_neg (by simp)]
   simp[be]
 |succ i ih=>
  intro m xs hi hm hl
  cases m with
  |zero=>omega
  |succ m=>
   unfold eC
   have e1:((i+1:Nat):Int) - 1=(i:Int):=by omega
   have e2:IntKind.wrap .i64 (8*(i:Int))=((8*i:Nat):Int):=by rw[aO (by omega) (by omega)];omega
   have e3:IntKind.wrap .u8 (bS .u64 (IntKind.wrap .u64 (V:Int)) ((8*i:Nat):Int))=((V/2^(8*i) % 256:Nat):Int):=by
    rw[ov (by omega) (by omega)]
    rw[pP V (8*i) (by omega),nk];omega
   simp only[e1,e2,e3]
   rw[if_pos (by simp),if_pos (by omega),if_pos (by simp;omega),aP,aO (by omega) (by omega),ih m _ (by omega) (by omega) (by simp;omega),ul]
   simp
theorem Et(V n:Nat)(N:Int)(hN:N=(n:Int))(hV:V<65536)(h1:1≤n)(h8:n≤8)(xs:List Int)(hl:xs.length+n≤140737488355328):gF (xs,0,()) (V:Int) N=some (xs++be V n,0,()):=by
 subst hN
 unfold gF
 rw[if_neg (by simp),aP,aO (by omega) (by omega),aP]
 exact DL V hV _ n _ xs h8 (by omega) hl
theorem DM(V:Nat)(hV:V<18446744073709551616)(K:List Int→Option WT):∀(i m:Nat) (xs:List Int),i≤8→i<m→xs.length+i≤140737488355328→eB (V:Int) K m ((i:Int) - 1,xs)=K (xs++be V i):=by
 intro i
 induction i with
 |zero=>
  intro m xs _ hm _
  cases m with
  |zero=>omega
  |succ m=>
   unfold eB
   rw[if_neg (by simp)]
   simp[be]
 |succ i ih=>
  intro m xs hi hm hl
  cases m with
  |zero=>omega
  |succ m=>
   unfold eB
   have e1:((i+1:Nat):Int) - 1=(i:Int):=by omega
   have e2:IntKind.wrap .i64 (8*(i:Int))=((8*i:Nat):Int):=by rw[aO (by omega) (by omega)];omega
   have e3:IntKind.wrap .u8 (bS .u64 (V:Int) ((8*i:Nat):Int))=((V/2^(8*i) % 256:Nat):Int):=by
    rw[pP V (8*i) (by omega),nk];omega
   simp only[e1,e2,e3]
   rw[if_pos (by simp),if_pos (by omega),if_pos (by simp;omega),aP,aO (by omega) (by omega),ih m _ (by omega) (by omega) (by simp;omega),ul]
   simp
theorem GH(V n:Nat)(N:Int)(hN:N=(n:Int))(hV:V<18446744073709551616)(h1:1≤n)(h8:n≤8)(xs:List Int)(hl:xs.length+n≤140737488355328):iG (xs,0,()) (V:Int) N=some (xs++be V n,0,()):=by
 subst hN
 unfold iG
 rw[if_neg (by simp),aP,aO (by omega) (by omega),aP]
 exact DM V hV _ n _ xs h8 (by omega) hl
theorem FO(v:Int)(xs:List Int)(hl:xs.length+8≤140737488355328):ca (xs,0,()) v=some (xs++be (un v) 8,0,()):=by
 unfold ca
 rw[GF,GH (un v) 8 8 rfl (GG v) (by omega) (by omega) xs hl]
 rfl
theorem wU8(n:Nat)(hn:n<256)(xs:List Int)(hl:xs.length+1≤140737488355328):dy (xs,0,()) (n:Int)=some (xs++be n 1,0,()):=by
 unfold dy
 rw[Ht n 1 1 rfl hn (by omega) (by omega) xs hl]
 rfl
theorem FP(n:Nat)(hn:n<65536)(xs:List Int)(hl:xs.length+2≤140737488355328):cJ (xs,0,()) (n:Int)=some (xs++be n 2,0,()):=by
 unfold cJ
 rw[Et n 2 2 rfl hn (by omega) (by omega) xs hl]
 rfl
theorem Bp(t xs:List Int)(hl:xs.length+t.length≤140737488355328):eR (xs,0,()) t=some (xs++t,0,()):=by
 unfold eR
 rw[if_pos (by simp),if_pos (by simpa using hl)]
theorem Bq(t xs:List Int)(hl:xs.length+t.length≤140737488355328):cE (xs,0,()) t=some (xs++t,0,()):=by
 unfold cE
 rw[Bp t xs hl];rfl
theorem yM{n:Int}(h0:0≤n)(h:n<65536):IntKind.wrap .u16 n=n:=by
 simp only[IntKind.wrap,IntKind.bits,IntKind.signed,Bool.false_and,Bool.false_eq_true,if_false];omega
theorem DN{n:Int}(h0:0≤n)(h:n<256):IntKind.wrap .u8 n=n:=by rw[nk];omega
theorem vd{n:Int}(h0:0≤n)(h:n<4294967296):IntKind.wrap .u32 n=n:=by
 simp only[IntKind.wrap,IntKind.bits,IntKind.signed,Bool.false_and,Bool.false_eq_true,if_false];omega
theorem GI(t xs:List Int)(ht:t.length≤65535)(hl:xs.length+2+t.length≤140737488355328):il (xs,0,()) t=some (xs++be t.length 2++t,0,()):=by
 unfold il
 simp only[aP]
 rw[if_neg (by simp;omega),yM (by omega) (by omega)]
 have h:=Et t.length 2 2 rfl (by omega) (by omega) (by omega) xs (by omega)
 rw[h,aT,Bp _ _ (by simp[fL];omega),aT]
def vU(u:UT):Bool:=if(decide (u.2.1<0)||decide (u.2.1≥2048))=true then false else(if(u.1==1)=true then(decide (u.2.2.1≥1)&&decide (u.2.2.1≤1152921504606846976))&&(u.2.2.2.2.1==[])else(if(u.1==2)=true then(u.2.2.1==0)&&(u.2.2.2.2.1==[])else(if(u.1==3)=true then((u.2.2.1==0)&&eqD (.arr 32 (.int .u8)) u.2.2.2.1 (List.replicate 32 (0:Int)))&&decide ((List.length u.2.2.2.2.1:Int)≤64)else false)))
theorem sB(u:UT):fM u=some (vU u):=by
 unfold fM vU
 simp only[aP,apply_ite some]
theorem yN{u:UT}(h:vU u=true):(0≤u.2.1∧u.2.1<2048)∧((u.1=1∧1≤u.2.2.1∧u.2.2.1≤1152921504606846976∧u.2.2.2.2.1=[])∨(u.1=2∧u.2.2.1=0∧u.2.2.2.2.1=[])∨(u.1=3∧u.2.2.1=0∧u.2.2.2.1=List.replicate 32 (0:Int)∧u.2.2.2.2.1.length≤64)):=by
 unfold vU at h
 split at h
 ·cases h
 ·rename_i h0
  simp only[Bool.or_eq_true,decide_eq_true_eq,not_or]at h0
  refine⟨by omega,?_⟩
  split at h
  ·rename_i h1
   simp only[beq_iff_eq]at h1
   simp only[Bool.and_eq_true,decide_eq_true_eq,beq_iff_eq]at h
   exact .inl ⟨h1,h.1.1,h.1.2,h.2⟩
  ·split at h
   ·rename_i h1
    simp only[beq_iff_eq]at h1
    simp only[Bool.and_eq_true,beq_iff_eq]at h
    exact .inr (.inl ⟨h1,h.1,h.2⟩)
   ·split at h
    ·rename_i h1
     simp only[beq_iff_eq]at h1
     rw[Bool.and_eq_true,Bool.and_eq_true,decide_eq_true_eq,beq_iff_eq,kW (by decide)]at h
     exact .inr (.inr ⟨h1,h.1.1,h.1.2,by omega⟩)
    ·cases h
def bt(a lo hi:Int):Bool:=decide (a≥lo)&&decide (a≤hi)
def cts(s:ST):List Int:=[s.2.2.2.2.2.2.2.2.2.1.1,s.2.2.2.2.2.2.2.2.2.1.2.1,s.2.2.2.2.2.2.2.2.2.2.1.1,s.2.2.2.2.2.2.2.2.2.2.1.2.1,s.2.2.2.2.2.2.2.2.2.2.2.1.1,s.2.2.2.2.2.2.2.2.2.2.2.1.2.1]
abbrev shf(s:ST):List SlT:=s.2.2.2.2.2.2.2.2.2.2.2.2.2.2.2.1
structure CanW(n:Int)(s:ST):Prop where
 n:0≤n∧n≤1152921504606846976
 side:0≤s.1∧s.1≤1
 cap:0≤s.2.1∧s.2.1≤1152921504606846976
 bo:0≤s.2.2.1∧s.2.2.1≤1152921504606846976
 bp:0≤s.2.2.2.1∧s.2.2.2.1≤1152921504606846976
 ours:s.2.2.2.2.1.length≤2048∧∀u∈s.2.2.2.2.1,vU u=true
 peers:s.2.2.2.2.2.1.length≤2048∧∀u∈s.2.2.2.2.2.1,vU u=true
 loc:0≤s.2.2.2.2.2.2.1∧s.2.2.2.2.2.2.1≤281474976710655
 rem:0≤s.2.2.2.2.2.2.2.1∧s.2.2.2.2.2.2.2.1≤281474976710655
 ack:0≤s.2.2.2.2.2.2.2.2.1∧s.2.2.2.2.2.2.2.2.1≤281474976710655
 cts:∀c∈cts s,0≤c∧c≤2048
 shf:(shf s).length≤49∧∀x∈shf s,0≤x.1∧x.1≤281474976710655
 fail:0≤s.2.2.2.2.2.2.2.2.2.2.2.2.2.2.2.2.1∧s.2.2.2.2.2.2.2.2.2.2.2.2.2.2.2.2.1≤1000000
 clo: -1≤s.2.2.2.2.2.2.2.2.2.2.2.2.2.2.2.2.2.1∧s.2.2.2.2.2.2.2.2.2.2.2.2.2.2.2.2.2.1≤281474976710655
def uB(u:UT):List Int:=be u.1.toNat 1++be u.2.1.toNat 2++(if u.1=1 then be (un u.2.2.1) 8++u.2.2.2.1 else if u.1=2 then u.2.2.2.1 else be u.2.2.2.2.1.length 2++u.2.2.2.2.1)
theorem FQ{u:UT}(h:vU u=true)(hh:u.2.2.2.1.length=32):(uB u).length≤100:=by
 obtain⟨_,h|h|h⟩:=yN h
 ·simp[uB,fL,h.1,hh]
 ·simp[uB,fL,h.1,hh]
 ·simp[uB,fL,h.1];omega
theorem FR(u:UT)(hh:u.2.2.2.1.length=32):kj u=some (if vU u=true then(uB u,0)else([],120)):=by
 unfold kj
 simp only[sB,aT,aP]
 cases hv:vU u with
 |false=>simp
 |true=>
  obtain⟨h0,h⟩:=yN hv
  rw[if_neg (by simp),if_pos rfl]
  have hk:1≤u.1∧u.1≤3:=by omega
  have e1:IntKind.wrap .u8 u.1=((u.1.toNat:Nat):Int):=by rw[DN (by omega) (by omega)];omega
  have e2:IntKind.wrap .u16 u.2.1=((u.2.1.toNat:Nat):Int):=by rw[yM (by omega) (by omega)];omega
  unfold jF
  rw[aT,e1,e2,wU8 _ (by omega) _ (by simp),aT,FP _ (by omega) _ (by simp[fL]),aT]
  rcases h with h|h|h
  ·rw[if_pos (by simp[h.1]),FO _ _ (by simp[fL]),aT,Bq _ _ (by simp[fL,hh]),aT]
   unfold cX
   rw[if_neg (by simp),aT]
   simp[uB,h.1]
  ·rw[if_neg (by simp[h.1]),if_pos (by simp[h.1]),Bq _ _ (by simp[fL,hh]),aT]
   unfold cX
   rw[if_neg (by simp),aT]
   simp[uB,h.1]
  ·rw[if_neg (by simp[h.1]),if_neg (by simp[h.1]),if_pos (by simp[h.1]),GI _ _ (by omega) (by simp[fL];omega),aT]
   unfold cX
   rw[if_neg (by simp),aT]
   simp[uB,h.1]
def fl(b:Bool):Nat:=if b=true then 1 else 0
abbrev pts(s:ST):List (List Int):=s.2.2.2.2.2.2.2.2.2.2.2.2.2.1
abbrev sig(s:ST):List Int:=s.2.2.2.2.2.2.2.2.2.2.2.2.2.2.1
def pt(s:ST)(i:Nat):List Int:=(pts s).getD i (List.replicate 32 (0:Int))
structure Wf(s:ST):Prop where
 ours:∀u∈s.2.2.2.2.1,u.2.2.2.1.length=32
 peers:∀u∈s.2.2.2.2.2.1,u.2.2.2.1.length=32
 shf:∀x∈shf s,x.2.1.length=32
 p0:(pt s 0).length=32
 p1:(pt s 1).length=32
 sg:(sig s).length=32
 np:(pts s).length=2
theorem yO:aQ []:=λc hc=>by cases hc
theorem Hu(n:Int):0≤IntKind.wrap .u8 n∧IntKind.wrap .u8 n<256:=by rw[nk];omega
theorem GJ(n:Int):0≤IntKind.wrap .u16 n∧IntKind.wrap .u16 n<65536:=by
 have:IntKind.wrap .u16 n=n % 65536:=by
  simp only[IntKind.wrap,IntKind.bits,IntKind.signed,Bool.false_and,Bool.false_eq_true,if_false];rfl
 omega
theorem fH{α β:Type}{a:α}{f:α→Option β}{P:β→Prop}(h:∃x,f a=some x∧P x):∃x,bnd a f=some x∧P x:=by
 rw[aP];exact h
theorem aH{α β:Type}{x:Option α}{f:α→Option β}{Q:α→Prop}{P:β→Prop}(h:∃y,x=some y∧Q y)(g:∀y,Q y→∃z,f y=some z∧P z):∃z,x.bind f=some z∧P z:=by
 obtain⟨y,hy,hq⟩:=h
 rw[hy,aT];exact g y hq
theorem qL(a b:Int):∃y,bO a b=some y∧True:=⟨_,rfl,trivial⟩
theorem FS{α:Type}{c:Prop}[Decidable c]{x y:Option α}{P:α→Prop}(h:c)(g:∃z,x=some z∧P z):∃z,(if c then x else y)=some z∧P z:=by
 rw[if_pos h];exact g
theorem GK(t:List Int)(ht:t.length=64)(n:Nat)(s25:Int×List Int)(i:Nat)(hi:i<16)(hs:s25.1=(i:Int))(P:List Int→Prop)(K:List Int→Option (List Int))(hk:∀o,∃x,K o=some x∧P x):∀(c j m:Nat) (w:List Int),j+c=4→c<m→∃x,fU t s25 K m ((j:Int),w)=some x∧P x:=by
 intro c
 induction c with
 |zero=>
  intro j m w hj hm
  cases m with
  |zero=>omega
  |succ m=>
   rw[fU,if_neg (by simp;omega)]
   exact hk _
 |succ c ih=>
  intro j m w hj hm
  cases m with
  |zero=>omega
  |succ m=>
   have e1:IntKind.wrap .i64 (4*s25.1)=4*(i:Int):=by rw[hs,aO (by omega) (by omega)]
   have e2:IntKind.wrap .i64 (4*(i:Int)+(j:Int))=4*(i:Int)+(j:Int):=aO (by omega) (by omega)
   rw[fU,if_pos (by simp;omega),if_pos (by omega)]
   dsimp only
   rw[e1,e2,if_pos (by omega),if_pos (by omega),aO (by omega) (by omega)]
   exact ih (j+1) m _ (by omega) (by omega)
theorem GL(t:List Int)(ht:t.length=64)(P:List Int→Prop)(K:List Int→Option (List Int))(hk:∀o,∃x,K o=some x∧P x):∀(c i m:Nat) (w:List Int),i+c=16→c<m→∃x,fV t K m ((i:Int),w)=some x∧P x:=by
 intro c
 induction c with
 |zero=>
  intro i m w hi hm
  cases m with
  |zero=>omega
  |succ m=>
   rw[fV,if_neg (by simp;omega)]
   exact hk _
 |succ c ih=>
  intro i m w hi hm
  cases m with
  |zero=>omega
  |succ m=>
   rw[fV,if_pos (by simp;omega),aP]
   refine GK t ht 0 _ i (by omega) rfl P _ (λo=>?_) 4 0 _ _ rfl (by decide)
   dsimp only
   rw[aO (by omega) (by omega)]
   exact ih (i+1) m _ (by omega) (by omega)
theorem GM(P:List Int→Prop)(K:List Int→Option (List Int))(hk:∀o,∃x,K o=some x∧P x):∀(c i m:Nat) (w:List Int),16≤i→i+c=64→c<m→∃x,fT K m ((i:Int),w)=some x∧P x:=by
 intro c
 induction c with
 |zero=>
  intro i m w h0 hi hm
  cases m with
  |zero=>omega
  |succ m=>
   rw[fT,if_neg (by simp;omega)]
   exact hk _
 |succ c ih=>
  intro i m w h0 hi hm
  cases m with
  |zero=>omega
  |succ m=>
   rw[fT,if_pos (by simp;omega)]
   dsimp only
   have e1:∀k:Int,0≤k→k≤16→IntKind.wrap .i64 ((i:Int) - k)=(i:Int) - k:=λk h1 h2=>aO (by omega) (by omega)
   rw[e1 15 (by omega) (by omega),e1 2 (by omega) (by omega),e1 16 (by omega) (by omega),e1 7 (by omega) (by omega),if_pos (by omega),if_pos (by omega)]
   refine fH (fH (aH (qL _ _) λ_ _=>aH (qL _ _) λ_ _=>fH (aH (qL _ _) λ_ _=>aH (qL _ _) λ_ _=>fH ?_)))
   rw[if_pos (by omega),if_pos (by omega)]
   refine fH (fH ?_)
   rw[if_pos (by omega)]
   refine fH ?_
   rw[aO (by omega) (by omega)]
   exact ih (i+1) m _ (by omega) (by omega) (by omega)
theorem CG(t:List Int)(ht:t.length=64):∃x,kQ t=some x∧True:=by
 unfold kQ
 simp only[aP]
 exact GL t ht _ _ (λo=>GM _ _ (λo=>⟨_,rfl,trivial⟩) 48 16 _ o (by omega) rfl (by decide)) 16 0 _ _ rfl (by decide)
theorem FU(h0:List Int)(P:List Int×List Int→Prop)(K:List Int→Option (List Int×List Int))(hk:∀o,∃x,K o=some x∧P x):∀(c i m:Nat) (w:List Int),i+c=8→c<m→∃x,gY h0 K m ((i:Int),w)=some x∧P x:=by
 intro c
 induction c with
 |zero=>
  intro i m w hi hm
  cases m with
  |zero=>omega
  |succ m=>
   rw[gY,if_neg (by simp;omega)]
   exact hk _
 |succ c ih=>
  intro i m w hi hm
  cases m with
  |zero=>omega
  |succ m=>
   rw[gY,if_pos (by simp;omega)]
   dsimp only
   rw[if_pos (by omega),if_pos (by omega)]
   refine fH ?_
   rw[if_pos (by omega),aO (by omega) (by omega)]
   exact ih (i+1) m _ (by omega) (by omega)
theorem FV(a2 r6:List Int)(P:List Int×List Int→Prop)(K:List Int→Option (List Int×List Int))(hk:∀o,∃x,K o=some x∧P x):∀(c i m:Nat) (w:List Int),i+c=64→c<m→∃x,gZ a2 r6 K m ((i:Int),w)=some x∧P x:=by
 intro c
 induction c with
 |zero=>
  intro i m w hi hm
  cases m with
  |zero=>omega
  |succ m=>
   rw[gZ,if_neg (by simp;omega)]
   exact hk _
 |succ c ih=>
  intro i m w hi hm
  cases m with
  |zero=>omega
  |succ m=>
   rw[gZ,if_pos (by simp;omega)]
   dsimp only
   rw[if_pos (by decide),if_pos (by decide)]
   refine fH (fH ?_)
   rw[if_pos (by decide)]
   refine aH (qL _ _) λ_ _=>aH (qL _ _) λ_ _=>aH (qL _ _) λ_ _=>?_
   rw[if_pos (by decide),if_pos (by decide)]
   refine fH (fH ?_)
   rw[if_pos (by omega),if_pos (by omega)]
   refine fH (aH (qL _ _) λ_ _=>aH (qL _ _) λ_ _=>aH (qL _ _) λ_ _=>?_)
   rw[if_pos (by decide),if_pos (by decide),if_pos (by decide),if_pos (by decide)]
   refine fH (fH ?_)
   rw[if_pos (by decide),if_pos (by decide),if_pos (by decide),if_pos (by decide),if_pos (by decide),aO (by omega) (by omega)]
   exact ih (i+1) m _ (by omega) (by omega)
theorem Ff(h0 t k:List Int)(ht:t.length=64):∃x,mG h0 t k=some x∧True:=by
 unfold mG
 refine aH (CG t ht) λr6 _=>?_
 simp only[aP]
 exact FV k r6 _ _ (λo=>FU h0 _ _ (λo=>⟨_,rfl,trivial⟩) 8 0 _ o rfl (by decide)) 64 0 _ _ rfl (by decide)
def H32(x:List Int):Prop:=x.length=32∧aQ x
theorem FW(n:Int):0≤IntKind.wrap .u8 n∧IntKind.wrap .u8 n<256:=by rw[nk];omega
theorem FX{l:List Int}(h:aQ l)(i:Nat){x:Int}(hx:0≤x∧x<256):aQ (l.set i x):=λc hc=>(List.mem_or_eq_of_mem_set hc).elim (h c) (λe=>e▸hx)
theorem AK{l:List Int}(h:H32 l)(i:Nat){x:Int}(hx:0≤x∧x<256):H32 (l.set i x):=⟨by simp[h.1],FX h.2 i hx⟩
theorem ve:H32 (List.replicate 32 (0:Int)):=⟨by simp,λc hc=>by have:=(List.mem_replicate.1 hc).2;omega⟩
theorem GN(o17:List Int×List Int)(K:List Int→Option (List Int))(hk:∀o:List Int,H32 o→∃x,K o=some x∧H32 x):∀(c i m:Nat) (w:List Int),i+c=32→c<m→H32 w→∃x,jI o17 K m ((i:Int),w)=some x∧H32 x:=by
 intro c
 induction c with
 |zero=>
  intro i m w hi hm hw
  cases m with
  |zero=>omega
  |succ m=>
   rw[jI,if_neg (by simp;omega)]
   exact hk _ hw
 |succ c ih=>
  intro i m w hi hm hw
  cases m with
  |zero=>omega
  |succ m=>
   have d1:Int.tdiv (i:Int) 4=((i/4:Nat):Int):=rfl
   have d2:Int.tmod (i:Int) 4=((i % 4:Nat):Int):=rfl
   rw[jI,if_pos (by simp;omega)]
   dsimp only
   rw[d1,d2,aO (n:=((i/4:Nat):Int)) (by omega) (by omega),if_pos (by omega),aO (n:=8*((i % 4:Nat):Int)) (by omega) (by omega),aO (n:=24 - 8*((i % 4:Nat):Int)) (by omega) (by omega),if_pos (by omega)]
   refine fH ?_
   rw[if_pos (by omega),aO (by omega) (by omega)]
   exact ih (i+1) m _ (by omega) (by omega) (AK hw _ (FW _))
theorem FY(t:List Int)(h:H32 t):∃x,oz [t]=some x∧H32 x:=by
 obtain⟨ht,hb⟩:=h
 unfold oz
 have ej:strings_Join [t] []=some t:=by
  have e1:Lib.join [toB t] (toB [])=toB t:=Lib.join_one _ _
  have e2:(toB t).length=32:=by simp[toB,ht]
  unfold strings_Join
  simp only[List.map_cons,List.map_nil,e1,e2,AB hb]
  simp
 rw[ej,aT]
 simp only[aP]
 have el:(List.length t:Int)=32:=by omega
 rw[el]
 have e3:∀K:List Int→Option (List Int),mI 32 K 65 [128]=K ([128]++List.replicate 23 0):=λK=>by rfl
 rw[e3]
 have e2:∀K:List Int→Option (List Int),mH 32 K (Int.toNat (8 - 0)+1) (0,[128]++List.replicate 23 0)=K (([128]++List.replicate 23 0)++[0,0,0,0,0,0,1,0]):=λK=>by rfl
 rw[e2,if_pos (by simp[ht,most])]
 unfold l5
 rw[aT]
 generalize hX:t++(([128]++List.replicate 23 0)++[0,0,0,0,0,0,1,0])=X
 have hl:X.length=64:=by rw[←hX];simp[ht]
 have hne:(X !=[])=true:=by cases X with
  |nil=>simp at hl
  |cons a l=>rfl
 rw[show List.length X+1=65 by omega,kZ]
 refine FS hne ?_
 dsimp only
 rw[if_pos (by omega)]
 refine aH (Ff _ _ _ (by simp;omega)) λr30 _=>?_
 rw[if_pos (by omega)]
 refine fH ?_
 have e0:List.drop 64 (List.take (Int.toNat (List.length X:Int)) X)=[]:=List.drop_eq_nil_of_le (by simp;omega)
 rw[e0,kZ,if_neg (by simp)]
 exact GN _ _ (λo ho=>⟨_,rfl,ho⟩) 32 0 _ _ rfl (by decide) ve
theorem FZ(t:List Int)(h:H32 t):∃x,nR t=some x∧H32 x:=by
 unfold nR
 exact aH (FY t h) λr hr=>⟨_,rfl,hr⟩
theorem DO{P:Int→Prop}{l:List Int}(h:∀x∈l,P x)(h0:P 0)(i:Nat):P (l.getD i 0):=by
 rcases Nat.lt_or_ge i l.length with g|g
 ·rw[List.getD_eq_getElem?_getD,List.getElem?_eq_getElem g];exact h _ (List.getElem_mem g)
 ·rw[List.getD_eq_getElem?_getD,List.getElem?_eq_none g];exact h0
theorem tTz(a:Int):∃x,fe a=some x∧0≤x:=by
 unfold fe
 split
 ·exact⟨_,rfl,by decide⟩
 ·refine fH ?_
  generalize dV .u64 a (IntKind.wrap .u64 (0 - a))*285870213051353865=V0
  obtain⟨V,hV,hl⟩:∃V:Nat,IntKind.wrap .u64 V0=(V:Int)∧V<18446744073709551616:=by
   rw[tL];exact⟨(V0 % 18446744073709551616).toNat,by omega,by omega⟩
  have hs:bS .u64 (V:Int) 58=((V/2^58:Nat):Int):=pP V 58 (by omega)
  have hb:V/2^58<64:=by omega
  rw[hV,hs,if_pos (by omega)]
  refine⟨_,rfl,?_⟩
  have:=DO (P:=λx=>0≤x∧x≤63) (l:=u6) (by decide) (by decide) (Int.toNat ((V/2^58:Nat):Int))
  rw[aO (by omega) (by omega)]
  exact this.1
theorem CH(a:Int):∃x,l6 a=some x∧(x=true↔0≤a∧a≤281474976710655):=by
 unfold l6
 rw[aP]
 exact⟨_,rfl,by simp⟩
theorem CI(a:Int):∃x,l7 a=some x∧(0≤x.1∧x.1≤48):=by
 unfold l7
 refine aH (CH a) λr2 _=>?_
 split
 ·exact⟨_,rfl,by decide,by decide⟩
 ·unfold gx
  rw[aT]
  refine aH (tTz _) λr4 h4=>?_
  exact⟨_,rfl,by dsimp only;omega,by dsimp only;omega⟩
theorem DP(a1:Int)(n:Nat)(hn:n≤48)(K:List Int→Option (List Int))(hk:∀o:List Int,H32 o→∃x,K o=some x∧H32 x):∀(c i m:Nat) (w:List Int),i+c=n→c<m→H32 w→∃x,io a1 (n:Int) K m ((i:Int),w)=some x∧H32 x:=by
 intro c
 induction c with
 |zero=>
  intro i m w hi hm hw
  cases m with
  |zero=>omega
  |succ m=>
   rw[io,if_neg (by simp;omega)]
   exact hk _ hw
 |succ c ih=>
  intro i m w hi hm hw
  cases m with
  |zero=>omega
  |succ m=>
   have go:∀w:List Int,H32 w→∃x,io a1 (n:Int) K m (IntKind.wrap .i64 ((i:Int)+1),w)=some x∧H32 x:=λw hw=>by
    rw[aO (by omega) (by omega)];exact ih (i+1) m w (by omega) (by omega) hw
   have d1:Int.tdiv (((n - 1 - i:Nat)):Int) 8=(((n - 1 - i)/8:Nat):Int):=rfl
   have d2:Int.tmod (((n - 1 - i:Nat)):Int) 8=(((n - 1 - i) % 8:Nat):Int):=rfl
   have e1:IntKind.wrap .i64 ((IntKind.wrap .i64 ((n:Int) - 1)) - (i:Int))=((n - 1 - i:Nat):Int):=by
    rw[aO (n:=(n:Int) - 1) (by omega) (by omega),aO (by omega) (by omega)];omega
   rw[io,if_pos (by simp;omega)]
   simp only[aP]
   rw[e1,if_pos (by omega),d1,d2,aO (n:=(((n - 1 - i)/8:Nat):Int)) (by omega) (by omega)]
   split
   ·rw[if_pos (by omega),if_pos (by omega),if_pos (by omega)]
    refine aH (FZ _ (AK hw _ (FW _))) λr15 h15=>go _ h15
   ·exact go _ hw
theorem GO(a0:List Int)(a1:Int)(a2:Int)(h0:H32 a0)(h2:0≤a2∧a2≤48):∃x,nn a0 a1 a2=some x∧H32 x:=by
 obtain⟨n,rfl⟩:∃n:Nat,a2=(n:Int):=⟨a2.toNat,by omega⟩
 unfold nn
 rw[aP]
 exact DP a1 n (by omega) _ (λo ho=>⟨_,rfl,ho⟩) n 0 _ a0 (by omega) (by omega) h0
theorem Fg(a0:List Int)(a1 a2:Int)(h0:H32 a0):∃x,mJ a0 a1 a2=some x∧H32 x.1:=by
 unfold mJ
 refine aH (CI a1) λr6 h6=>?_
 simp only[aP]
 have k8:∀o9:Bool,∃x,(if o9=true then some (List.replicate 32 (0:Int),(90:Int))else(gx a1).bind λr11=>if 0≤r6.1 then((gx a2).bind λr12=>if 0≤r6.1 then(if(bS .i64 r11 r6.1 !=bS .i64 r12 r6.1)=true then some (List.replicate 32 (0:Int),5)else((gx a2).bind λr13=>(nn a0 r13 r6.1).bind λr14=>some (r14,0)))else none)else none)=some x∧H32 x.1:=λo9=>by
  split
  ·exact⟨_,rfl,ve⟩
  ·unfold gx
   rw[aT,if_pos h6.1,aT,if_pos h6.1]
   split
   ·exact⟨_,rfl,ve⟩
   ·rw[aT]
    exact aH (GO a0 _ _ h0 h6) λr14 h14=>⟨_,rfl,h14⟩
 split
 ·exact k8 true
 ·exact aH (CH a2) λr10 _=>k8 (!r10)
def sC(l:List SlT):Prop:=l.length≤49
theorem Fh(a0:List SlT)(h0:a0.length≤49)(a1:Int)(a2:List Int)(h2:H32 a2)(r5:Int×Int)(K:List SlT→Option (List SlT×Int))(hk:∀o:List SlT,o.length=49→∃x,K o=some x∧sC x.1):∀(c i m:Nat) (w:List SlT),i+c=a0.length→c<m→w.length=49→∃x,gy a0 a1 a2 r5 K m ((i:Int),w)=some x∧sC x.1:=by
 intro c
 induction c with
 |zero=>
  intro i m w hi hm hw
  cases m with
  |zero=>omega
  |succ m=>
   rw[gy,if_neg (by simp;omega)]
   exact hk _ hw
 |succ c ih=>
  intro i m w hi hm hw
  cases m with
  |zero=>omega
  |succ m=>
   have go:∀w:List SlT,w.length=49→∃x,gy a0 a1 a2 r5 K m (IntKind.wrap .i64 ((i:Int)+1),w)=some x∧sC x.1:=λw hw=>by
    rw[aO (by omega) (by omega)];exact ih (i+1) m w (by omega) (by omega) hw
   rw[gy,if_pos (by simp;omega)]
   simp only[aP]
   rw[if_pos (by omega)]
   split
   ·exact go _ hw
   ·rw[if_pos (by omega),if_pos (by omega)]
    split
    ·exact go _ (by simp[hw])
    ·rw[if_pos (by omega)]
     refine aH (Fg a2 a1 _ h2) λr29 _=>?_
     have k32:∀o33:Bool,∃x,(if o33=true then some (([]:List SlT),(100:Int))else gy a0 a1 a2 r5 K m (IntKind.wrap .i64 ((i:Int)+1),List.set w (Int.toNat (i:Int)) (List.getD a0 (Int.toNat (i:Int)) (0,(List.replicate 32 (0:Int)),false,()))))=some x∧sC x.1:=λo=>by
      split
      ·exact⟨_,rfl,by simp[sC]⟩
      ·exact go _ (by simp[hw])
     split
     ·exact k32 true
     ·rw[if_pos (by omega)];exact k32 _
theorem Hv(a0:List SlT)(a1:Int)(a2:List Int)(h2:H32 a2):∃x,pf a0 a1 a2=some x∧sC x.1:=by
 unfold pf
 split
 ·exact⟨_,rfl,by simp[sC]⟩
 ·rename_i h
  have h0:a0.length≤49:=by simp at h;omega
  refine aH (CI a1) λr5 h5=>?_
  split
  ·exact⟨_,rfl,by simp[sC]⟩
  ·rw[if_pos (by decide),aP]
   refine Fh a0 h0 a1 a2 h2 r5 _ (λo ho=>?_) a0.length 0 _ _ (by omega) (by omega) (by simp)
   rw[if_pos (by omega)]
   exact⟨_,rfl,by simp[sC,ho]⟩
theorem um{α:Type}{l:List α}{i:Nat}(h:i<l.length)(d:α):List.getD l (Int.toNat (i:Int)) d=l[i]:=by simp[List.getD,h]
abbrev U0:UT:=(0,0,0,(List.replicate 32 (0:Int)),[],())
def HOk(u:UT):Prop:=H32 u.2.2.2.1
theorem CJ(l:List UT)(hl:l.length<4611686018427387904)(id:Int)(b:Bool)(K:Unit→Option (UT×Bool))(hk:∃x,K ()=some x∧True):∀(c i m:Nat),i+c=l.length→c<m→∃x,fF l id b K m (i:Int)=some x∧True:=by
 intro c
 induction c with
 |zero=>
  intro i m hi hm
  cases m with
  |zero=>omega
  |succ m=>
   rw[fF,if_neg (by simp;omega)]
   exact hk
 |succ c ih=>
  intro i m hi hm
  cases m with
  |zero=>omega
  |succ m=>
   rw[fF,if_pos (by simp;omega),if_pos (by omega)]
   simp only[aP]
   have k13:∀o:Bool,∃x,(if o=true then some (List.getD l (Int.toNat (i:Int)) U0,true)else fF l id b K m (IntKind.wrap .i64 ((i:Int)+1)))=some x∧True:=λo=>by
    split
    ·exact⟨_,rfl,trivial⟩
    ·rw[aO (by omega) (by omega)];exact ih (i+1) m (by omega) (by omega)
   split
   ·split
    ·exact k13 true
    ·split
     ·exact k13 _
     ·exact k13 false
   ·exact k13 false
theorem CK(l:List UT)(hl:l.length<4611686018427387904)(id:Int)(b:Bool):∃x,km l id b=some x∧True:=by
 unfold km
 rw[aP]
 exact CJ l hl id b _ ⟨_,rfl,trivial⟩ l.length 0 _ (by omega) (by omega)
theorem DQ(l:List UT)(hl:l.length<4611686018427387904)(K:Int→Option Int)(hk:∀o,∃x,K o=some x∧True):∀(c i m:Nat) (n:Int),i+c=l.length→c<m→∃x,gX l K m (n,(i:Int))=some x∧True:=by
 intro c
 induction c with
 |zero=>
  intro i m n hi hm
  cases m with
  |zero=>omega
  |succ m=>
   rw[gX,if_neg (by simp;omega)]
   exact hk _
 |succ c ih=>
  intro i m n hi hm
  cases m with
  |zero=>omega
  |succ m=>
   rw[gX,if_pos (by simp;omega)]
   simp only[aP]
   rw[if_pos (by omega),aO (n:=(i:Int)+1) (by omega) (by omega)]
   split
   ·exact ih (i+1) m _ (by omega) (by omega)
   ·exact ih (i+1) m _ (by omega) (by omega)
theorem GP(l:List UT)(hl:l.length<4611686018427387904):∃x,mF l=some x∧True:=by
 unfold mF
 rw[aP]
 exact DQ l hl _ (λo=>⟨_,rfl,trivial⟩) l.length 0 _ _ (by omega) (by omega)
theorem Eu(a b:List UT)(u:UT)(hb:b.length<4611686018427387904)(hu:HOk u):∃x,la a b u=some x∧(x=0→a.length<2048):=by
 unfold la
 split
 ·exact⟨_,rfl,by simp⟩
 ·rename_i h
  have ha:a.length<2048:=by simp at h;omega
  rw[sB,aT]
  split
  ·exact⟨_,rfl,by simp⟩
  ·split
   ·refine aH (GP a (by omega)) λr6 _=>?_
    split
    ·exact⟨_,rfl,by simp⟩
    ·exact⟨_,rfl,λ_=>ha⟩
   ·unfold oU l3
    refine aH (aH (Q:=λ_=>True) (P:=λ_=>True) (CK b hb _ _) λr _=>⟨_,rfl,trivial⟩) λr7 _=>?_
    refine aH (aH (Q:=λ_=>True) (P:=λ_=>True) (CK a (by omega) _ _) λr _=>⟨_,rfl,trivial⟩) λr9 _=>?_
    split
    ·exact⟨_,rfl,by simp⟩
    ·split
     ·exact⟨_,rfl,by simp⟩
     ·split
      ·refine aH (FY _ hu) λr12 _=>?_
       split
       ·exact⟨_,rfl,by simp⟩
       ·exact⟨_,rfl,λ_=>ha⟩
      ·exact⟨_,rfl,λ_=>ha⟩
abbrev RcT:=Int×UT×List UT×Int×(Int×Int×Unit)×List Int×List Int×List Int×Int×Unit
abbrev vS:=Int×List UT×List Int×Unit
abbrev F0:=Int×List Int×List Int×Unit
abbrev ChT:=(UT×Unit)⊕((Int×(Int×Int×Unit)×Unit)⊕(vS⊕(F0⊕((Int×Unit)⊕((Int×Unit)⊕Value)))))
def UB(u:UT):Prop:=H32 u.2.2.2.1∧aQ u.2.2.2.2.1
structure RcOk(r:RcT):Prop where
 u:UB r.2.1
 us:∀u∈r.2.2.1,UB u
 len:r.2.2.1.length<4611686018427387904
 point:H32 r.2.2.2.2.2.1
 secret:H32 r.2.2.2.2.2.2.1
 next:H32 r.2.2.2.2.2.2.2.1
def wy:ChT→Prop
 | .inl z=>UB z.1
 | .inr (.inl _)=>True
 | .inr (.inr (.inl z))=>(∀u∈z.2.1,UB u)∧z.2.1.length≤512∧H32 z.2.2.1
 | .inr (.inr (.inr (.inl z)))=>H32 z.2.1∧H32 z.2.2.1
 | .inr (.inr (.inr (.inr (.inr (.inr _)))))=>False
 |_=>True
theorem Fi(l:List UT)(hl:l.length<4611686018427387904)(K:Unit→Option Int)(hk:∃x,K ()=some x∧True):∀(c i m:Nat),i+c=l.length→c<m→∃x,bj l K m (i:Int)=some x∧True:=by
 intro c
 induction c with
 |zero=>
  intro i m hi hm
  cases m with
  |zero=>omega
  |succ m=>
   rw[bj,if_neg (by simp;omega)]
   exact hk
 |succ c ih=>
  intro i m hi hm
  cases m with
  |zero=>omega
  |succ m=>
   rw[bj,if_pos (by simp;omega),if_pos (by omega)]
   unfold jw
   rw[sB,aT,aT]
   split
   ·exact⟨_,rfl,trivial⟩
   ·rw[aO (by omega) (by omega)];exact ih (i+1) m (by omega) (by omega)
theorem CL(l:List UT)(hl:l.length<4611686018427387904):∃x,bZ l=some x∧True:=by
 unfold bZ cG
 rw[aP]
 exact aH (Fi l hl _ ⟨_,rfl,trivial⟩ l.length 0 _ (by omega) (by omega)) λr _=>⟨_,rfl,trivial⟩
theorem CM(a b:List UT)(hab:a.length=b.length)(hl:a.length<4611686018427387904)(K:Unit→Option Bool)(hk:∃x,K ()=some x∧True):∀(c i m:Nat),i+c=a.length→c<m→∃x,bV a b K m (i:Int)=some x∧True:=by
 intro c
 induction c with
 |zero=>
  intro i m hi hm
  cases m with
  |zero=>omega
  |succ m=>
   rw[bV,if_neg (by simp;omega)]
   exact hk
 |succ c ih=>
  intro i m hi hm
  cases m with
  |zero=>omega
  |succ m=>
   rw[bV,if_pos (by simp;omega),if_pos (by omega),if_pos (by omega)]
   split
   ·exact⟨_,rfl,trivial⟩
   ·rw[aO (by omega) (by omega)];exact ih (i+1) m (by omega) (by omega)
theorem F3(a b:List UT)(hl:a.length<4611686018427387904):∃x,cR a b=some x∧True:=by
 unfold cR
 split
 ·exact⟨_,rfl,trivial⟩
 ·rename_i h
  have hab:a.length=b.length:=by simp at h;omega
  rw[aP]
  exact CM a b hab hl _ ⟨_,rfl,trivial⟩ a.length 0 _ (by omega) (by omega)
theorem F4(a b:RcT)(hl:a.2.2.1.length<4611686018427387904):∃x,mE a b=some x∧True:=by
 unfold mE
 simp only[aP]
 split
 ·exact aH (F3 _ _ hl) λr _=>⟨_,rfl,trivial⟩
 ·exact⟨_,rfl,trivial⟩
theorem sD(a:Int):∃x,gb a=some x∧True:=by
 unfold gb
 rw[aP];exact⟨_,rfl,trivial⟩
theorem yP(a:Int):∃x,jk a=some x∧True:=by
 unfold jk
 rw[aP];exact⟨_,rfl,trivial⟩
theorem Br(z:vS)(hl:z.2.1.length<4611686018427387904):∃x,iH z=some x∧(x=true→z.2.1.length≤512):=by
 unfold iH
 refine aH (sD _) λr3 _=>?_
 simp only[aP]
 split
 ·rename_i h
  rw[Bool.and_eq_true,decide_eq_true_eq]at h
  exact aH (CL _ hl) λr _=>⟨_,rfl,λ_=>by omega⟩
 ·exact⟨_,rfl,by simp⟩
theorem yQ(z:Int×(Int×Int×Unit)×Unit):∃x,gK z=some x∧True:=by
 unfold gK
 refine aH (sD _) λr3 _=>?_
 simp only[aP]
 split
 ·refine aH (yP _) λr7 _=>?_
  split
  ·exact aH (yP _) λr11 _=>⟨_,rfl,trivial⟩
  ·exact⟨_,rfl,trivial⟩
 ·rw[if_neg (by simp)];exact⟨_,rfl,trivial⟩
def zS:ST:=(0,0,0,0,[],[],0,0,0,(0,0,()),(0,0,()),(0,0,()),false,(List.replicate 2 ((List.replicate 32 (0:Int)):List (Int))),(List.replicate 32 (0:Int)),[],0,0,())
theorem DR(l:List UT)(hl:l.length<4611686018427387904)(K:Unit→Option Bool):∀(k i m:Nat),i+k=l.length→k<m→eW l l K m (i:Int)=K ():=by
 intro k
 induction k with
 |zero=>
  intro i m hi hm
  cases m with
  |zero=>omega
  |succ m=>rw[eW,if_neg (by simp;omega)]
 |succ k ih=>
  intro i m hi hm
  cases m with
  |zero=>omega
  |succ m=>
   have e:∀u:UT,eqD (.pair (.int .i64) (.pair (.int .i64) (.pair (.int .i64) (.pair (.arr 32 (.int .u8)) (.pair .str .unit))))) u u=true:=λu=>(kW (t:= .pair (.int .i64) (.pair (.int .i64) (.pair (.int .i64) (.pair (.arr 32 (.int .u8)) (.pair .str .unit))))) (by decide) u u).2 rfl
   rw[eW,if_pos (by simp;omega),if_pos (by omega),if_pos (by omega),e,if_neg (by simp),aP,aO (by omega) (by omega)]
   exact ih (i+1) m (by omega) (by omega)
theorem Ev(l:List UT)(hl:l.length<4611686018427387904):hP l l=some true:=by
 unfold hP
 rw[if_neg (by simp),aP]
 exact DR l hl _ l.length 0 _ (by omega) (by omega)
theorem DS(s:ST)(hl:(shf s).length<4611686018427387904)(K:Unit→Option Bool):∀(k i m:Nat),i+k=(shf s).length→k<m→dz s s K m (i:Int)=K ():=by
 have hq:List.length s.2.2.2.2.2.2.2.2.2.2.2.2.2.2.2.1=(shf s).length:=rfl
 intro k
 induction k with
 |zero=>
  intro i m hi hm
  cases m with
  |zero=>omega
  |succ m=>rw[dz,if_neg (by simp;omega)]
 |succ k ih=>
  intro i m hi hm
  cases m with
  |zero=>omega
  |succ m=>
   have e:∀u:SlT,eqD (.pair (.int .i64) (.pair (.arr 32 (.int .u8)) (.pair .bool .unit))) u u=true:=λu=>(kW (t:= .pair (.int .i64) (.pair (.arr 32 (.int .u8)) (.pair .bool .unit))) (by decide) u u).2 rfl
   rw[dz,if_pos (by simp;omega),if_pos (by omega),if_pos (by omega),e,if_neg (by simp),aP,aO (by omega) (by omega)]
   exact ih (i+1) m (by omega) (by omega)
theorem CN(s:ST)(h1:s.2.2.2.2.1.length<4611686018427387904)(h2:s.2.2.2.2.2.1.length<4611686018427387904)(h3:(shf s).length<4611686018427387904):dC s s=some true:=by
 have e2:∀u:Int×Int×Unit,eqD (.pair (.int .i64) (.pair (.int .i64) .unit)) u u=true:=λu=>(kW (t:= .pair (.int .i64) (.pair (.int .i64) .unit)) (by decide) u u).2 rfl
 have e3:∀u:List (List Int),eqD (.arr 2 (.arr 32 (.int .u8))) u u=true:=λu=>(kW (t:= .arr 2 (.arr 32 (.int .u8))) (by decide) u u).2 rfl
 have e4:∀u:List Int,eqD (.arr 32 (.int .u8)) u u=true:=λu=>(kW (t:= .arr 32 (.int .u8)) (by decide) u u).2 rfl
 unfold dC
 simp only[aP,e2,e3,e4,bne_self_eq_false,Bool.or_false,Bool.not_true,Bool.false_eq_true,if_false]
 refine(DS s h3 _ (shf s).length 0 _ (by omega) (Nat.lt_succ_self _)).trans ?_
 rw[Ev _ h1,aT,if_pos rfl,Ev _ h2,aT]
structure Bk(s:ST):Prop where
 ours:∀u∈s.2.2.2.2.1,aQ u.2.2.2.1∧aQ u.2.2.2.2.1
 peers:∀u∈s.2.2.2.2.2.1,aQ u.2.2.2.1∧aQ u.2.2.2.2.1
 shf:∀x∈shf s,aQ x.2.1
 p0:aQ (pt s 0)
 p1:aQ (pt s 1)
 sg:aQ (sig s)
theorem mA{a b:List Int}(ha:aQ a)(hb:aQ b):aQ (a++b):=λx hx=>(List.mem_append.1 hx).elim (ha x) (hb x)
theorem GQ{u:UT}(h:aQ u.2.2.2.1∧aQ u.2.2.2.2.1):aQ (uB u):=by
 unfold uB
 refine mA (mA (jj _ _) (jj _ _)) ?_
 split
 ·exact mA (jj _ _) h.1
 ·split
  ·exact h.1
  ·exact mA (jj _ _) h.2
def GR(r:RcT):ChT→Prop
 | .inl z=>z.1=r.2.1
 | .inr (.inl _)=>True
 | .inr (.inr (.inl z))=>z.2.1=r.2.2.1∧z.2.2.1=r.2.2.2.2.2.1
 | .inr (.inr (.inr (.inl z)))=>z.2.1=r.2.2.2.2.2.2.1∧z.2.2.1=r.2.2.2.2.2.2.2.1
 | .inr (.inr (.inr (.inr (.inr (.inr v)))))=>sz v=true
 |_=>True
theorem tOf(r:RcT):∃x,pd r=some x∧GR r x:=by
 unfold pd
 simp only[aP]
 repeat' split
 all_goals exact⟨_,rfl,by first|trivial|exact⟨rfl,rfl⟩|rfl⟩
def CO(x:ChT):Prop:=cD x=true∨(cD x=false∧wy x)
theorem yR(r:RcT)(hr:RcOk r):∃x,gW r=some x∧CO x:=by
 unfold gW
 refine aH (tOf r) λr3 h3=>?_
 have nil:∃x,(some (.inr (.inr (.inr (.inr (.inr (.inr Value.nilIface))))):ChT))=some x∧CO x:=⟨_,rfl,.inl rfl⟩
 split
 ·exact nil
 ·rename_i hn
  have hn:cD r3=false:=by simpa using hn
  have hv:∃x,li r3=some x∧(x=true→wy r3):=by
   rcases r3 with z|z|z|z|z|z|v
   ·have e:z.1=r.2.1:=h3
    refine aH (Q:=λ_=>True) ⟨_,sB _,trivial⟩ λb _=>⟨_,rfl,λ_=>?_⟩
    show UB z.1
    rw[e];exact hr.u
   ·obtain⟨x,hx,_⟩:=yQ z
    exact⟨x,hx,λ_=>trivial⟩
   ·have e:z.2.1=r.2.2.1∧z.2.2.1=r.2.2.2.2.2.1:=h3
    obtain⟨x,hx,h⟩:=Br z (by rw[e.1];exact hr.len)
    refine⟨x,hx,λt=>⟨?_,h t,?_⟩⟩
    ·rw[e.1];exact hr.us
    ·rw[e.2];exact hr.point
   ·have e:z.2.1=r.2.2.2.2.2.2.1∧z.2.2.1=r.2.2.2.2.2.2.2.1:=h3
    refine aH (sD _) λb _=>⟨_,rfl,λ_=>⟨?_,?_⟩⟩
    ·rw[e.1];exact hr.secret
    ·rw[e.2];exact hr.next
   ·show∃x,gL z=some x∧_
    unfold gL
    rw[aP];exact⟨_,rfl,λ_=>trivial⟩
   ·exact aH (sD _) λb _=>⟨_,rfl,λ_=>trivial⟩
   ·have h4:sz v=true:=h3;have h5:sz v=false:=hn;rw[h4]at h5;cases h5
  refine aH hv λr4 h4=>?_
  split
  ·exact nil
  ·rename_i ht
   have hok:wy r3:=h4 (by simpa using ht)
   have hrec:∃x,kI r3=some x∧x.2.2.1.length<4611686018427387904:=by
    rcases r3 with z|z|z|z|z|z|v
    ·exact⟨_,rfl,by simp⟩
    ·exact⟨_,rfl,by simp⟩
    ·exact⟨_,rfl,by have:z.2.1.length≤512:=hok.2.1;show z.2.1.length<_;omega⟩
    ·exact⟨_,rfl,by simp⟩
    ·exact⟨_,rfl,by simp⟩
    ·exact⟨_,rfl,by simp⟩
    ·have h4:sz v=true:=h3;have h5:sz v=false:=hn;rw[h4]at h5;cases h5
   refine aH hrec λr5 h5=>?_
   refine aH (F4 r5 r h5) λr6 _=>?_
   split
   ·exact nil
   ·exact⟨_,rfl,.inr ⟨hn,hok⟩⟩
def WOk(w:WT)(n:Nat):Prop:=w.2.1=0∧aQ w.1∧w.1.length≤n∧1≤w.1.length
theorem WOk.eq{w:WT}{n:Nat}(h:WOk w n):w=(w.1,0,()):=by
 obtain⟨a,b,⟨⟩⟩:=w
 have:b=0:=h.1
 subst this;rfl
theorem F5{w:WT}{n:Nat}(h:WOk w n)(u:UT)(hu:UB u)(hn:n≤1000000):∃x,ma w u=some x∧WOk x (n+100):=by
 unfold ma
 rw[FR u hu.1.1,aT,h.eq]
 have h1:=h.2.2.1;have h9:=h.2.2.2
 split
 ·rename_i hv
  have hb:=FQ hv hu.1.1
  dsimp only
  rw[Bp _ _ (by omega),aT]
  exact⟨_,rfl,rfl,mA h.2.1 (GQ ⟨hu.1.2,hu.2⟩),by show(w.1++uB u).length≤_;simp only[List.length_append];omega,by show 1≤(w.1++uB u).length;simp only[List.length_append];omega⟩
 ·rw[Bp _ _ (by simp;omega),aT]
  exact⟨_,rfl,rfl,mA h.2.1 yO,by simp;omega,by simp;omega⟩
theorem Bs{w:WT}{n:Nat}(h:WOk w n)(v:Int)(hn:n≤1000000):∃x,ca w v=some x∧WOk x (n+8):=by
 have h1:=h.2.2.1;have h9:=h.2.2.2
 rw[h.eq,FO _ _ (by omega)]
 exact⟨_,rfl,rfl,mA h.2.1 (jj _ _),by simp[fL];omega,by simp[fL]⟩
theorem Bt{w:WT}{n:Nat}(h:WOk w n)(v:Int)(hn:n≤1000000):∃x,cJ w (IntKind.wrap .u16 v)=some x∧WOk x (n+2):=by
 have h1:=h.2.2.1;have h9:=h.2.2.2
 have h2:=GJ v
 obtain⟨m,hm⟩:∃m:Nat,IntKind.wrap .u16 v=(m:Int):=⟨(IntKind.wrap .u16 v).toNat,by omega⟩
 rw[h.eq,hm,FP m (by omega) _ (by omega)]
 exact⟨_,rfl,rfl,mA h.2.1 (jj _ _),by simp[fL];omega,by simp[fL]⟩
theorem tW8(v:Int):∃x,dy ([],0,()) (IntKind.wrap .u8 v)=some x∧WOk x 1:=by
 have h2:=Hu v
 obtain⟨m,hm⟩:∃m:Nat,IntKind.wrap .u8 v=(m:Int):=⟨(IntKind.wrap .u8 v).toNat,by omega⟩
 rw[hm,wU8 m (by omega) _ (by simp)]
 exact⟨_,rfl,rfl,mA yO (jj _ _),by simp[fL],by simp[fL]⟩
theorem tWH{w:WT}{n:Nat}(h:WOk w n)(t:List Int)(ht:H32 t)(hn:n≤1000000):∃x,cE w t=some x∧WOk x (n+32):=by
 have h1:=h.2.2.1;have h9:=h.2.2.2
 have h2:=ht.1
 rw[h.eq,Bq _ _ (by omega)]
 exact⟨_,rfl,rfl,mA h.2.1 ht.2,by simp;omega,by simp;omega⟩
theorem CP(z:vS)(hz:∀u∈z.2.1,UB u)(hl:z.2.1.length≤512)(K:WT→Option WT)(hk:∀w,WOk w 60000→∃x,K w=some x∧WOk x 70000):∀(c i m:Nat) (w:WT),i+c=z.2.1.length→c<m→WOk w (100+i*100)→∃x,eF z K m ((i:Int),w)=some x∧WOk x 70000:=by
 intro c
 induction c with
 |zero=>
  intro i m w hi hm hw
  cases m with
  |zero=>omega
  |succ m=>
   rw[eF,if_neg (by simp;omega)]
   exact hk _ ⟨hw.1,hw.2.1,by have:=hw.2.2.1;show w.1.length≤_;omega,hw.2.2.2⟩
 |succ c ih=>
  intro i m w hi hm hw
  cases m with
  |zero=>omega
  |succ m=>
   rw[eF,if_pos (by simp;omega),if_pos (by omega),um (by omega:i<z.2.1.length)]
   refine aH (F5 hw _ (hz _ (List.getElem_mem _)) (by omega)) λr16 h16=>?_
   rw[aO (by omega) (by omega)]
   exact ih (i+1) m _ (by omega) (by omega) ⟨h16.1,h16.2.1,by have:=h16.2.2.1;omega,h16.2.2.2⟩
theorem DU(x:ChT)(hx:cD x=false∧wy x)(w:WT)(hw:WOk w 1):∃y,lq x w=some y∧WOk y 70000:=by
 have up:∀{y:WT} {n:Nat},n≤70000→WOk y n→WOk y 70000:=λh g=>⟨g.1,g.2.1,Nat.le_trans g.2.2.1 h,g.2.2.2⟩
 obtain⟨hn,hx⟩:=hx
 rcases x with z|z|z|z|z|z|v
 ·refine aH (F5 hw z.1 hx (by omega)) λr h=>⟨_,rfl,up (by omega) h⟩
 ·refine aH (Bs hw _ (by omega)) λr h=>aH (Bt h _ (by omega)) λr h=>aH (Bt h _ (by omega)) λr h=>⟨_,rfl,up (by omega) h⟩
 ·show∃y,iK z w=some y∧_
  unfold iK
  refine aH (Bs hw _ (by omega)) λr h=>aH (Bt h _ (by omega)) λr h=>?_
  rw[aP]
  refine CP z hx.1 hx.2.1 _ (λw hw=>aH (tWH hw _ hx.2.2 (by omega)) λr h=>⟨_,rfl,up (by omega) h⟩) z.2.1.length 0 _ _ (by omega) (by omega) ⟨h.1,h.2.1,by have:=h.2.2.1;omega,h.2.2.2⟩
 ·refine aH (Bs hw _ (by omega)) λr h=>aH (tWH h _ hx.1 (by omega)) λr h=>aH (tWH h _ hx.2 (by omega)) λr h=>⟨_,rfl,up (by omega) h⟩
 ·refine aH (Bt hw _ (by omega)) λr h=>⟨_,rfl,up (by omega) h⟩
 ·refine aH (Bs hw _ (by omega)) λr h=>⟨_,rfl,up (by omega) h⟩
 ·exact hx.elim
theorem CQ(r:RcT)(hr:RcOk r):∃x,lO r=some x∧(aQ x.1∧x.1.length≤70000∧(x.2=0→x.1≠[])):=by
 unfold lO
 refine aH (yR r hr) λr3 h3=>?_
 split
 ·exact⟨_,rfl,yO,by simp,by simp⟩
 ·rename_i hn
  have hg:cD r3=false∧wy r3:=h3.resolve_left hn
  unfold jF
  rw[aT]
  refine aH (tW8 _) λr6 h6=>?_
  refine aH (DU r3 hg r6 h6) λr7 h7=>?_
  rw[h7.eq]
  unfold cX
  rw[if_neg (by simp),aT]
  exact⟨_,rfl,h7.2.1,h7.2.2.1,λ_ h=>by have h8:=h7.2.2.2;have h9:r7.1=[]:=h;rw[h9]at h8;simp at h8⟩
structure SI(s:ST):Prop where
 ours:s.2.2.2.2.1.length≤2048
 peers:s.2.2.2.2.2.1.length≤2048
 shelf:(shf s).length≤49
theorem Ew:SI zS:=⟨Nat.zero_le _,Nat.zero_le _,Nat.zero_le _⟩
def AP(x:Bool×ST):Prop:=x.1=true→SI x.2
theorem sE(s:ST):AP (false,s):=λh=>by cases h
theorem F6(z:UT×Unit)(hz:UB z.1)(s:ST)(hs:SI s):∃x,iI z s=some x∧AP x:=by
 have h1:=hs.ours;have h2:=hs.peers
 unfold iI
 refine aH (Eu _ _ z.1 (by omega) hz.1) λr11 h11=>?_
 split
 ·exact⟨_,rfl,sE _⟩
 ·rename_i h
  have h0:r11=0:=by simpa using h
  have:=h11 h0
  rw[aP,if_pos (by simp;omega)]
  exact⟨_,rfl,λ_=>⟨by simp;omega,h2,hs.shelf⟩⟩
theorem DV(z:Int×(Int×Int×Unit)×Unit)(s:ST)(hs:SI s):∃x,gM z s=some x∧AP x:=by
 unfold gM
 simp only[aP]
 split
 ·exact⟨_,rfl,sE _⟩
 ·exact⟨_,rfl,λ_=>⟨hs.ours,hs.peers,hs.shelf⟩⟩
theorem CR(z:vS)(hz:∀u∈z.2.1,UB u)(hl:z.2.1.length≤512)(s:ST)(hs:SI s)(K)(hk:∀p (l:List UT),l.length≤2048→∃x,K (p,l)=some x∧AP x):∀(c i m:Nat) (l:List UT),i+c=z.2.1.length→c<m→l.length≤2048→∃x,eD z s K m ((i:Int),l)=some x∧AP x:=by
 intro c
 induction c with
 |zero=>
  intro i m l hi hm hw
  cases m with
  |zero=>omega
  |succ m=>
   rw[eD,if_neg (by simp;omega)]
   exact hk _ _ hw
 |succ c ih=>
  intro i m l hi hm hw
  cases m with
  |zero=>omega
  |succ m=>
   have h1:=hs.ours
   rw[eD,if_pos (by simp;omega),if_pos (by omega),um (by omega:i<z.2.1.length)]
   refine aH (Eu _ _ _ (by omega) (hz _ (List.getElem_mem _)).1) λr24 h24=>?_
   split
   ·exact⟨_,rfl,sE _⟩
   ·rename_i h
    have h0:r24=0:=by simpa using h
    have h3:l.length<2048:=h24 h0
    dsimp only
    rw[if_pos (by simp;omega),aO (by omega) (by omega)]
    exact ih (i+1) m _ (by omega) (by omega) (by simp;omega)
theorem F7(z:vS)(hz:∀u∈z.2.1,UB u)(hl:z.2.1.length≤512)(s:ST)(hs:SI s):∃x,iJ z s=some x∧AP x:=by
 have h2:=hs.peers
 unfold iJ
 simp only[aP]
 split
 ·exact⟨_,rfl,sE _⟩
 ·rename_i h
  rw[Bool.or_eq_true,Bool.or_eq_true,decide_eq_true_eq,decide_eq_true_eq,not_or,not_or]at h
  rw[if_pos (by omega)]
  refine CR z hz hl s hs _ (λp l hl=>⟨_,rfl,λ_=>⟨?_,?_,?_⟩⟩) z.2.1.length 0 _ _ (by omega) (by omega) (by simp;omega)
  ·exact hs.ours
  ·exact hl
  ·exact hs.shelf
theorem GS(z:F0)(hz:H32 z.2.1)(s:ST)(hs:SI s):∃x,gz z s=some x∧AP x:=by
 unfold gz
 simp only[aP]
 split
 ·exact⟨_,rfl,sE _⟩
 ·refine aH (Hv _ _ _ hz) λr12 h12=>?_
  split
  ·exact⟨_,rfl,sE _⟩
  ·rw[if_pos (by decide)]
   refine⟨_,rfl,λ_=>⟨?_,?_,?_⟩⟩
   ·exact hs.ours
   ·exact hs.peers
   ·exact h12
theorem DW(x:ChT)(hx:wy x)(s:ST)(hs:SI s):∃y,lj x s=some y∧AP y:=by
 rcases x with z|z|z|z|z|z|v
 ·exact F6 z hx s hs
 ·exact DV z s hs
 ·exact F7 z hx.1 hx.2.1 s hs
 ·exact GS z hx.1 s hs
 ·show∃y,gN z s=some y∧_
  unfold gN
  simp only[aP]
  split
  ·exact⟨_,rfl,λ_=>⟨hs.ours,hs.peers,hs.shelf⟩⟩
  ·exact⟨_,rfl,λ_=>hs⟩
 ·show∃y,gO z s=some y∧_
  unfold gO
  split
  ·exact⟨_,rfl,sE _⟩
  ·exact⟨_,rfl,λ_=>⟨hs.ours,hs.peers,hs.shelf⟩⟩
 ·exact hx.elim
theorem F8(s:ST)(hs:SI s)(r:RcT)(hr:RcOk r):∃x,ko s r=some x∧SI x.1:=by
 have h1:=hs.ours;have h2:=hs.peers;have h3:=hs.shelf
 have h3':s.2.2.2.2.2.2.2.2.2.2.2.2.2.2.2.1.length≤49:=h3
 unfold ko
 refine aH (yR r hr) λr6 h6=>?_
 split
 ·exact⟨_,rfl,Ew⟩
 ·rename_i hn
  have hok:=(h6.resolve_left hn).2
  unfold bh cg
  rw[if_pos (by simp;omega),if_pos (by simp;omega),if_pos (by simp;omega),aT,aT,aT]
  refine aH (DW r6 hok _ ⟨by simpa using h1,by simpa using h2,by simpa [shf]using h3'⟩) λr16 h16=>?_
  split
  ·exact⟨_,rfl,Ew⟩
  ·rename_i hb
   have hb:r16.1=true:=by simpa using hb
   rw[if_pos hb]
   have:=h16 hb
   exact⟨_,rfl,this.ours,this.peers,this.shelf⟩
end Sx
namespace Sx
namespace W
open Go
abbrev B32:=BitVec 32
def u(v:B32):Int:=(v.toNat:Int)
theorem DX(a:B32):0≤u a∧u a<4294967296:=by unfold u;have:=a.isLt;omega
theorem uo(a:B32):BitVec.ofInt 32 (u a)=a:=by simp[u]
theorem vd{n:Int}(h0:0≤n)(h:n<4294967296):IntKind.wrap .u32 n=n:=by
 simp only[IntKind.wrap,IntKind.bits,IntKind.signed,Bool.false_and,Bool.false_eq_true,if_false];omega
theorem aO{n:Int}(h0: -9223372036854775808≤n)(h:n<9223372036854775808):IntKind.wrap .i64 n=n:=by
 simp[IntKind.wrap,IntKind.bits,IntKind.signed];omega
theorem CS(a:B32):IntKind.wrap .u32 (u a)=u a:=vd (DX a).1 (DX a).2
theorem yS(a b:B32):cO .u32 (u a) (u b)=u (a^^^b):=by
 unfold cO;show IntKind.wrap .u32 (BitVec.ofInt 32 (u a)^^^BitVec.ofInt 32 (u b)).toNat=_
 rw[uo,uo];exact CS _
theorem F9(a b:B32):dV .u32 (u a) (u b)=u (a&&&b):=by
 unfold dV;show IntKind.wrap .u32 (BitVec.ofInt 32 (u a)&&&BitVec.ofInt 32 (u b)).toNat=_
 rw[uo,uo];exact CS _
theorem Ga(a:B32){n:Nat}(hn:n≤32):bS .u32 (u a) n=u (a>>>n):=by
 unfold bS
 have:min (Int.toNat (n:Int)) (IntKind.bits .u32)=n:=by simp[IntKind.bits];omega
 rw[this]
 simp only[u,BitVec.toNat_ushiftRight,Nat.shiftRight_eq_div_pow]
 rw[Int.fdiv_eq_ediv_of_nonneg _ (Int.le_of_lt (Int.pow_pos (by decide)))]
 simp
theorem CT(a:B32):qG .u32 (u a)=u (~~~a):=by
 unfold qG
 show cO .u32 (IntKind.max .u32) (u a)=_
 have:IntKind.max .u32=u (BitVec.allOnes 32):=by decide
 rw[this,yS]
 congr 1
end W
end Sx
namespace Sx
namespace W
open Go
section
variable {V:Type}
theorem uq(a b:List Int):keq .str a b=(a==b):=rfl
theorem Fj(k:List Int):aA .str k ([]:List (List Int×V))=none:=rfl
theorem fC(k:List Int)(p:List Int×V)(l:List (List Int×V)):aA .str k (p::l)=if p.1=k then some p.2 else aA .str k l:=by
 unfold aA
 rw[List.find?_cons]
 by_cases h:p.1=k
 ·simp[uq,h]
 ·have:keq .str p.1 k=false:=by simp[uq,h]
  simp[this,h]
theorem AL{k:List Int}{v:V}:∀{l:List (List Int×V)},aA .str k l=some v→(k,v)∈l
 |[],h=>by cases h
 |p::l,h=>by
  rw[fC]at h
  split at h
  ·rename_i hp
   simp only[Option.some.injEq]at h
   subst h;subst hp
   exact List.mem_cons_self ..
  ·exact List.mem_cons_of_mem _ (AL h)
theorem get_none{k:List Int}:∀{l:List (List Int×V)},aA .str k l=none↔k∉l.map (·.1)
 |[]=>by simp[Fj]
 |p::l=>by
  rw[fC]
  split
  ·rename_i hp;simp[hp]
  ·rename_i hp
   rw[get_none]
   simp only[List.map_cons,List.mem_cons,not_or]
   exact⟨λh=>⟨λe=>hp e.symm,h⟩,λh=>h.2⟩
theorem tM(k:List Int)(v:V)(p:List Int×V)(l:List (List Int×V)):cm .str k v (p::l)=(if p.1=k then(p.1,v)else p)::cm .str k v l:=by
 unfold cm
 rw[List.map_cons]
 by_cases h:p.1=k
 ·simp[uq,h]
 ·simp[uq,h]
theorem vf{k:List Int}{v y:V}:∀{l:List (List Int×V)},aA .str k l=some y→aA .str k (cm .str k v l)=some v
 |[],h=>by cases h
 |p::l,h=>by
  rw[fC]at h
  rw[tM,fC]
  by_cases hp:p.1=k
  ·simp[hp]
  ·rw[if_neg hp]at h
   rw[if_neg hp,if_neg hp]
   exact vf h
theorem pb(k:List Int)(v:V):∀(l:List (List Int×V)),(cm .str k v l).map (·.1)=l.map (·.1)
 |[]=>rfl
 |p::l=>by
  rw[tM,List.map_cons,List.map_cons,pb k v l]
  split<;>simp_all
theorem yU{k:List Int}{v:V}{q:List Int×V}:∀{l:List (List Int×V)},q∈cm .str k v l→q=(k,v)∨q∈l
 |[],h=>by cases h
 |p::l,h=>by
  rw[tM]at h
  rcases List.mem_cons.1 h with h|h
  ·by_cases hp:p.1=k
   ·rw[if_pos hp]at h;left;rw[h,hp]
   ·rw[if_neg hp]at h;right;simp[h]
  ·rcases yU h with h|h
   ·exact .inl h
   ·exact .inr (by simp[h])
theorem rA(k:List Int)(l:List (List Int×V)):cn .str k l=l.filter λp=> !(p.1==k):=rfl
theorem qM{a b:List Int}(h:a≠b):∀(l:List (List Int×V)),aA .str b (cn .str a l)=aA .str b l
 |[]=>rfl
 |p::l=>by
  rw[rA,List.filter_cons]
  by_cases hp:p.1=a
  ·have:(!(p.1==a))=false:=by simp[hp]
   rw[if_neg (by simp[this]),fC,if_neg (by rw[hp];exact h)]
   exact qM h l
  ·rw[if_pos (by simp[hp]),fC,fC]
   rw[←rA,qM h l]
theorem yV{k:List Int}{q:List Int×V}{l:List (List Int×V)}(h:q∈cn .str k l):q∈l:=(List.mem_filter.1 h).1
theorem pins_mem{k:List Int}{v:V}{q:List Int×V}:∀{l:List (List Int×V)},q∈cP .str k v l↔q=(k,v)∨q∈l
 |[]=>by simp[cP]
 |p::l=>by
  simp only[cP]
  split
  ·simp
  ·simp only[List.mem_cons,pins_mem (l:=l)]
   constructor
   ·rintro(h|h|h)
    ·exact .inr (.inl h)
    ·exact .inl h
    ·exact .inr (.inr h)
   ·rintro(h|h|h)
    ·exact .inr (.inl h)
    ·exact .inl h
    ·exact .inr (.inr h)
theorem tN{k:List Int}{v:V}:∀(l:List (List Int×V)),(cP .str k v l).length=l.length+1
 |[]=>rfl
 |p::l=>by
  simp only[cP]
  split
  ·rfl
  ·simp[tN l]
theorem uM{a b:List Int}(h:a≠b)(v:V):∀(l:List (List Int×V)),aA .str b (cP .str a v l)=aA .str b l
 |[]=>by rw[show cP .str a v ([]:List (List Int×V))=[(a,v)]from rfl,fC,if_neg h]
 |p::l=>by
  simp only[cP]
  split
  ·rw[fC,if_neg h]
  ·rw[fC,fC,uM h v l]
theorem s7{a:List Int}(v:V):∀(l:List (List Int×V)),aA .str a l=none→aA .str a (cP .str a v l)=some v
 |[],_=>by rw[show cP .str a v ([]:List (List Int×V))=[(a,v)]from rfl,fC,if_pos rfl]
 |p::l,h=>by
  rw[fC]at h
  have hp:p.1≠a:=λe=>by rw[if_pos e]at h;cases h
  rw[if_neg hp]at h
  simp only[cP]
  split
  ·rw[fC,if_pos rfl]
  ·rw[fC,if_neg hp,s7 v l h]
theorem s8(a:List Int)(v:V)(l:List (List Int×V)):aA .str a (dn .str a v l)=some v:=s7 v _ (pm (kt:= .str) l)
theorem zV{a b:List Int}(h:a≠b)(v:V)(l:List (List Int×V)):aA .str b (dn .str a v l)=aA .str b l:=by
 unfold dn
 rw[uM h,qM h]
theorem rB{a:List Int}(v:V):∀(l:List (List Int×V)),((cP .str a v l).map (·.1)).Perm (a::l.map (·.1))
 |[]=> .refl _
 |p::l=>by
  simp only[cP]
  split
  ·exact .refl _
  ·simp only[List.map_cons]
   exact((rB v l).cons _).trans (.swap _ _ _)
theorem qN(k:List Int)(l:List (List Int×V)):(cn .str k l).length≤l.length:=List.length_filter_le _ _
theorem rC{k:List Int}{v:V}:∀{l:List (List Int×V)},aA .str k l=some v→(cn .str k l).length<l.length
 |[],h=>by cases h
 |p::l,h=>by
  rw[fC]at h
  rw[rA,List.filter_cons]
  by_cases hp:p.1=k
  ·rw[if_neg (by simp[hp])]
   have:=qN k l
   rw[rA]at this
   simp only[List.length_cons];omega
  ·rw[if_neg hp]at h
   rw[if_pos (by simp[hp])]
   have:=rC h
   rw[rA]at this
   simp only[List.length_cons];omega
theorem vT{k:List Int}{l:List (List Int×V)}(h:(l.map (·.1)).Nodup):((cn .str k l).map (·.1)).Nodup:=h.sublist (List.Sublist.map _ List.filter_sublist)
end
def FOk(f:aF):Prop:=aQ f.1∧aQ f.2.1∧f.1.length≤1048576∧f.2.1.length≤f.1.length∧f.2.2.Nodup∧∀s∈f.2.2,0≤s∧s<16384
def FsOk(fs:List (List Int×aF)):Prop:=(∀p∈fs,FOk p.2)∧(fs.map (·.1)).Nodup∧fs.length≤16
theorem FsOk.get{fs:List (List Int×aF)}(h:FsOk fs){k:List Int}{f:aF}(hf:aA .str k fs=some f):FOk f:=h.1 _ (AL hf)
theorem FsOk.set{fs:List (List Int×aF)}(h:FsOk fs){k:List Int}{f:aF}(hf:FOk f):FsOk (cm .str k f fs):=
 ⟨λp hp=>by rcases yU hp with rfl|hp;exact hf;exact h.1 p hp,by rw[pb];exact h.2.1,by have:=congrArg List.length (pb k f fs);simp only[List.length_map]at this;rw[this];exact h.2.2⟩
theorem FsOk.del{fs:List (List Int×aF)}(h:FsOk fs)(k:List Int):FsOk (cn .str k fs):=⟨λp hp=>h.1 p (yV hp),vT h.2.1,Nat.le_trans (qN _ _) h.2.2⟩
theorem FsOk.put{fs:List (List Int×aF)}(h:FsOk fs){k:List Int}{f:aF}(hf:FOk f)(hl:aA .str k fs=none→fs.length<16):FsOk (dn .str k f fs):=by
 refine⟨λp hp=>?_,?_,?_⟩
 ·rcases pins_mem.1 hp with rfl|hp
  ·exact hf
  ·exact h.1 p (yV hp)
 ·refine(List.Perm.nodup_iff (rB (a:=k) f (cn .str k fs))).2 ?_
  exact List.nodup_cons.2 ⟨get_none.1 (pm (kt:= .str) fs),vT h.2.1⟩
 ·unfold dn
  rw[tN]
  cases hg:aA .str k fs with
  |none=>have:=hl hg;have:=qN k fs;omega
  |some y=>have:=rC hg;have:=h.2.2;omega
theorem w9(D:aB):∀(ks:List (List Int)) (s:Int),(∀k∈ks,∃f,aA .str k D.2.1=some f∧f.1.length≤1048576)→0≤s→s+ks.length*1048576<4611686018427387904→
  ∃s',fq (dY D) ks s=some s'∧0≤s'∧s'≤s+ks.length*1048576
 |[],s,_,h0,_=>⟨s,rfl,h0,by simp⟩
 |k::ks,s,hk,h0,hb=>by
  obtain⟨f,hf,hl⟩:=hk k (by simp)
  simp only[List.length_cons,Int.natCast_add,Int.cast_ofNat_Int]at hb⊢
  have e:dY D k s=some (s+f.1.length):=by
   unfold dY
   simp only[hf,Option.bind_some,aP]
   rw[aO (by omega) (by omega)]
  obtain⟨s',h1,h2,h3⟩:=w9 D ks (s+f.1.length) (λk' hk'=>hk k' (by simp[hk'])) (by omega) (by omega)
  refine⟨s',?_,h2,by omega⟩
  show(dY D k s).bind _=_
  rw[e];exact h1
theorem AM{D:aB}(h:FsOk D.2.1):∃u,gc D=some u∧0≤u∧u≤D.2.1.length*1048576:=by
 obtain⟨s',h1,h2,h3⟩:=w9 D (D.2.1.map (·.1)) 0 (λk hk=>by
  cases hg:aA .str k D.2.1 with
  |none=>exact absurd hk (get_none.1 hg)
  |some f=>exact⟨f,rfl,(h.get hg).2.2.1⟩) (by omega) (by simp only[List.length_map];have:=h.2.2;omega)
 refine⟨s',?_,h2,?_⟩
 ·unfold gc
  simp only[aP,h1,Option.bind_some]
 ·simp only[List.length_map]at h3;omega
end W
end Sx
namespace Sx
namespace W
open Go
theorem vV(D:aB)(w:Int):∃e a f o p,cY D w=some (e,(D.1,D.2.1,a,D.2.2.2.1,f,o,p))∧((e=9∧o=true∧p=true)∨((e=0∨e=40)∧o=D.2.2.2.2.2.1∧p=D.2.2.2.2.2.2)):=by
 unfold cY
 simp only[aP]
 split
 ·split
  ·exact⟨9,_,_,_,_,rfl,.inl ⟨rfl,rfl,rfl⟩⟩
  ·split
   ·split
    ·split
     ·exact⟨40,_,_,_,_,rfl,.inr ⟨.inr rfl,rfl,rfl⟩⟩
     ·exact⟨0,_,_,_,_,rfl,.inr ⟨.inl rfl,rfl,rfl⟩⟩
    ·exact⟨0,_,_,_,_,rfl,.inr ⟨.inl rfl,rfl,rfl⟩⟩
   ·rw[if_neg (by decide)]
    exact⟨0,_,_,_,_,rfl,.inr ⟨.inl rfl,rfl,rfl⟩⟩
 ·split
  ·split
   ·split
    ·exact⟨40,_,_,_,_,rfl,.inr ⟨.inr rfl,rfl,rfl⟩⟩
    ·exact⟨0,_,_,_,_,rfl,.inr ⟨.inl rfl,rfl,rfl⟩⟩
   ·exact⟨0,_,_,_,_,rfl,.inr ⟨.inl rfl,rfl,rfl⟩⟩
  ·rw[if_neg (by decide)]
   exact⟨0,_,_,_,_,rfl,.inr ⟨.inl rfl,rfl,rfl⟩⟩
theorem sF{D:aB}(name:List Int)(ho:D.2.2.2.2.2.1=false):cz D name=some (if(aA .str name D.2.1).isSome then 0 else 5):=by
 unfold cz
 rw[if_neg (by simp[ho])]
 simp only[aP]
 cases aA .str name D.2.1<;>rfl
theorem yW{l:List Int}(h:l.length≤1048576):cU l=some l:=by
 unfold cU
 rw[if_pos (by simp only[List.length_nil];omega)]
 rfl
theorem Sync_eq{D:aB}{name:List Int}{f:aF}(hok:FsOk D.2.1)(ho:D.2.2.2.2.2.1=false)(hf:aA .str name D.2.1=some f):∃e a fl o p,cY D 2=some (e,(D.1,D.2.1,a,D.2.2.2.1,fl,o,p))∧
  dJ D name=some (if e=0 then(0,(D.1,cm .str name (f.1,f.1,[]) D.2.1,a,D.2.2.2.1,fl,o,p))else(e,(D.1,D.2.1,a,D.2.2.2.1,fl,o,p))):=by
 obtain⟨e,a,fl,o,p,hc,_⟩:=vV D 2
 refine⟨e,a,fl,o,p,hc,?_⟩
 unfold dJ
 rw[sF name ho,hf]
 simp only[Option.isSome_some,if_true,Option.bind_some,hc]
 rw[if_neg (by decide)]
 by_cases he:e=0
 ·subst he
  rw[if_neg (by decide)]
  simp only[hf,Option.bind_some,yW (hok.get hf).2.2.1,if_true]
 ·rw[if_pos (by simpa using he),if_neg he]
theorem kput_mem{k q:Int}{ks:List Int}:q∈nB k ks↔q=k∨q∈ks:=by
 unfold nB dn
 have:∀l:List (Int×Unit),q∈(cP (.int .i64) k () l).map (·.1)↔q=k∨q∈l.map (·.1):=by
  intro l
  induction l with
  |nil=>simp[cP]
  |cons p l ih=>
   simp only[cP]
   split
   ·simp
   ·simp only[List.map_cons,List.mem_cons,ih]
    constructor
    ·rintro(h|h|h)
     ·exact .inr (.inl h)
     ·exact .inl h
     ·exact .inr (.inr h)
    ·rintro(h|h|h)
     ·exact .inr (.inl h)
     ·exact .inl h
     ·exact .inr (.inr h)
 rw[this]
 constructor
 ·rintro(h|h)
  ·exact .inl h
  ·obtain⟨p,hp,e⟩:=List.mem_map.1 h
   have hp:=(List.mem_filter.1 hp).1
   obtain⟨x,hx,e2⟩:=List.mem_map.1 hp
   subst e2;subst e
   exact .inr hx
 ·rintro(h|h)
  ·exact .inl h
  ·by_cases hq:q=k
   ·exact .inl hq
   ·exact .inr (List.mem_map.2 ⟨(q,()),List.mem_filter.2 ⟨List.mem_map.2 ⟨q,h,rfl⟩,by simp[keq,hq]⟩,rfl⟩)
theorem Bu{k:Int}{ks:List Int}(h:ks.Nodup):(nB k ks).Nodup:=by
 unfold nB dn
 have key:∀l:List (Int×Unit),((cP (.int .i64) k () l).map (·.1)).Perm (k::l.map (·.1)):=by
  intro l
  induction l with
  |nil=>exact .refl _
  |cons p l ih=>
   simp only[cP]
   split
   ·exact .refl _
   ·simp only[List.map_cons]
    exact(ih.cons _).trans (.swap _ _ _)
 refine(List.Perm.nodup_iff (key _)).2 (List.nodup_cons.2 ⟨λhk=>?_,?_⟩)
 ·obtain⟨p,hp,e⟩:=List.mem_map.1 hk
  have:=(List.mem_filter.1 hp).2
  subst e
  simp[keq]at this
 ·refine List.Nodup.sublist (List.Sublist.map _ List.filter_sublist) ?_
  have e:(ks.map λx=>(x,())).map (·.1)=ks:=by rw[List.map_map];exact List.map_id _
  rw[e];exact h
theorem CU{l:List Int}(hn:l.Nodup)(hb:∀s∈l,0≤s∧s<16384):l.length≤16384:=by
 have:(l.map Int.toNat).Nodup:=by
  refine List.Pairwise.map _ (λa b h=>h) ?_
  refine List.Pairwise.imp_of_mem ?_ hn
  intro a b ha hb' h e
  have:=hb a ha;have:=hb b hb'
  exact h (by omega)
 have h2:(l.map Int.toNat)⊆List.range 16384:=λx hx=>by
  obtain⟨s,hs,rfl⟩:=List.mem_map.1 hx
  have:=hb s hs
  exact List.mem_range.2 (by omega)
 have:=List.Nodup.length_le_of_subset this h2
 simpa using this
theorem yX(at0:Int)(text:List Int)(k:List Int→Option (Int×aB))(h0:0≤at0)(hb:at0+text.length≤1048576):∀(fuel:Nat) (s:Int) (ds:List Int),0≤s→at0+text.length≤(s+fuel - 1)*64→1≤fuel→s≤16384→ds.Nodup→(∀x∈ds,0≤x∧x<16384)→
  ∃ds',cF at0 text k fuel (s,ds)=k ds'∧ds'.Nodup∧(∀x∈ds',0≤x∧x<16384)∧∀x,x∈ds'↔x∈ds∨(text≠[]∧s≤x∧x*64<at0+text.length)
 |0,s,ds,_,_,h1,_,_,_=>absurd h1 (by omega)
 |fuel+1,s,ds,hs,hf,_,hs2,hn,hd=>by
  simp only[cF,aP]
  rw[aO (n:=s*64) (by omega) (by omega),aO (n:=at0+text.length) (by omega) (by omega)]
  by_cases hc:(decide (s*64<at0+(text.length:Int))&&(text !=[]))=true
  ·rw[if_pos hc]
   have hlt:s*64<at0+(text.length:Int):=by simp only[Bool.and_eq_true,decide_eq_true_eq]at hc;exact hc.1
   rw[if_pos (by have:=CU hn hd;omega),aO (n:=s+1) (by omega) (by omega)]
   have hfu:1≤fuel:=by
    rcases Nat.eq_zero_or_pos fuel with h|h
    ·subst h;simp at hf;omega
    ·exact h
   have htx:text≠[]:=by simp only[Bool.and_eq_true,bne_iff_ne]at hc;exact hc.2
   obtain⟨ds',e1,e2,e3,e4⟩:=yX at0 text k h0 hb fuel (s+1) (nB s ds) (by omega) (by simp only[Int.natCast_add,Int.cast_ofNat_Int]at hf;omega) hfu (by omega) (Bu hn) (λx hx=>by
    rcases kput_mem.1 hx with rfl|hx
    ·omega
    ·exact hd x hx)
   refine⟨ds',e1,e2,e3,λx=>(e4 x).trans ?_⟩
   rw[kput_mem]
   constructor
   ·rintro((rfl|h)|⟨h1,h2,h3⟩)
    ·exact .inr ⟨htx,by omega,by omega⟩
    ·exact .inl h
    ·exact .inr ⟨h1,by omega,h3⟩
   ·rintro(h|⟨h1,h2,h3⟩)
    ·exact .inl (.inr h)
    ·rcases Int.lt_or_eq_of_le h2 with h|h
     ·exact .inr ⟨h1,by omega,h3⟩
     ·exact .inl (.inl h.symm)
  ·rw[if_neg hc]
   refine⟨ds,rfl,hn,hd,λx=>⟨.inl,λh=>h.elim id λ⟨h1,h2,h3⟩=>absurd ?_ hc⟩⟩
   simp only[Bool.and_eq_true,decide_eq_true_eq,bne_iff_ne]
   exact⟨by omega,h1⟩
end W
end Sx
namespace Sx
namespace W
open Go
def over(seen:List Int)(i:Nat)(text:List Int):List Int:=seen.take i++text++seen.drop (i+text.length)
theorem uN{seen text:List Int}{i:Nat}(h:i≤seen.length):(over seen i text).length=max seen.length (i+text.length):=by
 unfold over
 simp only[List.length_append,List.length_take,List.length_drop]
 omega
theorem CV{xs ys:List Int}{i:Nat}(h:i+ys.length≤xs.length):bq xs i ys=over xs i ys:=by
 unfold bq over
 rw[List.take_of_length_le (l:=ys) (by omega)]
theorem Bv{seen text:List Int}{i:Nat}(h:i≤seen.length)(h2:seen.length<i+text.length)(m:Nat)(hm:m=i+text.length - seen.length):over (seen++List.replicate m 0) i text=over seen i text:=by
 unfold over
 rw[List.take_append_of_le_length h,List.drop_of_length_le (by simp;omega),List.drop_of_length_le (by omega)]
theorem oO{a b:List Int}(ha:aQ a)(hb:aQ b):aQ (a++b):=λx hx=>(List.mem_append.1 hx).elim (ha x) (hb x)
theorem p5{a b:List Int}(hs:a⊆b)(hb:aQ b):aQ a:=λx hx=>hb x (hs hx)
theorem Bw{seen text:List Int}{i:Nat}(hs:aQ seen)(ht:aQ text):aQ (over seen i text):=
 oO (oO (p5 (List.take_subset _ _) hs) ht) (p5 (List.drop_subset _ _) hs)
def cI(fs:List (List Int×aF))(name:List Int):List Int:=((aA .str name fs).map (·.1)).getD []
def p6(fs:List (List Int×aF))(name:List Int):List Int:=((aA .str name fs).map (·.2.1)).getD []
def pQ(fs:List (List Int×aF))(name:List Int):List Int:=match aA .str name fs with|none=>[]|some f=>f.2.2
theorem zX{D:aB}{name text:List Int}{at0:Int}(hok:FsOk D.2.1)(ho:D.2.2.2.2.2.1=false)(hn:gl name=some true)(ht:aQ text)(h0:0≤at0)(h1:at0≤(cI D.2.1 name).length)(hb:at0+text.length≤1048576)
  (hroom:aA .str name D.2.1=none→D.2.1.length<16) (hcap:∀u,gc D=some u→u+max 0 (at0+text.length - (cI D.2.1 name).length)≤D.1):
  ∃e a fl o p fs',cY D 1=some (e,(D.1,D.2.1,a,D.2.2.2.1,fl,o,p))∧bG D name at0 text=some (if e=0 then(0,(D.1,fs',a,D.2.2.2.1,fl,o,p))else(e,(D.1,D.2.1,a,D.2.2.2.1,fl,o,p)))∧
   FsOk fs'∧(∃ds,aA .str name fs'=some (over (cI D.2.1 name) at0.toNat text,p6 D.2.1 name,ds)∧∀x,x∈ds↔x∈pQ D.2.1 name∨(text≠[]∧at0/64≤x∧x*64<at0+text.length))∧(∀b,name≠b→aA .str b fs'=aA .str b D.2.1)∧fs'.map (·.1)=(if(aA .str name D.2.1).isSome then D.2.1 else dn .str name ([],[],[]) D.2.1).map (·.1):=by
 obtain⟨e,a,fl,o,p,hc,_⟩:=vV D 1
 obtain⟨u,hu,hu0,hu1⟩:=AM hok
 have bU:=hok.2.2
 replace hcap:=hcap u hu
 have hbase:∃fs1 f1,fs1=(if(aA .str name D.2.1).isSome then D.2.1 else dn .str name ([],[],[]) D.2.1)∧aA .str name fs1=some f1∧f1.1=cI D.2.1 name∧f1.2.1=p6 D.2.1 name∧f1.2.2=pQ D.2.1 name∧FsOk fs1∧FOk f1∧∀b,name≠b→aA .str b fs1=aA .str b D.2.1:=by
  cases hg:aA .str name D.2.1 with
  |some f=>exact⟨_,f,by simp,hg,by simp[cI,hg],by simp[p6,hg],by simp[pQ,hg],hok,hok.get hg,λ_ _=>rfl⟩
  |none=>
   have hf0:FOk ([],[],[]):=⟨(λx hx=>by cases hx),(λx hx=>by cases hx),by simp,by simp,by simp,(λx hx=>by cases hx)⟩
   exact⟨_,([],[],[]),by simp,s8 _ _ _,by simp[cI,hg],by simp[p6,hg],by simp[pQ,hg],hok.put hf0 hroom,hf0,λb hb=>zV hb _ _⟩
 obtain⟨fs1,f1,hfs1,hg1,hs1,hsf,hdf,hok1,hfo,hne1⟩:=hbase
 have hsl:f1.1.length≤1048576:=hfo.2.2.1
 rw[←hs1]at h1 hcap
 have hlong:∃fs2 z,(fs2=if at0+(text.length:Int)>f1.1.length then cm .str name (f1.1++List.replicate z 0,f1.2.1,f1.2.2) fs1 else fs1)∧z=Int.toNat (at0+text.length - f1.1.length):=⟨_,_,rfl,rfl⟩
 obtain⟨fs2,z,hfs2,hz⟩:=hlong
 let f2s:List Int:=if at0+(text.length:Int)>f1.1.length then f1.1++List.replicate z 0 else f1.1
 have hg2:aA .str name fs2=some (f2s,f1.2.1,f1.2.2):=by
  rw[hfs2]
  show _=some ((if _ then _ else _),_,_)
  split
  ·exact vf hg1
  ·exact hg1
 have hne2:∀b,name≠b→aA .str b fs2=aA .str b D.2.1:=λb hb=>by
  rw[hfs2]
  split
  ·rw[ku hb,hne1 b hb]
  ·exact hne1 b hb
 have hk2:fs2.map (·.1)=fs1.map (·.1):=by
  rw[hfs2]
  split
  ·rw[pb]
  ·rfl
 have hf2l:(f2s.length:Int)=max (f1.1.length:Int) (at0+text.length):=by
  show((if _ then _ else _:List Int).length:Int)=_
  split
  ·rename_i hgt
   simp only[List.length_append,List.length_replicate,hz];omega
  ·omega
 have hf2b:aQ f2s:=by
  show aQ (if _ then _ else _)
  split
  ·exact oO hfo.1 (λx hx=>by rw[(List.mem_replicate.1 hx).2];decide)
  ·exact hfo.1
 have hov:bq f2s (Int.toNat at0) text=over f1.1 (Int.toNat at0) text:=by
  rw[CV (by omega)]
  show over (if _ then _ else _) _ _=_
  split
  ·rename_i hgt
   exact Bv (by omega) (by omega) z (by rw[hz];omega)
  ·rfl
 have hok2:FsOk fs2:=by
  rw[hfs2]
  split
  ·rename_i hgt
   refine hok1.set ⟨oO hfo.1 (λx hx=>by rw[(List.mem_replicate.1 hx).2];decide),hfo.2.1,?_,?_,hfo.2.2.2.2⟩
   ·simp only[List.length_append,List.length_replicate,hz];omega
   ·have:=hfo.2.2.2.1
    simp only[List.length_append,List.length_replicate];omega
  ·exact hok1
 obtain⟨ds,hds,hdn,hdb,hdm⟩:=yX at0 text (λo30=>some ((0:Int),(D.1,cm .str name (bq f2s (Int.toNat at0) text,f1.2.1,o30) fs2,a,D.2.2.2.1,fl,o,p))) h0 hb (text.length+2) (at0/64) f1.2.2 (by omega) (by omega) (by omega) (by omega) hfo.2.2.2.2.1 hfo.2.2.2.2.2
 refine⟨e,a,fl,o,p,cm .str name (bq f2s (Int.toNat at0) text,f1.2.1,ds) fs2,hc,?_,?_,⟨ds,?_⟩,λb hb=>by rw[ku hb,hne2 b hb],by rw[pb,hk2,hfs1]⟩
 ·have hsz:(0:Int)≤(f1.1.length:Int):=by omega
  have hw1:IntKind.wrap .i64 (at0+(text.length:Int))=at0+text.length:=aO (by omega) (by omega)
  have hw2:IntKind.wrap .i64 (at0+(text.length:Int) - f1.1.length)=at0+text.length - f1.1.length:=aO (by omega) (by omega)
  have hw3:IntKind.wrap .i64 (u+max 0 (at0+(text.length:Int) - f1.1.length))=u+max 0 (at0+(text.length:Int) - f1.1.length):=aO (by omega) (by omega)
  have htd:IntKind.wrap .i64 (Int.tdiv at0 64)=at0/64:=by rw[Int.tdiv_eq_ediv_of_nonneg h0];exact aO (by omega) (by omega)
  have tail:∀(n0:Int),n0=f1.1.length→∀k16fs:List (List Int×aF),k16fs=fs1→(λ(o17:List (List Int×aF))=>if(decide (at0+(text.length:Int)>n0))=true then((aA .str name o17).bind λ(f41:aF)=>if 0≤at0+(text.length:Int) - n0∧(List.length f41.1+Int.toNat (at0+(text.length:Int) - n0))*1≤140737488355328 then
    ((aA .str name (cm .str name ((f41.1++List.replicate (Int.toNat (at0+(text.length:Int) - n0)) 0),f41.2.1,f41.2.2) o17)).bind λ(f22:aF)=>if(0:Int)≤at0∧at0≤(List.length f22.1:Int)∧(List.length f22.1:Int)≤(List.length f22.1:Int)then cF at0 text (λo30=>some ((0:Int),(D.1,(cm .str name ((bq f22.1 (Int.toNat at0) text),f22.2.1,o30) (cm .str name ((f41.1++List.replicate (Int.toNat (at0+(text.length:Int) - n0)) 0),f41.2.1,f41.2.2) o17)),a,D.2.2.2.1,fl,o,p))) (text.length+2) (at0/64,f22.2.2)else none)else none)else
    ((aA .str name o17).bind λ(f22:aF)=>if(0:Int)≤at0∧at0≤(List.length f22.1:Int)∧(List.length f22.1:Int)≤(List.length f22.1:Int)then cF at0 text (λo30=>some ((0:Int),(D.1,(cm .str name ((bq f22.1 (Int.toNat at0) text),f22.2.1,o30) o17),a,D.2.2.2.1,fl,o,p))) (text.length+2) (at0/64,f22.2.2)else none)) k16fs=some (0,(D.1,cm .str name (bq f2s (Int.toNat at0) text,f1.2.1,ds) fs2,a,D.2.2.2.1,fl,o,p)):=by
   rintro n0 hn0 k16fs rfl
   subst hn0
   rw[←hds]
   show(if _ then _ else _)=_
   by_cases hgt:at0+(text.length:Int)>f1.1.length
   ·have e1:f2s=f1.1++List.replicate z 0:=if_pos hgt
    have e2:fs2=cm .str name (f1.1++List.replicate z 0,f1.2.1,f1.2.2) k16fs:=by rw[hfs2,if_pos hgt]
    rw[if_pos (by simpa using hgt),hg1]
    simp only[Option.bind_some]
    rw[if_pos (by omega),←hz,←e2,hg2]
    simp only[Option.bind_some]
    rw[if_pos (by omega)]
   ·have e1:f2s=f1.1:=if_neg hgt
    have e2:fs2=k16fs:=by rw[hfs2,if_neg hgt]
    rw[if_neg (by simpa using hgt)]
    rw[e2]at hg2
    rw[hg2]
    simp only[Option.bind_some]
    rw[if_pos (by omega),e2]
  unfold bG
  rw[if_neg (by simp[ho])]
  simp only[aP,hn,hu,hc,Option.bind_some]
  have hne:∀n0:Int,n0=f1.1.length→(if(decide (at0<0)||decide (at0>n0))=true then some (1,D)
  else
   if decide (IntKind.i64.wrap (at0+↑text.length)>1048576)=true then some (3,D)
   else
    if decide (IntKind.i64.wrap (u+max 0 (IntKind.i64.wrap (IntKind.i64.wrap (at0+↑text.length) - n0)))>D.fst)=true then some (41,D)
    else if(e !=0)=true then some (e,D.fst,D.snd.fst,a,D.snd.snd.snd.fst,fl,o,p)else some (0,(D.1,cm .str name (bq f2s (Int.toNat at0) text,f1.2.1,ds) fs2,a,D.2.2.2.1,fl,o,p)))=some (if e=0 then(0,(D.1,cm .str name (bq f2s (Int.toNat at0) text,f1.2.1,ds) fs2,a,D.2.2.2.1,fl,o,p))else(e,(D.1,D.2.1,a,D.2.2.2.1,fl,o,p))):=by
   rintro n0 rfl
   rw[hw1,hw2,hw3,if_neg (by simp only[Bool.or_eq_true,decide_eq_true_eq];omega),if_neg (by simp only[decide_eq_true_eq];omega),if_neg (by simp only[decide_eq_true_eq];omega)]
   by_cases he:e=0
   ·rw[if_neg (by simp[he]),if_pos he]
   ·rw[if_pos (by simpa using he),if_neg he]
  cases hg:aA .str name D.2.1 with
  |none=>
   rw[hg]at hfs1
   simp only[Option.isSome_none,Bool.false_eq_true,if_false]at hfs1
   have hfe:f1=([],[],[]):=by rw[hfs1,s8]at hg1;exact(Option.some.inj hg1).symm
   have hl0:(0:Int)=(f1.1.length:Int):=by rw[hfe];rfl
   have hr:=hroom hg
   rw[←hne 0 hl0,←tail 0 hl0 _ hfs1.symm]
   simp only[Option.isSome_none,Bool.false_eq_true,if_false,Bool.not_true,Bool.false_or,Bool.not_false,if_true]
   have hm:D.2.1.length≤most:=by simp only[most];omega
   have h16:¬decide ((D.2.1.length:Int)≥16)=true:=by simp only[decide_eq_true_eq];omega
   have h62:D.2.1.length<4611686018427387904:=by omega
   simp only[if_pos hm,if_neg h16,if_pos h62,htd,hw1]
   have hw2':IntKind.wrap .i64 (at0+(text.length:Int) - 0)=at0+text.length - 0:=aO (by omega) (by omega)
   simp only[hw2']
  |some f=>
   rw[hg]at hfs1
   simp only[Option.isSome_some,if_true]at hfs1
   have hff:f1=f:=by rw[hfs1,hg]at hg1;exact(Option.some.inj hg1).symm
   have hl0:(f.1.length:Int)=(f1.1.length:Int):=by rw[hff]
   rw[←hne _ hl0,←tail _ hl0 _ hfs1.symm]
   simp only[Option.isSome_some,if_true,Option.bind_some,Bool.not_true,Bool.false_or,Bool.false_eq_true,if_false]
   have hw2':IntKind.wrap .i64 (at0+(text.length:Int) - f.1.length)=at0+text.length - f.1.length:=by rw[hl0];exact hw2
   simp only[htd,hw1,hw2',hg,Option.bind_some]
 ·refine hok2.set ⟨?_,hfo.2.1,?_,?_,hdn,hdb⟩
  ·show aQ (bq _ _ _)
   rw[hov];exact Bw hfo.1 ht
  ·show(bq _ _ _).length≤_
   rw[hov,uN (by omega)];omega
  ·show f1.2.1.length≤(bq _ _ _).length
   have:=hfo.2.2.2.1
   rw[hov,uN (by omega)];omega
 ·refine⟨by rw[vf hg2,hov,hs1,hsf],λx=>?_⟩
  rw[←hdf];exact hdm x
end W
end Sx
namespace Sx
namespace W
open Go
end W
end Sx
namespace Sx
namespace W
open Go
end W
end Sx
namespace Sx
namespace W
open Go
theorem yY(a:List Int)(hl:a.length<4611686018427387904)(k:Unit→Option Bool)(hk:∃b,k ()=some b):∀(j i:Nat),i+j=a.length→∃b,hJ a k (j+1) (i:Int)=some b
 |0,i,h=>by
  unfold hJ
  rw[if_neg (by simp only[decide_eq_true_eq];omega)]
  exact hk
 |j+1,i,h=>by
  unfold hJ
  rw[if_pos (by simp only[decide_eq_true_eq];omega)]
  have hin:(0:Int)≤(i:Int)∧(i:Int)<(a.length:Int):=by omega
  have ew:IntKind.wrap .i64 ((i:Int)+1)=((i+1:Nat):Int):=aO (by omega) (by omega)
  obtain⟨b,hb⟩:=yY a hl k hk j (i+1) (by omega)
  simp only[aP,ew,hb,if_pos hin]
  by_cases h1:decide (List.getD a (Int.toNat (i:Int)) 0<33)=true
  ·rw[if_pos h1];exact⟨_,rfl⟩
  ·rw[if_neg h1]
   by_cases h2:decide (List.getD a (Int.toNat (i:Int)) 0>126)=true
   ·rw[if_pos h2];exact⟨_,rfl⟩
   ·rw[if_neg h2];exact⟨_,rfl⟩
theorem Bx(a:List Int)(hl:a.length<4611686018427387904):∃b,gl a=some b:=by
 unfold gl
 simp only[aP]
 have ef:Int.toNat ((a.length:Int) - 0)+1=a.length+1:=by omega
 rw[ef]
 exact yY a hl _ ⟨_,rfl⟩ a.length 0 (by omega)
theorem CW{D:aB}(name:List Int)(ho:D.2.2.2.2.2.1=true):cz D name=some 9:=by
 unfold cz
 rw[if_pos ho]
end W
end Sx
namespace Sx
namespace W
open Go
theorem Bz{D:aB}{name text:List Int}{at0:Int}(hok:FsOk D.2.1)(hat:rng .i64 at0)(ht:aQ text)(htl:text.length≤140737488355328)(hnl:name.length<4611686018427387904):
  (∃e,e≠0∧bG D name at0 text=some (e,D))∨
  (D.2.2.2.2.2.1=false∧gl name=some true∧0≤at0∧at0≤(cI D.2.1 name).length∧at0+text.length≤1048576∧∃e a fl o p fs',cY D 1=some (e,(D.1,D.2.1,a,D.2.2.2.1,fl,o,p))∧bG D name at0 text=some (if e=0 then(0,(D.1,fs',a,D.2.2.2.1,fl,o,p))else(e,(D.1,D.2.1,a,D.2.2.2.1,fl,o,p)))∧
    FsOk fs'∧(∃ds,aA .str name fs'=some (over (cI D.2.1 name) at0.toNat text,p6 D.2.1 name,ds)∧∀x,x∈ds↔x∈pQ D.2.1 name∨(text≠[]∧at0/64≤x∧x*64<at0+text.length))∧(∀b,name≠b→aA .str b fs'=aA .str b D.2.1)∧fs'.map (·.1)=(if(aA .str name D.2.1).isSome then D.2.1 else dn .str name ([],[],[]) D.2.1).map (·.1)∧∀u,gc D=some u→u+max 0 (at0+text.length - (cI D.2.1 name).length)≤D.1):=by
 rcases Bool.eq_false_or_eq_true D.2.2.2.2.2.1 with ho|ho
 ·exact .inl ⟨9,by decide,by unfold bG;rw[if_pos ho]⟩
 ·
  obtain⟨b,hb⟩:=Bx name hnl
  obtain⟨u,hu,hu0,hu1⟩:=AM hok
  have bU:=hok.2.2
  have hm:D.2.1.length≤most:=by simp only[most];omega
  have hr: -9223372036854775808≤at0∧at0≤9223372036854775807:=by simpa only[rng,lo,Sx.hi]using hat
  have hsl:(cI D.2.1 name).length≤1048576:=by
   unfold cI
   cases hg:aA .str name D.2.1 with
   |none=>simp
   |some f=>exact(hok.get hg).2.2.1
  have hw:bG D name at0 text=bG D name at0 text:=rfl
  by_cases c1:b=true∧0≤at0∧at0≤(cI D.2.1 name).length
  ·obtain⟨rfl,h0,h1⟩:=c1
   have hw1:IntKind.wrap .i64 (at0+(text.length:Int))=at0+text.length:=aO (by omega) (by omega)
   by_cases c2:at0+text.length≤1048576
   ·by_cases c3:aA .str name D.2.1=none→D.2.1.length<16
    ·by_cases c4:u+max 0 (at0+text.length - (cI D.2.1 name).length)≤D.1
     ·have hcap:∀u',gc D=some u'→u'+max 0 (at0+text.length - (cI D.2.1 name).length)≤D.1:=λu' hu'=>by rw[hu]at hu';cases hu';exact c4
      obtain⟨e,a,fl,o,p,fs',g1,g2,g3,g4,g5,g6⟩:=zX hok ho hb ht h0 h1 c2 c3 hcap
      exact .inr ⟨ho,hb,h0,h1,c2,e,a,fl,o,p,fs',g1,g2,g3,g4,g5,g6,hcap⟩
     ·refine .inl ⟨41,by decide,?_⟩
      unfold bG
      rw[if_neg (by simp[ho])]
      simp only[aP,hb,hu,Option.bind_some,hw1]
      have hw2:IntKind.wrap .i64 (at0+(text.length:Int) - (cI D.2.1 name).length)=at0+text.length - (cI D.2.1 name).length:=aO (by omega) (by omega)
      have hw3:IntKind.wrap .i64 (u+max 0 (at0+(text.length:Int) - (cI D.2.1 name).length))=u+max 0 (at0+(text.length:Int) - (cI D.2.1 name).length):=aO (by omega) (by omega)
      cases hg:aA .str name D.2.1 with
      |none=>
       have hz:cI D.2.1 name=[]:=by simp[cI,hg]
       rw[hz]at hw2 hw3 c4 h1
       simp only[List.length_nil,Int.natCast_zero]at hw2 hw3 c4 h1
       have h16:=c3 hg
       simp only[Option.isSome_none,Bool.false_eq_true,if_false,Bool.not_true,Bool.false_or,Bool.not_false,if_true,hw2,hw3]
       rw[if_neg (by simp only[Bool.or_eq_true,decide_eq_true_eq];omega),if_neg (by simp only[decide_eq_true_eq];omega),if_pos hm,if_neg (by simp only[decide_eq_true_eq];omega),if_pos (by simp only[decide_eq_true_eq];omega)]
      |some f=>
       have hz:cI D.2.1 name=f.1:=by simp[cI,hg]
       rw[hz]at hw2 hw3 c4 h1
       simp only[Option.isSome_some,if_true,Option.bind_some,Bool.not_true,Bool.false_or,Bool.false_eq_true,if_false,hw2,hw3]
       rw[if_neg (by simp only[Bool.or_eq_true,decide_eq_true_eq];omega),if_neg (by simp only[decide_eq_true_eq];omega),if_pos (by simp only[decide_eq_true_eq];omega)]
    ·have hg:aA .str name D.2.1=none:=Classical.byContradiction λh=>c3 (λh'=>absurd h' h)
     have h16:¬D.2.1.length<16:=λh=>c3 (λ_=>h)
     have hz:cI D.2.1 name=[]:=by simp[cI,hg]
     rw[hz]at h1
     simp only[List.length_nil,Int.natCast_zero]at h1
     refine .inl ⟨6,by decide,?_⟩
     unfold bG
     rw[if_neg (by simp[ho])]
     simp only[aP,hb,Option.bind_some,hw1,hg,Option.isSome_none,Bool.false_eq_true,if_false,Bool.not_true,Bool.false_or,Bool.not_false,if_true]
     rw[if_neg (by simp only[Bool.or_eq_true,decide_eq_true_eq];omega),if_neg (by simp only[decide_eq_true_eq];omega),if_pos hm,if_pos (by simp only[decide_eq_true_eq];omega)]
   ·refine .inl ⟨3,by decide,?_⟩
    unfold bG
    rw[if_neg (by simp[ho])]
    simp only[aP,hb,Option.bind_some,hw1]
    cases hg:aA .str name D.2.1 with
    |none=>
     have hz:cI D.2.1 name=[]:=by simp[cI,hg]
     rw[hz]at h1
     simp only[List.length_nil,Int.natCast_zero]at h1
     simp only[Option.isSome_none,Bool.false_eq_true,if_false,Bool.not_true,Bool.false_or]
     rw[if_neg (by simp only[Bool.or_eq_true,decide_eq_true_eq];omega),if_pos (by simp only[decide_eq_true_eq];omega)]
    |some f=>
     have hz:cI D.2.1 name=f.1:=by simp[cI,hg]
     rw[hz]at h1
     simp only[Option.isSome_some,if_true,Option.bind_some,Bool.not_true,Bool.false_or]
     rw[if_neg (by simp only[Bool.or_eq_true,decide_eq_true_eq];omega),if_pos (by simp only[decide_eq_true_eq];omega)]
  ·refine .inl ⟨1,by decide,?_⟩
   unfold bG
   rw[if_neg (by simp[ho])]
   simp only[aP,hb,Option.bind_some]
   cases hg:aA .str name D.2.1 with
   |none=>
    have hz:cI D.2.1 name=[]:=by simp[cI,hg]
    rw[hz]at c1
    simp only[List.length_nil,Int.natCast_zero]at c1
    simp only[Option.isSome_none,Bool.false_eq_true,if_false]
    rw[if_pos (by cases b<;>simp only[Bool.not_false,Bool.not_true,Bool.true_or,Bool.false_or,Bool.or_eq_true,decide_eq_true_eq,true_and]at c1⊢;omega)]
   |some f=>
    have hz:cI D.2.1 name=f.1:=by simp[cI,hg]
    rw[hz]at c1
    simp only[Option.isSome_some,if_true,Option.bind_some]
    rw[if_pos (by cases b<;>simp only[Bool.not_false,Bool.not_true,Bool.true_or,Bool.false_or,Bool.or_eq_true,decide_eq_true_eq,true_and]at c1⊢;omega)]
theorem BA{D:aB}{name text:List Int}{at0:Int}(hok:FsOk D.2.1)(hat:rng .i64 at0)(ht:aQ text)(htl:text.length≤140737488355328)(hnl:name.length<4611686018427387904):
  (∃e,e≠0∧bG D name at0 text=some (e,D))∨
  (D.2.2.2.2.2.1=false∧gl name=some true∧0≤at0∧at0≤(cI D.2.1 name).length∧at0+text.length≤1048576∧∃e a fl o p fs',cY D 1=some (e,(D.1,D.2.1,a,D.2.2.2.1,fl,o,p))∧bG D name at0 text=some (if e=0 then(0,(D.1,fs',a,D.2.2.2.1,fl,o,p))else(e,(D.1,D.2.1,a,D.2.2.2.1,fl,o,p)))∧
    FsOk fs'∧(∃ds,aA .str name fs'=some (over (cI D.2.1 name) at0.toNat text,p6 D.2.1 name,ds)∧∀x,x∈ds↔x∈pQ D.2.1 name∨(text≠[]∧at0/64≤x∧x*64<at0+text.length))∧(∀b,name≠b→aA .str b fs'=aA .str b D.2.1)∧fs'.map (·.1)=(if(aA .str name D.2.1).isSome then D.2.1 else dn .str name ([],[],[]) D.2.1).map (·.1)):=by
 rcases Bz hok hat ht htl hnl with h|⟨ho,hb,h0,h1,c2,e,a,fl,o,p,fs',g1,g2,g3,g4,g5,g6,_⟩
 ·exact .inl h
 ·exact .inr ⟨ho,hb,h0,h1,c2,e,a,fl,o,p,fs',g1,g2,g3,g4,g5,g6⟩
theorem Write_any{D:aB}{name text:List Int}{at0:Int}(hok:FsOk D.2.1)(hat:rng .i64 at0)(ht:aQ text)(htl:text.length≤140737488355328)(hnl:name.length<4611686018427387904):
  (∃e,e≠0∧bG D name at0 text=some (e,D))∨
  (D.2.2.2.2.2.1=false∧gl name=some true∧0≤at0∧at0≤(cI D.2.1 name).length∧at0+text.length≤1048576∧∃e a fl o p fs',cY D 1=some (e,(D.1,D.2.1,a,D.2.2.2.1,fl,o,p))∧bG D name at0 text=some (if e=0 then(0,(D.1,fs',a,D.2.2.2.1,fl,o,p))else(e,(D.1,D.2.1,a,D.2.2.2.1,fl,o,p)))∧
    FsOk fs'∧(∃ds,aA .str name fs'=some (over (cI D.2.1 name) at0.toNat text,p6 D.2.1 name,ds))∧(∀b,name≠b→aA .str b fs'=aA .str b D.2.1)∧fs'.map (·.1)=(if(aA .str name D.2.1).isSome then D.2.1 else dn .str name ([],[],[]) D.2.1).map (·.1)):=by
 rcases BA hok hat ht htl hnl with h|⟨g1,g2,g3,g4,g5,e,a,fl,o,p,fs',g6,g7,g8,⟨ds,g9,_⟩,g10,g11⟩
 ·exact .inl h
 ·exact .inr ⟨g1,g2,g3,g4,g5,e,a,fl,o,p,fs',g6,g7,g8,⟨ds,g9⟩,g10,g11⟩
theorem zY{ks:List Int}{n:Int}{s:Int}:s∈kc ks n→s∈ks:=λh=>(List.mem_filter.1 h).1
theorem Truncate_any{D:aB}{name:List Int}{n:Int}(hok:FsOk D.2.1):
  (∃e,e≠0∧cM D name n=some (e,D))∨
  (D.2.2.2.2.2.1=false∧∃f,aA .str name D.2.1=some f∧0≤n∧n≤f.1.length∧cM D name n=some (0,(D.1,cm .str name (f.1.take n.toNat,f.2.1.take n.toNat,kc f.2.2 n) D.2.1,D.2.2.1,D.2.2.2.1,D.2.2.2.2.1,D.2.2.2.2.2.1,D.2.2.2.2.2.2))∧
    FOk (f.1.take n.toNat,f.2.1.take n.toNat,kc f.2.2 n)):=by
 rcases Bool.eq_false_or_eq_true D.2.2.2.2.2.1 with ho|ho
 ·exact .inl ⟨9,by decide,by unfold cM;rw[CW name ho];rfl⟩
 ·
  cases hg:aA .str name D.2.1 with
  |none=>exact .inl ⟨5,by decide,by unfold cM;rw[sF name ho,hg];rfl⟩
  |some f=>
   have hf:=hok.get hg
   have hl:=hf.2.2.1
   have hl2:=hf.2.2.2.1
   by_cases hn:0≤n∧n≤f.1.length
   ·refine .inr ⟨ho,f,rfl,hn.1,hn.2,?_,?_⟩
    ·unfold cM
     rw[sF name ho,hg]
     simp only[Option.isSome_some,if_true,Option.bind_some,aP]
     rw[if_neg (by decide),if_neg (by simp only[Bool.or_eq_true,decide_eq_true_eq];omega),if_pos (by omega),yW (by simp only[List.length_take];omega)]
     simp only[Option.bind_some]
     have e1:List.take (Int.toNat (min n (f.2.1.length:Int))) f.2.1=f.2.1.take n.toNat:=by
      rcases Int.le_total n (f.2.1.length:Int)with h|h
      ·rw[Int.min_eq_left h]
      ·rw[Int.min_eq_right h,Int.toNat_natCast,List.take_length,List.take_of_length_le (by omega)]
     rw[if_pos (by omega),e1]
    ·refine⟨λx hx=>hf.1 x (List.mem_of_mem_take hx),λx hx=>hf.2.1 x (List.mem_of_mem_take hx),?_,?_,hf.2.2.2.2.1.filter _,λs hs=>hf.2.2.2.2.2 s (zY hs)⟩
     ·simp only[List.length_take];omega
     ·simp only[List.length_take];omega
   ·refine .inl ⟨1,by decide,?_⟩
    unfold cM
    rw[sF name ho,hg]
    simp only[Option.isSome_some,if_true,Option.bind_some,aP]
    rw[if_neg (by decide),if_pos (by simp only[Bool.or_eq_true,decide_eq_true_eq];omega)]
end W
end Sx
namespace Sx
namespace W
open Go
def Gb:B32:=2197175160#32
def low(x:B32):Bool:=x.getLsbD 0
def step(x:B32):B32:=(x>>>1)^^^(if low x then Gb else 0#32)
theorem Fk(x y:B32):low (x^^^y)=(low x^^low y):=BitVec.getLsbD_xor
theorem Fl(a b c:B32):a^^^(b^^^c)=b^^^(a^^^c):=by rw[←BitVec.xor_assoc,←BitVec.xor_assoc,BitVec.xor_comm a b]
def it:Nat→B32→B32
 |0,x=>x
 |n+1,x=>it n (step x)
theorem DY(x y:B32):step (x^^^y)=step x^^^step y:=by
 simp only[step,BitVec.ushiftRight_xor_distrib,Fk]
 cases low x<;>cases low y<;>simp[BitVec.xor_assoc,Fl Gb]<;>exact BitVec.xor_comm _ _
theorem CX:∀(n:Nat) (x y:B32),it n (x^^^y)=it n x^^^it n y
 |0,_,_=>rfl
 |n+1,x,y=>by simp only[it,DY,CX n]
theorem CY:∀(m n:Nat) (x:B32),it (m+n) x=it n (it m x)
 |0,n,x=>by simp[it]
 |m+1,n,x=>by rw[Nat.succ_add];exact CY m n (step x)
theorem CZ:∀(n:Nat) (x:B32),(∀i,i<n→x.getLsbD i=false)→it n x=x>>>n
 |0,x,_=>by simp[it]
 |n+1,x,h=>by
  have h0:step x=x>>>1:=by
   have h1:low x=false:=h 0 (by omega)
   simp[step,h1]
  simp only[it,h0]
  rw[CZ n (x>>>1) (λi hi=>by rw[BitVec.getLsbD_ushiftRight];exact h (1+i) (by omega)),←BitVec.shiftRight_add]
  congr 1;omega
theorem DZ(n:Nat)(x:B32):it n x=(x>>>n)^^^it n (x&&&(BitVec.allOnes 32>>>(32 - n))):=by
 have key:x=(x&&& ~~~(BitVec.allOnes 32>>>(32 - n)))^^^(x&&&(BitVec.allOnes 32>>>(32 - n))):=by
  apply BitVec.eq_of_getLsbD_eq;intro i hi
  simp only[BitVec.getLsbD_xor,BitVec.getLsbD_and,BitVec.getLsbD_not]
  cases x.getLsbD i<;>simp[hi]
 conv=>lhs;rw[key]
 rw[CX]
 congr 1
 rw[CZ]
 ·apply BitVec.eq_of_getLsbD_eq;intro i hi
  simp only[BitVec.getLsbD_ushiftRight,BitVec.getLsbD_and,BitVec.getLsbD_not,BitVec.getLsbD_allOnes]
  by_cases h:n+i<32
  ·have:¬(32 - n+(n+i)<32):=by omega
   simp[h,this]
  ·have:=BitVec.getLsbD_of_ge x (n+i) (by omega)
   simp[this]
 ·intro i hi
  simp only[BitVec.getLsbD_and,BitVec.getLsbD_not,BitVec.getLsbD_ushiftRight,BitVec.getLsbD_allOnes]
  by_cases h:i<32
  ·have:32 - n+i<32:=by omega
   simp[this]
  ·simp[BitVec.getLsbD_of_ge x i (by omega)]
def halfTab:List Int:=(List.range 16).map λi=>u (it 4 (BitVec.ofNat 32 i))
theorem C0:pC=some halfTab:=by decide+kernel
theorem xa(x:B32):(if 0≤dV .u32 (u x) 15∧dV .u32 (u x) 15<16 then some (cO .u32 (bS .u32 (u x) 4) (List.getD halfTab (Int.toNat (dV .u32 (u x) 15)) 0))else none)=some (u (it 4 x)):=by
 have e:dV .u32 (u x) 15=u (x&&&15#32):=F9 x 15#32
 have hlt:(x&&&15#32).toNat<16:=by rw[BitVec.toNat_and];exact Nat.lt_of_le_of_lt Nat.and_le_right (by decide)
 rw[e,if_pos (by unfold u;omega)]
 have e2:Int.toNat (u (x&&&15#32))=(x&&&15#32).toNat:=by unfold u;omega
 have e3:halfTab.getD (x&&&15#32).toNat 0=u (it 4 (x&&&15#32)):=by
  simp only[halfTab,List.getD,List.getElem?_map,List.getElem?_range hlt,Option.map_some,Option.getD_some]
  simp
 have e4:bS .u32 (u x) 4=u (x>>>4):=Ga x (n:=4) (by omega)
 rw[e2,e3,e4,yS,DZ 4 x]
 rfl
def run:B32→List Int→B32
 |x,[]=>x
 |x,c::r=>run (it 8 (x^^^BitVec.ofInt 32 c)) r
theorem Gc{c:Int}(h:0≤c∧c<256):IntKind.wrap .u32 c=u (BitVec.ofInt 32 c):=by
 rw[vd h.1 (by omega)]
 obtain⟨n,rfl⟩:=Int.eq_ofNat_of_zero_le h.1
 simp[u];omega
theorem yZ(b:List Int)(hb:aQ b)(hl:b.length<4611686018427387904)(k:Int→Option Int):∀(j i:Nat) (x:B32),i+j=b.length→lI b halfTab k (j+1) (u x,(i:Int))=k (u (run x (b.drop i)))
 |0,i,x,h=>by
  simp only[lI]
  rw[if_neg (by simp;omega),List.drop_of_length_le (by omega)];rfl
 |j+1,i,x,h=>by
  rw[lI]
  have hlt:i<b.length:=by omega
  rw[if_pos (by simp;omega),if_pos (by constructor<;>omega)]
  have hg:List.getD b (Int.toNat (i:Int)) 0=b[i]:=by simp[List.getD,hlt]
  have hx:cO .u32 (u x) (IntKind.wrap .u32 b[i])=u (x^^^BitVec.ofInt 32 b[i]):=by
   rw[Gc (hb _ (List.getElem_mem hlt)),yS]
  have hd:b.drop i=b[i]::b.drop (i+1):=List.drop_eq_getElem_cons hlt
  simp only[aP,hg,hx]
  have s1:=xa (x^^^BitVec.ofInt 32 b[i])
  have s2:=xa (it 4 (x^^^BitVec.ofInt 32 b[i]))
  split at s1
  ·rename_i c1
   rw[if_pos c1]
   simp only[Option.some.injEq]at s1
   rw[s1]
   split at s2
   ·rename_i c2
    rw[if_pos c2]
    simp only[Option.some.injEq]at s2
    rw[s2,aO (by omega) (by omega),show((i:Int)+1)=((i+1:Nat):Int)by omega,yZ b hb hl k j (i+1) _ (by omega),hd]
    simp only[run]
    rw[←CY 4 4]
   ·cases s2
  ·cases s1
def on(x:B32)(b:List Int):B32:= ~~~run (~~~x) b
theorem Ex(x:B32)(b:List Int)(hb:aQ b)(hl:b.length<4611686018427387904):nN (u x) b=some (u (on x b)):=by
 simp only[nN,C0,aT,aP]
 have e:Int.toNat ((b.length:Int) - 0)+1=b.length+1:=by omega
 have:=yZ b hb hl (λo=>some (qG .u32 o)) b.length 0 (~~~x) (by omega)
 rw[e,CT]
 simp only[CT,List.drop_zero]at this
 exact this
theorem Ge(b:List Int)(hb:aQ b)(hl:b.length<4611686018427387904):nl b=some (u (on 0#32 b)):=by
 have:nN 0 b=some (u (on 0#32 b)):=Ex 0#32 b hb hl
 simp[nl,this]
theorem AN:∀(a b:List Int) (x:B32),run x (a++b)=run (run x a) b
 |[],_,_=>rfl
 |c::a,b,x=>by simp only[List.cons_append,run];exact AN a b _
theorem GT(x:B32)(a b:List Int):on (on x a) b=on x (a++b):=by
 unfold on;rw[AN];simp
end W
end Sx
namespace Sx
namespace W
open Go
theorem ov{n:Int}(h0:0≤n)(h:n<18446744073709551616):IntKind.wrap .u64 n=n:=by
 simp only[IntKind.wrap,IntKind.bits,IntKind.signed,Bool.false_and,Bool.false_eq_true,if_false];omega
theorem yL(x:Nat):(x:Int) % 256=((x % 256:Nat):Int):=by omega
theorem nk(n:Int):IntKind.wrap .u8 n=n % 256:=by
 simp only[IntKind.wrap,IntKind.bits,IntKind.signed,Bool.false_and,Bool.false_eq_true,if_false];rfl
def be(v n:Nat):List Int:=(List.range n).map λi=>((v/2^(8*(n - 1 - i)) % 256:Nat):Int)
theorem fL(v n:Nat):(be v n).length=n:=by simp[be]
theorem jj(v n:Nat):aQ (be v n):=by
 intro c hc
 simp only[be,List.mem_map]at hc
 obtain⟨i,_,rfl⟩:=hc
 omega
theorem D2{m:Nat}(f g:Nat→Int){i:Nat}(hi:i<m):List.set ((List.range m).map λk=>if k<i then f k else g k) i (f i)=(List.range m).map λk=>if k<i+1 then f k else g k:=by
 apply List.ext_getElem?
 intro k
 rw[List.getElem?_set]
 simp only[List.length_map,List.length_range,List.getElem?_map]
 by_cases hk:i=k
 ·subst hk
  simp[hi]
 ·rw[if_neg hk]
  by_cases hkm:k<m
  ·rw[List.getElem?_range hkm]
   simp only[Option.map_some,Option.some.injEq]
   by_cases h1:k<i
   ·rw[if_pos h1,if_pos (by omega)]
   ·rw[if_neg h1,if_neg (by omega)]
  ·rw[List.getElem?_eq_none (by simp;omega)];rfl
theorem pP(V m:Nat)(hm:m≤64):bS .u64 (V:Int) (m:Int)=((V/2^m:Nat):Int):=by
 unfold bS
 have:min (Int.toNat (m:Int)) (IntKind.bits .u64)=m:=by simp[IntKind.bits];omega
 rw[this,Int.fdiv_eq_ediv_of_nonneg _ (Int.le_of_lt (Int.pow_pos (by decide)))]
 simp
def p7(v n i:Nat):List Int:=(List.range n).map λk=>if k<i then((v/2^(8*(n - 1 - k)) % 256:Nat):Int)else 0
theorem vW(v n:Nat)(hn:n≤8)(K:List Int→Option (List Int)):∀(j i:Nat),i+j=n→iC (v:Int) (n:Int) K (j+1) ((i:Int),p7 v n i)=K (be v n)
 |0,i,h=>by
  obtain rfl:i=n:=by omega
  simp only[iC]
  rw[if_neg (by simp)]
  congr 1
  apply List.map_congr_left;intro k hk;rw[if_pos (by simpa using hk)]
 |j+1,i,h=>by
  rw[iC]
  have e1:IntKind.wrap .i64 ((n:Int) - 1)=((n - 1:Nat):Int):=by rw[aO (by omega) (by omega)];omega
  have e2:IntKind.wrap .i64 (((n - 1:Nat):Int) - (i:Int))=((n - 1 - i:Nat):Int):=by rw[aO (by omega) (by omega)];omega
  have e3:IntKind.wrap .i64 (8*((n - 1 - i:Nat):Int))=((8*(n - 1 - i):Nat):Int):=by rw[aO (by omega) (by omega)];omega
  have hl:(p7 v n i).length=n:=by simp[p7]
  simp only[e1,e2,e3,hl,List.length_replicate,Int.toNat_natCast]
  rw[if_pos (by simp;omega),if_pos (by omega),aP,if_pos (by omega),pP v _ (by omega),nk,aO (by omega) (by omega),show((i:Int)+1)=((i+1:Nat):Int)by omega]
  have:List.set (p7 v n i) i (((v/2^(8*(n - 1 - i)):Nat):Int) % 256)=p7 v n (i+1):=by
   rw[yL]
   exact D2 (m:=n) (λk=>((v/2^(8*(n - 1 - k)) % 256:Nat):Int)) (λ_=>0) (i:=i) (by omega)
  rw[this]
  exact vW v n hn K j (i+1) (by omega)
theorem AO(v n:Nat)(hn:n≤8):iX (v:Int) (n:Int)=some (be v n):=by
 unfold iX
 rw[if_pos (by omega)]
 simp only[aP,List.length_replicate,Int.toNat_natCast]
 have e:Int.toNat ((n:Int) - 0)+1=n+1:=by omega
 have e2:List.replicate n (0:Int)=p7 v n 0:=by
  simp only[p7,Nat.not_lt_zero,if_false]
  rw[List.map_const',List.length_range]
 rw[e,e2]
 exact vW v n hn (λo=>some o) n 0 (by omega)
def room(n:Nat):Nat:=(16+n+63)/64*64
def sG(n:Nat)(p:List Int):B32:=on 0#32 (be p.length 4++be n 8++p)
def bare(n:Nat)(p:List Int):List Int:=be p.length 4++be n 8++be (sG n p).toNat 4++p
def frameOf(n:Nat)(p:List Int):List Int:=bare n p++List.replicate (room p.length - (16+p.length)) 0
theorem y1(n:Nat)(p:List Int):(bare n p).length=16+p.length:=by simp[bare,fL];omega
theorem frameOf_len(n:Nat)(p:List Int):(frameOf n p).length=room p.length:=by
 simp only[frameOf,List.length_append,y1,List.length_replicate,room];omega
theorem Gf(L:Nat)(hL:L≤1000000):dV .i64 (IntKind.wrap .i64 (0 - (L:Int))) 63=(((64 - L % 64) % 64:Nat):Int):=by
 rw[aO (by omega) (by omega)]
 unfold dV
 show IntKind.wrap .i64 ((BitVec.ofInt 64 (0 - (L:Int))&&&BitVec.ofInt 64 63).toNat:Int)=_
 have e:(BitVec.ofInt 64 (0 - (L:Int))&&&BitVec.ofInt 64 63).toNat=(64 - L % 64) % 64:=by
  rw[BitVec.toNat_and]
  have h63:(BitVec.ofInt 64 63).toNat=2^6 - 1:=by decide
  rw[h63,Nat.and_two_pow_sub_one_eq_mod,BitVec.toNat_ofInt]
  omega
 rw[e,aO (by omega) (by omega)]
theorem D3(n:Nat):room n - (16+n)=(64 - (16+n) % 64) % 64:=by simp only[room];omega
def frameAns(n:Int)(p:List Int):List Int×Int:=if n<0 then([],1)else if p.length>65536 then([],3)else(frameOf n.toNat p,0)
theorem C1(n:Nat)(p:List Int):aQ (be p.length 4++be n 8):=λc hc=>by
 rcases List.mem_append.1 hc with h|h
 ·exact jj _ _ c h
 ·exact jj _ _ c h
theorem Frame_eq(n:Int)(p:List Int)(hn:rng .i64 n)(hp:aQ p)(hl:p.length≤140737488351232):kY n p=some (frameAns n p):=by
 simp only[rng,lo,hi]at hn
 unfold kY frameAns
 by_cases h0:n<0
 ·rw[if_pos (by simpa using h0),if_pos h0]
 ·rw[if_neg (by simpa using h0),if_neg h0]
  by_cases h1:p.length>65536
  ·rw[if_pos (by simp;omega),if_pos h1]
  ·rw[if_neg (by simp;omega),if_neg h1]
   obtain⟨m,rfl⟩:=Int.eq_ofNat_of_zero_le (Int.not_lt.1 h0)
   have e1:IntKind.wrap .u64 (p.length:Int)=(p.length:Int):=ov (by omega) (by omega)
   have e2:IntKind.wrap .u64 (m:Int)=(m:Int):=ov (by omega) (by omega)
   have l4:∀v:Nat,iX (v:Int) 4=some (be v 4):=λv=>AO v 4 (by omega)
   have l8:∀v:Nat,iX (v:Int) 8=some (be v 8):=λv=>AO v 8 (by omega)
   have hsum:nl (be p.length 4++be m 8)=some (u (on 0#32 (be p.length 4++be m 8))):=Ge _ (C1 m p) (by simp[fL])
   have hon:nN (u (on 0#32 (be p.length 4++be m 8))) p=some (u (sG m p)):=by
    rw[Ex _ p hp (by omega),GT];rfl
   have e3:IntKind.wrap .u64 (u (sG m p))=(((sG m p).toNat:Nat):Int):=by
    have:=DX (sG m p)
    rw[ov this.1 (by omega)];rfl
   simp only[e1,e2,l4,l8,aT,aP]
   rw[if_pos (by simp[fL,most]),hsum]
   simp only[aT,hon,e3,l4]
   have hb:be p.length 4++be m 8++be (sG m p).toNat 4++p=bare m p:=rfl
   rw[if_pos (by simp[fL,most]),if_pos (by simp[fL,most];omega),hb,y1,Gf _ (by omega),←D3]
   have hr:strings_Repeat [0] ((room p.length - (16+p.length):Nat):Int)=some (List.replicate (room p.length - (16+p.length)) 0):=by
    unfold strings_Repeat
    rw[if_pos ⟨by omega,by simp only[List.length_singleton,Int.toNat_natCast,room];omega,by simp only[room];omega⟩,Int.toNat_natCast]
    congr 1
    induction (room p.length - (16+p.length))with
    |zero=>rfl
    |succ k ih=>rw[List.replicate_succ,List.flatten_cons,ih,List.replicate_succ];rfl
   rw[hr,aT,if_pos (by simp only[List.length_replicate,room,most];omega)]
   rfl
end W
end Sx
namespace Sx
namespace W
open Go
/-- the number that the first bytes tell -/
def pre(b:List Int):Nat→Int
 |0=>0
 |i+1=>pre b i*256+b.getD i 0
end W
end Sx
namespace Sx
namespace W
open Go
end W
end Sx
namespace Sx
namespace W
open Go
end W
end Sx
namespace Sx
namespace W
open Go
end W
end Sx
namespace Sx
namespace W
open Go
theorem ul(v n:Nat):be v (n+1)=be (v/256) n++[((v % 256:Nat):Int)]:=by
 simp only[be,List.range_succ,List.map_append,List.map_cons,List.map_nil]
 congr 1
 ·apply List.map_congr_left
  intro i hi
  simp at hi
  rw[Nat.div_div_eq_div_mul]
  have:2^(8*(n+1 - 1 - i))=256*2^(8*(n - 1 - i)):=by
   rw[show 8*(n+1 - 1 - i)=8+8*(n - 1 - i)by omega,Nat.pow_add]
  rw[this]
 ·simp
theorem z1(n:Nat)(p:List Int):frameOf n p=be p.length 4++(be n 8++(be (sG n p).toNat 4++(p++List.replicate (room p.length - (16+p.length)) 0))):=by
 simp[frameOf,bare]
theorem frame_byte(n:Nat){p:List Int}(hp:aQ p):aQ (frameOf n p):=by
 intro c hc
 rw[z1]at hc
 simp only[List.mem_append]at hc
 rcases hc with h|h|h|h|h
 ·exact jj _ _ c h
 ·exact jj _ _ c h
 ·exact jj _ _ c h
 ·exact hp c h
 ·obtain⟨_,rfl⟩:=List.mem_replicate.1 h;omega
/-! ### What is no frame -/
end W
open Go
abbrev LgT:=Unit×List Int×Int×List (Int×Int×Int×Unit)×Int×Bool×Unit
abbrev MkT:=Int×Unit×List Int×Int×Int×Unit
abbrev StT:=Unit×(Int×LgT)×MkT×ST×Unit
def sH:List Int:=[108,111,103]
structure LI(l:LgT)(k:Nat):Prop where
 nm:l.2.1=sH
 segs:l.2.2.2.1.length≤k
 next:rng .i64 l.2.2.2.2.1
 sg:∀s∈l.2.2.2.1,rng .i64 s.1∧rng .i64 s.2.1
theorem D4{f:aF}(hk:W.FOk f):W.FOk (f.1,f.1,[]):=⟨hk.1,hk.1,hk.2.2.1,Nat.le_refl _,List.nodup_nil,λs hs=>by cases hs⟩
theorem Gg{D:aB}(h:W.FsOk D.2.1)(name:List Int):∃x,dJ D name=some x∧W.FsOk x.2.2.1:=by
 rcases Bool.eq_false_or_eq_true D.2.2.2.2.2.1 with ho|ho
 ·refine⟨(9,D),?_,h⟩
  unfold dJ cz
  rw[if_pos ho,aT,if_pos (by decide)]
 ·cases hf:aA .str name D.2.1 with
  |none=>
   refine⟨(5,D),?_,h⟩
   unfold dJ cz
   rw[if_neg (by simp[ho]),aP,hf,if_pos (by simp),aT,if_pos (by decide)]
  |some f=>
   obtain⟨e,a,fl,o,p,_,hs⟩:=W.Sync_eq h ho hf
   refine⟨_,hs,?_⟩
   have hk:=h.get hf
   split
   ·exact h.set (D4 hk)
   ·exact h
theorem D5{D:aB}(h:W.FsOk D.2.1)(name:List Int):∃x,eE D name=some x∧W.FsOk x.2.2.1:=by
 unfold eE cz
 split
 ·rw[aT,if_pos (by decide)];exact⟨_,rfl,h⟩
 ·rw[aP]
  split
  ·rw[aT,if_pos (by decide)];exact⟨_,rfl,h⟩
  ·rw[aT,if_neg (by decide)];exact⟨_,rfl,h.del _⟩
theorem Fm{D:aB}(h:W.FsOk D.2.1)(name:List Int)(n:Int):∃x,cM D name n=some x∧W.FsOk x.2.2.1:=by
 rcases W.Truncate_any (name:=name) (n:=n) h with⟨e,_,he⟩|⟨_,f,hf,_,_,he,hok⟩
 ·exact⟨_,he,h⟩
 ·exact⟨_,he,h.set hok⟩
theorem Fo{D:aB}(h:W.FsOk D.2.1)(name text:List Int)(at0:Int)(hat:rng .i64 at0)(ht:aQ text)(hl:text.length≤140737488355328)(hn:name.length<4611686018427387904):∃x,bG D name at0 text=some x∧W.FsOk x.2.2.1:=by
 rcases W.Write_any h hat ht hl hn with⟨e,_,he⟩|⟨_,_,_,_,_,e,a,fl,o,p,fs',_,he,hok,_⟩
 ·exact⟨_,he,h⟩
 ·refine⟨_,he,?_⟩
  split
  ·exact hok
  ·exact h
theorem xA(l:LgT)(hl:l.2.1=sH)(n:Int)(hn:rng .i64 n):∃x,ed l n=some x∧x.length<4611686018427387904:=by
 have h0:=yu hn
 have h1:(El n).length=(Lib.itoa n).length:=vM _
 unfold ed strconv_Itoa
 rw[hl,if_pos (by simp[sH,most]),aT,if_pos (by simp[sH,most];omega)]
 exact⟨_,rfl,by simp[sH];omega⟩
def D6(s:Int×Int×Int×Unit):Prop:=rng .i64 s.1∧rng .i64 s.2.1
theorem r0:rng .i64 0:=⟨by decide,by decide⟩
theorem Gh(l:LgT)(k:Nat)(hk:k<4611686018427387904)(h:LI l k)(a1:Int)(D:aB):∃x,kS l a1 D=some x∧(D6 x.1∧(x.2=false→0<l.2.2.2.1.length)):=by
 have h1:=h.segs
 unfold kS
 split
 ·exact⟨_,rfl,⟨r0,r0⟩,by simp⟩
 ·rename_i h0
  have h0:0<l.2.2.2.1.length:=by
   have:¬((List.length l.2.2.2.1:Int)=0):=by simpa using h0
   omega
  have e:IntKind.wrap .i64 ((List.length l.2.2.2.1:Int) - 1)=((l.2.2.2.1.length - 1:Nat):Int):=by rw[aO (by omega) (by omega)];omega
  rw[e,if_pos (by omega)]
  simp only[aP]
  rw[um (by omega:l.2.2.2.1.length - 1<l.2.2.2.1.length)]
  have hs:=h.sg _ (List.getElem_mem (by omega:l.2.2.2.1.length - 1<l.2.2.2.1.length))
  have k12:∀o:Bool,∃x,(if o=true then some ((IntKind.wrap .i64 ((l.2.2.2.1[l.2.2.2.1.length - 1]'(by omega)).1+1),(0:Int),(0:Int),()),true)else some (l.2.2.2.1[l.2.2.2.1.length - 1]'(by omega),false))=some x∧(D6 x.1∧(x.2=false→0<l.2.2.2.1.length)):=λo=>by
   split
   ·exact⟨_,rfl,⟨jm _ _,r0⟩,by simp⟩
   ·exact⟨_,rfl,hs,λ_=>h0⟩
  split
  ·exact k12 _
  ·exact k12 false
theorem GU(l:LgT)(hl:l.2.1=sH)(s:Int×Int×Int×Unit)(hs:D6 s)(b:Bool){D:aB}(h:W.FsOk D.2.1):∃x,lP l s b D=some x∧W.FsOk x.2.2.1:=by
 unfold lP
 split
 ·rw[aP]
  refine aH (xA l hl _ hs.1) λr7 _=>?_
  exact aH (D5 h r7) λr8 h8=>⟨_,rfl,h8⟩
 ·refine aH (xA l hl _ hs.1) λr7 _=>?_
  exact aH (Fm h r7 _) λr8 h8=>⟨_,rfl,h8⟩
theorem D7(l:LgT)(k:Nat)(hk:k≤5000000000000)(h:LI l k)(U:List Int)(hU:aQ U)(hl:U.length≤140737488351232){D:aB}(hD:W.FsOk D.2.1):∃x,kp l U D=some x∧(LI x.2.1 (k+1)∧W.FsOk x.2.2.2.1):=by
 have h1:=h.segs
 have up:LI l (k+1):=⟨h.nm,by omega,h.next,h.sg⟩
 have dead:∀b:Bool,LI ((),l.2.1,l.2.2.1,l.2.2.2.1,l.2.2.2.2.1,b,l.2.2.2.2.2.2) (k+1):=λb=>⟨h.nm,by show l.2.2.2.1.length≤_;omega,h.next,h.sg⟩
 unfold kp
 by_cases c1:l.2.2.2.2.2.1=true
 ·rw[if_pos c1];exact⟨_,rfl,up,hD⟩
 ·rw[if_neg c1]
  by_cases hU1:decide ((List.length U:Int)>65536)=true
  ·rw[if_pos hU1];exact⟨_,rfl,up,hD⟩
  ·rw[if_neg hU1]
   by_cases c3:decide (l.2.2.2.2.1≥1152921504606846976)=true
   ·rw[if_pos c3];exact⟨_,rfl,up,hD⟩
   ·rw[if_neg c3]
    rw[W.Frame_eq _ _ h.next hU hl,aT]
    split
    ·exact⟨_,rfl,up,hD⟩
    ·rename_i he
     have hn0:¬l.2.2.2.2.1<0:=λhn=>he (by simp[W.frameAns,hn])
     have hul:¬U.length>65536:=λhn=>hU1 (by simp;omega)
     have hfr:W.frameAns l.2.2.2.2.1 U=(W.frameOf l.2.2.2.2.1.toNat U,0):=by
      unfold W.frameAns
      rw[if_neg hn0,if_neg hul]
     rw[hfr]
     dsimp only
     have hfb:aQ (W.frameOf l.2.2.2.2.1.toNat U):=W.frame_byte _ hU
     have hfl:(W.frameOf l.2.2.2.2.1.toNat U).length≤100000:=by rw[W.frameOf_len];unfold W.room;omega
     refine aH (Gh l k (by omega) h _ D) λr5 h5=>?_
     split
     ·exact⟨_,rfl,up,hD⟩
     ·refine aH (xA l h.nm _ h5.1.1) λr8 h8=>?_
      refine aH (Fo hD r8 _ _ h5.1.2 hfb (by omega) h8) λr9 h9=>?_
      split
      ·exact⟨_,rfl,dead _,h9⟩
      ·rw[aP]
       refine aH (xA l h.nm _ h5.1.1) λr27 _=>?_
       refine aH (Gg h9 r27) λr28 h28=>?_
       dsimp only
       split
       ·simp only[aP]
        split
        ·exact⟨_,rfl,dead _,h28⟩
        ·exact aH (GU l h.nm _ h5.1 _ h28) λr16 h16=>⟨_,rfl,dead _,h16⟩
       ·simp only[aP]
        have k18:∀o19:List (Int×Int×Int×Unit),o19.length≤k→(∀s∈o19,rng .i64 s.1∧rng .i64 s.2.1)→∃x,(if(List.length o19+List.length [(r5.1.1,(IntKind.wrap .i64 (r5.1.2.1+(List.length (W.frameOf l.2.2.2.2.1.toNat U):Int))),(IntKind.wrap .i64 (l.2.2.2.2.1+1)),r5.1.2.2.2)])*24≤140737488355328 then(some ((0:Int),((),l.2.1,l.2.2.1,o19++[(r5.1.1,(IntKind.wrap .i64 (r5.1.2.1+(List.length (W.frameOf l.2.2.2.2.1.toNat U):Int))),(IntKind.wrap .i64 (l.2.2.2.2.1+1)),r5.1.2.2.2)],(IntKind.wrap .i64 (l.2.2.2.2.1+1)),l.2.2.2.2.2.1,l.2.2.2.2.2.2),r28.2))else none)=some x∧(LI x.2.1 (k+1)∧W.FsOk x.2.2.2.1):=λo19 ho hs=>by
         rw[if_pos (by simp;omega)]
         refine⟨_,rfl,⟨h.nm,?_,jm _ _,?_⟩,h28⟩
         ·show(o19++[_]).length≤_
          simp;omega
         ·intro s hs'
          rcases List.mem_append.1 hs' with g|g
          ·exact hs s g
          ·obtain rfl:=List.mem_singleton.1 g
           exact⟨h5.1.1,jm _ _⟩
        split
        ·rename_i hr
         have h0:=h5.2 (by simpa using hr)
         have e:IntKind.wrap .i64 ((List.length l.2.2.2.1:Int) - 1)=((l.2.2.2.1.length - 1:Nat):Int):=by rw[aO (by omega) (by omega)];omega
         rw[e,if_pos (by omega),Int.toNat_natCast]
         exact k18 _ (by simp;omega) λs hs=>h.sg s (List.mem_of_mem_take hs)
        ·exact k18 _ h1 h.sg
abbrev D0:aB:=(1000000,[],0,0,0,false,false)
def xB:List Int:=[109,97,114,107]
abbrev OpT:=(Int×StT)×Int×aB
theorem GV:pD D0 [99,104,101,99,107]=some ([],5):=by kernel_rfl
def mkB:List Int:=(nq D0 xB).elim [] λx=>x.2.2.2.1.headD ([],[],[],[])|>.2.1
def D1:aB:=(1000000,[(xB,mkB,mkB,[])],0,0,0,false,false)
theorem GW:nq D0 xB=some ((0,(),xB,-1,1,()),0,D1):=by kernel_rfl
theorem Gi:(mkB.all λc=>decide (0≤c)&&decide (c<256))=true:=by kernel_rfl
theorem Fp:mkB.length=128:=by kernel_rfl
theorem D8{l:List Int}(h:(l.all λc=>decide (0≤c)&&decide (c<256))=true):aQ l:=λc hc=>by
 have:=List.all_eq_true.1 h c hc
 rw[Bool.and_eq_true,decide_eq_true_eq,decide_eq_true_eq]at this
 exact this
theorem Gj(l:List Int)(hb:aQ l)(hl:l.length≤1048576):W.FOk (l,l,[]):=⟨hb,hb,hl,Nat.le_refl _,List.nodup_nil,λs hs=>by cases hs⟩
theorem Gk(n:List Int)(f:aF)(h:W.FOk f):W.FsOk [(n,f)]:=⟨λp hp=>by obtain rfl:=List.mem_singleton.1 hp;exact h,by simp,by simp⟩
theorem GX:W.FsOk D1.2.1:=by
 have hb:aQ mkB:=D8 Gi
 have hk:W.FOk (mkB,mkB,[]):=Gj mkB hb (by rw[Fp];omega)
 exact Gk _ _ hk
def LG(mo:Int):LgT:=((),sH,mo,[],0,false,())
theorem Hw(mo:Int):oy D0 sH mo 0=some (if 64≤mo∧mo≤1048576 then((0,LG mo),[],0,D0)else((1,((),[],0,[],0,false,())),[],1,D0)):=by
 have hr:qy sH=some true:=by kernel_rfl
 unfold oy
 rw[hr,aT]
 simp only[aP]
 by_cases h:64≤mo∧mo≤1048576
 ·rw[if_neg (by simp;omega),if_pos h]
  rfl
 ·rw[if_pos (by simp;omega),if_neg h]
structure DSt(s:StT)(k:Nat)(D:aB):Prop where
 log0:s.2.1.1=0
 log:LI s.2.1.2 k
 st:SI s.2.2.2.1
 disk:W.FsOk D.2.1
theorem Gl(c:Int×Int×Int×List Int×List Int×List Int×List (List Int)×Int×Unit):∃x,kK D0 c=some x∧((x.2.1≠0∧x.1.1=1)∨(x.2.1=0∧x.1.1=0∧DSt x.1.2 0 x.2.2)):=by
 have hd:∃x,mB c=some x∧(x.2=0→SI x.1):=by
  unfold mB nJ
  simp only[aP,aT]
  have ok:∀o8:Bool,∃x,(if(o8||decide (c.2.2.1<0)||decide (c.2.2.1>c.2.1))=true then some (zS,(1:Int))else some (((c.1,c.2.1,c.2.2.1,(IntKind.wrap .i64 (c.2.1 - c.2.2.1)),[],[],0,0,0,(0,0,()),(0,0,()),(0,0,()),false,c.2.2.2.2.2.2.1,(List.replicate 32 (0:Int)),[],0,(-1),()):ST),0))=some x∧(x.2=0→SI x.1):=λo8=>by
   split
   ·exact⟨_,rfl,by simp⟩
   ·exact⟨_,rfl,λ_=>⟨Nat.zero_le _,Nat.zero_le _,Nat.zero_le _⟩⟩
  split
  ·exact ok true
  ·exact ok _
 unfold kK
 refine aH hd λr4 h4=>?_
 split
 ·rename_i he
  exact⟨_,rfl,.inl ⟨by simpa using he,rfl⟩⟩
 ·rename_i he
  have hs:=h4 (by simpa using he)
  unfold oS
  rw[GV,aT,if_pos (by decide),aT,if_neg (by simp)]
  have hw:=Hw c.2.2.2.2.2.2.2.1
  have hw2:oy D0 [108,111,103] c.2.2.2.2.2.2.2.1 0=_:=hw
  rw[hw2,aT]
  split
  ·rw[if_neg (by simp)]
   simp only[aP]
   have hm:nq D0 [109,97,114,107]=_:=GW
   rw[show(Int.toNat ((List.length ([]:List (List Int)):Int) - 0)+1)=1 from rfl,kR,if_neg (by simp),hm,aT,if_neg (by simp)]
   exact⟨_,rfl,.inr ⟨rfl,rfl,rfl,⟨rfl,Nat.zero_le _,r0,λs hs=>by cases hs⟩,hs,GX⟩⟩
  ·rw[if_pos (by simp)]
   exact⟨_,rfl,.inl ⟨by simp,rfl⟩⟩
theorem Hx(s:StT)(k:Nat)(hk:k≤5000000000000)(D:aB)(h:DSt s k D)(r:RcT)(hr:RcOk r):∃x,fy s [r] D=some x∧DSt x.2.1 (k+1) x.2.2:=by
 have same:DSt s (k+1) D:=⟨h.log0,⟨h.log.nm,by have:=h.log.segs;omega,h.log.next,h.log.sg⟩,h.st,h.disk⟩
 unfold fy
 rw[if_neg (by simp),aP,show(Int.toNat ((List.length [r]:Int) - 0)+1)=2 from rfl,gG,if_pos (by simp),if_pos (by simp)]
 have hg:List.getD [r] (Int.toNat 0) (0,(0,0,0,(List.replicate 32 (0:Int)),[],()),[],0,(0,0,()),(List.replicate 32 (0:Int)),(List.replicate 32 (0:Int)),(List.replicate 32 (0:Int)),0,())=r:=rfl
 dsimp only
 rw[hg]
 refine aH (CQ r hr) λr23 h23=>?_
 split
 ·exact⟨_,rfl,same⟩
 ·rename_i he
  have hne:=h23.2.2 (by simpa using he)
  have hl:=h23.2.1
  have hb:eu [] r23.1=some ((r23.1.length:Int),.nilIface,[]++r23.1):=by
   unfold eu
   rw[if_pos ⟨hne,by simp;omega⟩]
  rw[hb,aT]
  refine aH (F8 _ h.st r hr) λr25 h25=>?_
  split
  ·exact⟨_,rfl,same⟩
  ·dsimp only
   rw[aO (n:=0+1) (by omega) (by omega),gG,if_neg (by simp)]
   unfold ld
   rw[aT]
   split
   ·exact⟨_,rfl,same⟩
   ·rw[aP,if_pos h.log0]
    refine aH (D7 s.2.1.2 k hk h.log _ h23.1 (by show([]++r23.1).length≤_;simp;omega) h.disk) λr16 h16=>?_
    dsimp only
    split
    ·exact⟨_,rfl,h.log0,h16.1,h.st,h16.2⟩
    ·exact⟨_,rfl,h.log0,h16.1,h25,h16.2⟩
abbrev HashOk(x:List Int):Prop:=List.length x=32∧∀c∈x,rng .u8 c
abbrev Gm(x:List Int):Prop:=aQ x∧List.length x≤140737488351232
abbrev UOk(u:UT):Prop:=rng .i64 u.1∧rng .i64 u.2.1∧rng .i64 u.2.2.1∧HashOk u.2.2.2.1∧Gm u.2.2.2.2.1∧True
abbrev Hy(x:SlT):Prop:=rng .i64 x.1∧HashOk x.2.1∧True∧True
abbrev xC(x:Int×Int×Unit):Prop:=rng .i64 x.1∧rng .i64 x.2.1∧True
abbrev StOk(s:ST):Prop:=
 rng .i64 s.1∧rng .i64 s.2.1∧rng .i64 s.2.2.1∧rng .i64 s.2.2.2.1
 ∧(List.length s.2.2.2.2.1*72≤140737488351232∧∀u∈s.2.2.2.2.1,UOk u)
 ∧(List.length s.2.2.2.2.2.1*72≤140737488351232∧∀u∈s.2.2.2.2.2.1,UOk u)
 ∧rng .i64 s.2.2.2.2.2.2.1∧rng .i64 s.2.2.2.2.2.2.2.1∧rng .i64 s.2.2.2.2.2.2.2.2.1
 ∧xC s.2.2.2.2.2.2.2.2.2.1∧xC s.2.2.2.2.2.2.2.2.2.2.1∧xC s.2.2.2.2.2.2.2.2.2.2.2.1∧True
 ∧(List.length s.2.2.2.2.2.2.2.2.2.2.2.2.2.1=2∧∀h∈s.2.2.2.2.2.2.2.2.2.2.2.2.2.1,HashOk h)
 ∧HashOk s.2.2.2.2.2.2.2.2.2.2.2.2.2.2.1
 ∧(List.length s.2.2.2.2.2.2.2.2.2.2.2.2.2.2.2.1*48≤140737488351232∧∀x∈s.2.2.2.2.2.2.2.2.2.2.2.2.2.2.2.1,Hy x)
 ∧rng .i64 s.2.2.2.2.2.2.2.2.2.2.2.2.2.2.2.2.1∧rng .i64 s.2.2.2.2.2.2.2.2.2.2.2.2.2.2.2.2.2.1∧True
theorem HashOk.byte{x:List Int}(h:HashOk x):aQ x:=λc hc=>by
 have:=h.2 c hc
 simp only[rng,lo,Sx.hi]at this
 omega
set_option maxRecDepth 100000
theorem qO:iL=some true:=by kernel_rfl
theorem Fq(s:ST)(h:SI s):pg s=some s:=by
 have h1:=h.ours;have h2:=h.peers;have h3:s.2.2.2.2.2.2.2.2.2.2.2.2.2.2.2.1.length≤49:=h.shelf
 unfold pg bh cg
 rw[if_pos (by simp;omega),if_pos (by simp;omega),if_pos (by simp;omega)]
 rfl
theorem D9(s:ST)(h:SI s):kT s=some s:=by
 have h1:=h.ours;have h2:=h.peers;have h3:s.2.2.2.2.2.2.2.2.2.2.2.2.2.2.2.1.length≤49:=h.shelf
 unfold kT bh cg
 rw[if_pos (by simp;omega),if_pos (by simp;omega),if_pos (by simp;omega)]
 rfl
theorem y3(s:ST)(h:SI s):ge s=some s:=by
 have h1:=h.ours;have h2:=h.peers;have h3:s.2.2.2.2.2.2.2.2.2.2.2.2.2.2.2.1.length≤49:=h.shelf
 unfold ge
 rw[if_pos (by simp;omega),if_pos (by simp;omega),if_pos (by simp;omega)]
 rfl
theorem xb(s:StT)(k:Nat)(D:aB)(h:DSt s k D):cZ s D=some s.2.2.2.1:=by
 unfold cZ
 rw[Fq _ h.st,aT]
theorem BB(s:StT)(k:Nat)(D:aB)(h:DSt s k D):gh s D=some s.2.2.2.1:=by
 unfold gh
 rw[D9 _ h.st,aT]
theorem vg(s:ST)(h:SI s):dC s s=some true:=CN s (by have:=h.ours;omega) (by have:=h.peers;omega) (by have:=h.shelf;omega)
theorem GY(a1:List RcT)(hl:a1.length≤1000000000000)(ho:∀r∈a1,RcOk r)(r12:OpT)(K:aB×(Int×StT)→Option Bool)(hk:∀s D,DSt s a1.length D→K (D,(r12.1.1,s))=some true):∀(c i m:Nat) (s:StT) (D:aB),i+c=a1.length→c<m→DSt s i D→dm a1 r12 K m ((i:Int),s,D)=some true:=by
 intro c
 induction c with
 |zero=>
  intro i m s D hi hm h
  cases m with
  |zero=>omega
  |succ m=>
   rw[dm,if_neg (by simp;omega)]
   have:i=a1.length:=by omega
   exact hk s D (this▸h)
 |succ c ih=>
  intro i m s D hi hm h
  cases m with
  |zero=>omega
  |succ m=>
   have hlt:i<a1.length:=by omega
   rw[dm,if_pos (by simp;omega)]
   dsimp only
   rw[xb s i D h,aT,y3 _ h.st,aT,if_pos (by omega),um hlt]
   obtain⟨x,hx,hd⟩:=Hx s i (by omega) D h a1[i] (ho _ (List.getElem_mem hlt))
   rw[hx,aT,vg _ h.st,aT,if_neg (by simp),aP,aO (by omega) (by omega)]
   exact ih (i+1) m _ _ (by omega) (by omega) hd
theorem tO{α:Type}{w:List α}{i:Nat}{X:α}(hi:i<w.length)(h:∀j,j<i→w[j]? =some X):∀j,j<i+1→(w.set i X)[j]? =some X:=by
 intro j hj
 rcases Nat.lt_or_ge j i with g|g
 ·rw[List.getElem?_set_ne (by omega)];exact h j g
 ·obtain rfl:j=i:=by omega
  rw[List.getElem?_set_self hi]
def vh{α:Type}(w:List α)(n:Nat)(X:α):Prop:=w.length=n∧∀j,j<n→w[j]? =some X
abbrev X5:UT:=((-1),0,0,(List.replicate 32 (0:Int)),[],())
abbrev X4:UT:=((-2),0,0,(List.replicate 32 (0:Int)),[],())
abbrev X3:SlT:=((-3),(List.replicate 32 (0:Int)),false,())
theorem Fs(n:Nat)(hn:n<4611686018427387904)(K:List UT→Option Bool)(hk:∀w,vh w n X5→K w=some true):∀(c i m:Nat) (w:List UT),i+c=n→c<m→w.length=n→(∀j,j<i→w[j]? =some X5)→dk K m ((i:Int),w)=some true:=by
 intro c
 induction c with
 |zero=>
  intro i m w hi hm hw h
  cases m with
  |zero=>omega
  |succ m=>
   rw[dk,if_neg (by simp;omega)]
   exact hk w ⟨hw,λj hj=>h j (by omega)⟩
 |succ c ih=>
  intro i m w hi hm hw h
  cases m with
  |zero=>omega
  |succ m=>
   rw[dk,if_pos (by simp;omega),if_pos (by dsimp only;omega),aP,aO (by omega) (by omega),Int.toNat_natCast]
   exact ih (i+1) m _ (by omega) (by omega) (by simp[hw]) (tO (w:=w) (by omega) h)
theorem Ft(n:Nat)(hn:n<4611686018427387904)(K:List UT→Option Bool)(hk:∀w,vh w n X4→K w=some true):∀(c i m:Nat) (w:List UT),i+c=n→c<m→w.length=n→(∀j,j<i→w[j]? =some X4)→di K m ((i:Int),w)=some true:=by
 intro c
 induction c with
 |zero=>
  intro i m w hi hm hw h
  cases m with
  |zero=>omega
  |succ m=>
   rw[di,if_neg (by simp;omega)]
   exact hk w ⟨hw,λj hj=>h j (by omega)⟩
 |succ c ih=>
  intro i m w hi hm hw h
  cases m with
  |zero=>omega
  |succ m=>
   rw[di,if_pos (by simp;omega),if_pos (by dsimp only;omega),aP,aO (by omega) (by omega),Int.toNat_natCast]
   exact ih (i+1) m _ (by omega) (by omega) (by simp[hw]) (tO (w:=w) (by omega) h)
theorem Fu(n:Nat)(hn:n<4611686018427387904)(K:List SlT→Option Bool)(hk:∀w,vh w n X3→K w=some true):∀(c i m:Nat) (w:List SlT),i+c=n→c<m→w.length=n→(∀j,j<i→w[j]? =some X3)→dh K m ((i:Int),w)=some true:=by
 intro c
 induction c with
 |zero=>
  intro i m w hi hm hw h
  cases m with
  |zero=>omega
  |succ m=>
   rw[dh,if_neg (by simp;omega)]
   exact hk w ⟨hw,λj hj=>h j (by omega)⟩
 |succ c ih=>
  intro i m w hi hm hw h
  cases m with
  |zero=>omega
  |succ m=>
   rw[dh,if_pos (by simp;omega),if_pos (by dsimp only;omega),aP,aO (by omega) (by omega),Int.toNat_natCast]
   exact ih (i+1) m _ (by omega) (by omega) (by simp[hw]) (tO (w:=w) (by omega) h)
theorem vi{α:Type}{w:List α}{n:Nat}{X Y d:α}(h:vh w n X){i:Nat}(hi:i<n):List.getD (w++[Y]) (Int.toNat (i:Int)) d=X:=by
 rw[Int.toNat_natCast,List.getD_eq_getElem?_getD,List.getElem?_append_left (by have:=h.1;omega),h.2 i hi]
 rfl
theorem Fv(s:ST)(w:List UT)(hn:s.2.2.2.2.1.length<4611686018427387904)(h:vh w s.2.2.2.2.1.length X5)(K:Unit→Option Bool)(hk:K ()=some true):∀(c i m:Nat),i+c=s.2.2.2.2.1.length→c<m→dg s w K m (i:Int)=some true:=by
 have hw:=h.1
 intro c
 induction c with
 |zero=>
  intro i m hi hm
  cases m with
  |zero=>omega
  |succ m=>
   rw[dg,if_neg (by simp;omega)]
   exact hk
 |succ c ih=>
  intro i m hi hm
  cases m with
  |zero=>omega
  |succ m=>
   rw[dg,if_pos (by simp;omega),if_pos (by simp;omega)]
   simp only[aP]
   rw[vi h (by omega),if_neg (by simp),aO (by omega) (by omega)]
   exact ih (i+1) m (by omega) (by omega)
theorem Fw(s:ST)(w:List UT)(hn:s.2.2.2.2.2.1.length<4611686018427387904)(h:vh w s.2.2.2.2.2.1.length X4)(K:Unit→Option Bool)(hk:K ()=some true):∀(c i m:Nat),i+c=s.2.2.2.2.2.1.length→c<m→de s w K m (i:Int)=some true:=by
 have hw:=h.1
 intro c
 induction c with
 |zero=>
  intro i m hi hm
  cases m with
  |zero=>omega
  |succ m=>
   rw[de,if_neg (by simp;omega)]
   exact hk
 |succ c ih=>
  intro i m hi hm
  cases m with
  |zero=>omega
  |succ m=>
   rw[de,if_pos (by simp;omega),if_pos (by simp;omega)]
   simp only[aP]
   rw[vi h (by omega),if_neg (by simp),aO (by omega) (by omega)]
   exact ih (i+1) m (by omega) (by omega)
theorem Fx(s:ST)(w:List SlT)(hn:(shf s).length<4611686018427387904)(h:vh w (shf s).length X3)(K:Unit→Option Bool)(hk:K ()=some true):∀(c i m:Nat),i+c=(shf s).length→c<m→db s w K m (i:Int)=some true:=by
 have hw:=h.1
 have hq:List.length s.2.2.2.2.2.2.2.2.2.2.2.2.2.2.2.1=(shf s).length:=rfl
 intro c
 induction c with
 |zero=>
  intro i m hi hm
  cases m with
  |zero=>omega
  |succ m=>
   rw[db,if_neg (by simp;omega)]
   exact hk
 |succ c ih=>
  intro i m hi hm
  cases m with
  |zero=>omega
  |succ m=>
   rw[db,if_pos (by simp;omega),if_pos (by simp;omega)]
   simp only[aP]
   rw[vi h (by omega),if_neg (by simp),aO (by omega) (by omega)]
   exact ih (i+1) m (by omega) (by omega)
abbrev CfT:=Int×Int×Int×List Int×List Int×List Int×List (List Int)×Int×Unit
theorem BC(c:CfT)(a1:List RcT)(hl:a1.length≤1000000000000)(ho:∀r∈a1,RcOk r)(hf:iL=some true):fN c a1=some true:=by
 have hN:p8 1000000=some (0,D0):=by kernel_rfl
 unfold fN
 rw[hN,aT]
 simp only[aP]
 rw[if_neg (by simp),hf,aT,if_neg (by simp),if_pos trivial]
 obtain⟨r12,hr,h⟩:=Gl c
 rw[hr,aT]
 rcases h with⟨h1,h2⟩|⟨h1,h2,h3⟩
 ·rw[if_pos (by simpa using h1),h2];rfl
 ·rw[if_neg (by simp[h1]),if_pos h2]
  refine GY a1 hl ho r12 _ (λs D hd=>?_) a1.length 0 _ r12.1.2 r12.2.2 (by omega) (by omega) h3
  dsimp only
  rw[if_pos h2,BB s _ D hd,aT,xb s _ D hd,aT,y3 _ hd.st,aT]
  have q1:=hd.st.ours;have q2:=hd.st.peers;have q3:=hd.st.shelf
  have q4:List.length s.2.2.2.1.2.2.2.2.2.2.2.2.2.2.2.2.2.2.2.1=(shf s.2.2.2.1).length:=rfl
  refine Fs s.2.2.2.1.2.2.2.2.1.length (by omega) _ (λw5 h5=>?_) _ 0 _ _ (Nat.zero_add _) (Nat.lt_succ_self _) rfl λj hj=>by omega
  refine Ft s.2.2.2.1.2.2.2.2.2.1.length (by omega) _ (λw4 h4=>?_) _ 0 _ _ (Nat.zero_add _) (Nat.lt_succ_self _) rfl λj hj=>by omega
  refine Fu (shf s.2.2.2.1).length (by omega) _ (λw3 h3=>?_) _ 0 _ _ (Nat.zero_add _) (Nat.lt_succ_self _) rfl λj hj=>by omega
  have e5:=h5.1;have e4:=h4.1;have e3:=h3.1
  rw[if_pos (by simp;omega),if_pos (by simp;omega),if_pos (by simp;omega)]
  refine Fv _ w5 (by omega) h5 _ ?_ _ 0 _ (Nat.zero_add _) (Nat.lt_succ_self _)
  refine Fw _ w4 (by omega) h4 _ ?_ _ 0 _ (Nat.zero_add _) (Nat.lt_succ_self _)
  refine Fx _ w3 (by omega) h3 _ ?_ _ 0 _ (Nat.zero_add _) (Nat.lt_succ_self _)
  rw[vg _ hd.st,aT,if_pos rfl,aT,vg _ hd.st,aT]
abbrev Ey(r:RcT):Prop:=rng .i64 r.1∧UOk r.2.1∧(List.length r.2.2.1*72≤140737488351232∧∀u∈r.2.2.1,UOk u)∧rng .i64 r.2.2.2.1∧xC r.2.2.2.2.1∧HashOk r.2.2.2.2.2.1∧HashOk r.2.2.2.2.2.2.1∧HashOk r.2.2.2.2.2.2.2.1∧rng .i64 r.2.2.2.2.2.2.2.2.1∧True
theorem HashOk.h32{x:List Int}(h:HashOk x):H32 x:=⟨h.1,h.byte⟩
theorem GZ{r:RcT}(h:Ey r):RcOk r:=by
 obtain⟨_,hu,⟨hl,hs⟩,_,_,h1,h2,h3,_⟩:=h
 exact⟨⟨hu.2.2.2.1.h32,hu.2.2.2.2.1.1⟩,λu hu=>⟨(hs u hu).2.2.2.1.h32,(hs u hu).2.2.2.2.1.1⟩,by omega,h1.h32,h2.h32,h3.h32⟩
theorem pc(a0:CfT)(a1:List RcT){p:Prop}(_:p)(h1:List.length a1*232≤140737488351232∧∀r∈a1,Ey r):fN a0 a1=some true:=
 BC a0 a1 (by have:=h1.1;omega) (λr hr=>GZ (h1.2 r hr)) qO
end Sx
