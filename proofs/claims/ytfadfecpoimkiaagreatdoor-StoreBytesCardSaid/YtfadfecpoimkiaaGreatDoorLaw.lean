/-
  Proved here: for every input that the given rows let in, each of the laws StoreBytes of this program returns true and leaves its arguments as they were. No further condition beyond the row's own.
-/
import Derived.Test.YtfadfecpoimkiaaGreatDoorRows
import Derived.Test.YtfadfecpoimkiaaGreatDoorWalk
import Derived.Test.YtfadfecpoimkiaaGreatDoorPlain1
import Derived.Test.YtfadfecpoimkiaaGreatDoorLib3
import Derived.Test.YtfadfecpoimkiaaGreatDoorTie
import Derived.Test.YtfadfecpoimkiaaGreatDoorCards
import Derived.SevenTiedAt
namespace Go.Proofs.YtfadfecpoimkiaaGreatDoor
open Go Sx
namespace storebytes
abbrev vz:Array Value:= #[.int .i64 0,.agg #[.int .i64 0,.int .i64 0,.int .i64 0,.int .i64 0,.slice none 0 0,.slice none 0 0,.int .i64 0,.int .i64 0,.int .i64 0,.int .i64 0,.int .i64 0,.int .i64 0,.int .i64 0,.int .i64 0,.int .i64 0,.bool false,.int .u8 0,.int .u8 0,.int .u8 0,.int .u8 0,.int .u8 0,.int .u8 0,.int .u8 0,.int .u8 0,.int .u8 0,.int .u8 0,.int .u8 0,.int .u8 0,.int .u8 0,.int .u8 0,.int .u8 0,.int .u8 0,.int .u8 0,.int .u8 0,.int .u8 0,.int .u8 0,.int .u8 0,.int .u8 0,.int .u8 0,.int .u8 0,.int .u8 0,.int .u8 0,.int .u8 0,.int .u8 0,.int .u8 0,.int .u8 0,.int .u8 0,.int .u8 0,.int .u8 0,.int .u8 0,.int .u8 0,.int .u8 0,.int .u8 0,.int .u8 0,.int .u8 0,.int .u8 0,.int .u8 0,.int .u8 0,.int .u8 0,.int .u8 0,.int .u8 0,.int .u8 0,.int .u8 0,.int .u8 0,.int .u8 0,.int .u8 0,.int .u8 0,.int .u8 0,.int .u8 0,.int .u8 0,.int .u8 0,.int .u8 0,.int .u8 0,.int .u8 0,.int .u8 0,.int .u8 0,.int .u8 0,.int .u8 0,.int .u8 0,.int .u8 0,.int .u8 0,.int .u8 0,.int .u8 0,.int .u8 0,.int .u8 0,.int .u8 0,.int .u8 0,.int .u8 0,.int .u8 0,.int .u8 0,.int .u8 0,.int .u8 0,.int .u8 0,.int .u8 0,.int .u8 0,.int .u8 0,.int .u8 0,.int .u8 0,.int .u8 0,.int .u8 0,.int .u8 0,.int .u8 0,.int .u8 0,.int .u8 0,.int .u8 0,.int .u8 0,.int .u8 0,.int .u8 0,.int .u8 0,.int .u8 0,.int .u8 0,.int .u8 0,.slice none 0 0,.int .i64 0,.int .i64 0],.string ByteArray.empty]
abbrev HB{H:Type}:List (DataW H):=[.lit (.int .i64 0),.agg [.lit (.int .i64 0),.lit (.int .i64 0),.lit (.int .i64 0),.lit (.int .i64 0),.nil,.nil,.lit (.int .i64 0),.lit (.int .i64 0),.lit (.int .i64 0),.agg [.lit (.int .i64 0),.lit (.int .i64 0)],.agg [.lit (.int .i64 0),.lit (.int .i64 0)],.agg [.lit (.int .i64 0),.lit (.int .i64 0)],.lit (.bool false),.agg [.agg [.lit (.int .u8 0),.lit (.int .u8 0),.lit (.int .u8 0),.lit (.int .u8 0),.lit (.int .u8 0),.lit (.int .u8 0),.lit (.int .u8 0),.lit (.int .u8 0),.lit (.int .u8 0),.lit (.int .u8 0),.lit (.int .u8 0),.lit (.int .u8 0),.lit (.int .u8 0),.lit (.int .u8 0),.lit (.int .u8 0),.lit (.int .u8 0),.lit (.int .u8 0),.lit (.int .u8 0),.lit (.int .u8 0),.lit (.int .u8 0),.lit (.int .u8 0),.lit (.int .u8 0),.lit (.int .u8 0),.lit (.int .u8 0),.lit (.int .u8 0),.lit (.int .u8 0),.lit (.int .u8 0),.lit (.int .u8 0),.lit (.int .u8 0),.lit (.int .u8 0),.lit (.int .u8 0),.lit (.int .u8 0)],.agg [.lit (.int .u8 0),.lit (.int .u8 0),.lit (.int .u8 0),.lit (.int .u8 0),.lit (.int .u8 0),.lit (.int .u8 0),.lit (.int .u8 0),.lit (.int .u8 0),.lit (.int .u8 0),.lit (.int .u8 0),.lit (.int .u8 0),.lit (.int .u8 0),.lit (.int .u8 0),.lit (.int .u8 0),.lit (.int .u8 0),.lit (.int .u8 0),.lit (.int .u8 0),.lit (.int .u8 0),.lit (.int .u8 0),.lit (.int .u8 0),.lit (.int .u8 0),.lit (.int .u8 0),.lit (.int .u8 0),.lit (.int .u8 0),.lit (.int .u8 0),.lit (.int .u8 0),.lit (.int .u8 0),.lit (.int .u8 0),.lit (.int .u8 0),.lit (.int .u8 0),.lit (.int .u8 0),.lit (.int .u8 0)]],.agg [.lit (.int .u8 0),.lit (.int .u8 0),.lit (.int .u8 0),.lit (.int .u8 0),.lit (.int .u8 0),.lit (.int .u8 0),.lit (.int .u8 0),.lit (.int .u8 0),.lit (.int .u8 0),.lit (.int .u8 0),.lit (.int .u8 0),.lit (.int .u8 0),.lit (.int .u8 0),.lit (.int .u8 0),.lit (.int .u8 0),.lit (.int .u8 0),.lit (.int .u8 0),.lit (.int .u8 0),.lit (.int .u8 0),.lit (.int .u8 0),.lit (.int .u8 0),.lit (.int .u8 0),.lit (.int .u8 0),.lit (.int .u8 0),.lit (.int .u8 0),.lit (.int .u8 0),.lit (.int .u8 0),.lit (.int .u8 0),.lit (.int .u8 0),.lit (.int .u8 0),.lit (.int .u8 0),.lit (.int .u8 0)],.nil,.lit (.int .i64 0),.lit (.int .i64 0)],.lit (.string [])]
theorem own:ownKnob Tryz.prog.godebug=none:=by kernel_rfl
set_option maxRecDepth 100000 in
theorem law(xs:vY [(.int .i64),Y30,.str])(h:wA Tryz.prog.bytesOf [(.int .i64),Y30,.str] xs):FnT Tryz.prog bN 3 (tvs [(.int .i64),Y30,.str] xs) [] (λ_=> .one .bool true) (λ_=>[]):=
 qg xs.1 xs.2.1 xs.2.2.1 _ (pF xs.1 xs.2.1 xs.2.2.1 h.1 h.2.1 h.2.2.1)
theorem Eu(os:Os):laidMet Tryz.prog Rows.storeBytesRow.laid ((laidW Tryz.prog os Rows.storeBytesRow.laid).forCall (λ_ _=>0) ⟨#[],vz,[]⟩).memory:=laidMet_of_run' 8 (by kernel_rfl) (by kernel_rfl)
theorem AC(os:Os){H:Type}(enc:TypeId×Value→H):(OpenSpec.ofChange Rows.storeBytesSpec).preRow enc Tryz.prog Tryz.f3 Rows.storeBytesRow.domain false Rows.storeBytesRow.laid ((laidW Tryz.prog os Rows.storeBytesRow.laid).forCall (λ_ _=>0) ⟨#[],vz,[]⟩).memory vz:=by
 have hw:(DataW.whole enc Tryz.prog ((laidW Tryz.prog os Rows.storeBytesRow.laid).forCall (λ_ _=>0) ⟨#[],vz,[]⟩).memory Tryz.f3.params.toList (OpenSpec.ofChange Rows.storeBytesSpec).vars false (vz:Array Value).toList 8).map (λx=>(x.1,x.2.1))=some (HB,[]):=by kernel_rfl
 obtain⟨⟨x1,x2,x3⟩,hx,hx1⟩:=Option.map_eq_some_iff.1 hw
 simp only[Prod.mk.injEq]at hx1
 obtain⟨rfl,rfl⟩:=hx1
 exact OpenSpec.preRow_of_cond 8 hx (by kernel_rfl) (λk hk=>by cases hk) (by kernel_rfl) (Eu os)
theorem HC(W:World)(h:laidMetH Tryz.prog Rows.storeBytesRow.laid W):∀x∈bN,Lib.TabIs Tryz.prog W x.1 x.2.1 x.2.2:=by
 intro x hx
 rcases List.mem_cons.1 hx with rfl|hx
 ·exact Lib.tabIs_of_head (P:=Tryz.prog) (g:=0) (t:=329) (e:=163) (n:=20) (by kernel_rfl) (by kernel_rfl) (by kernel_rfl) (by kernel_rfl) (by kernel_rfl) (by kernel_rfl) (show laidMet Tryz.prog Rows.storeBytesRow.laid W from h).tail.tail
 ·obtain rfl:=List.mem_singleton.1 hx
  exact Lib.tabIs_of_head (P:=Tryz.prog) (g:=3) (t:=332) (e:=5) (n:=64) (by kernel_rfl) (by kernel_rfl) (by kernel_rfl) (by kernel_rfl) (by kernel_rfl) (by kernel_rfl) (show laidMet Tryz.prog Rows.storeBytesRow.laid W from h).tail
set_option maxRecDepth 100000 in
theorem GF(os:Os)(started:os.Started)(H:Type)(enc:TypeId×Value→H)(F:Stop.Interp):
  ReturnsInHanded {} Tryz.checked os 3 .any ((OpenSpec.ofChange Rows.storeBytesSpec).preRow enc Tryz.prog Tryz.f3 Rows.storeBytesRow.domain false Rows.storeBytesRow.laid) (((OpenSpec.ofChange Rows.storeBytesSpec).at F).post enc Tryz.prog Tryz.f3 false true false false):=
 D5 (C:=Tryz.checked) (s:=Rows.storeBytesSpec) bN Rows.storeBytesRow.laid [(.int .i64),Y30,.str] (tids:=[2,30,9]) (bt:=4) own started (by kernel_rfl) Tryz.func3
  (witness_row_at (enc:=enc) (C:=Tryz.checked) false (laidW Tryz.prog os Rows.storeBytesRow.laid) vz rfl (by kernel_rfl) (by kernel_rfl) (by kernel_rfl) (AC os enc))
  Tryz.params3 rfl Tryz.underlying4 rfl (by kernel_rfl) (by kernel_rfl)
  (λds h=>match ds,h with|[d0,d1,d2],_=>rfl) (by kernel_rfl) HC (λxs h=>law xs h)
theorem Do:Rows.StoreBytesSaid:=
 OpenClaim.holds_of_wide 3 Tryz.f3 rfl rfl rfl rfl rfl rfl rfl ⟨rfl,rfl,rfl,rfl,rfl⟩ rfl rfl rfl rfl rfl (by kernel_rfl) Tryz.func3 (by kernel_rfl)
  (of_decide_eq_true (by kernel_rfl)) (by unfold Func.isWrapper;first|(rw[if_pos (by decide+kernel)];kernel_rfl)|(rw[if_neg (by decide+kernel)];exact⟨rfl,rfl⟩))
  (λos started H enc _=>by rw[OpenClaim.pre_eq_preRow];exact GF os started H enc (λ_ _ _=>0))
theorem proved:Rows.StoreBytesCardSaid:=
 Claim7.holds_tied_plain_at .later [] [.data,.data,.data] true (true,"73b37f9b5f2e7f8395101b51fe14fccd913fe9eaf333b08866018b15b3956763") false
  Do (λ_ h=>by cases h) (by kernel_rfl) (λ_ h=>by cases h) storeBytes_row_tie rfl ⟨rfl,rfl⟩ (by kernel_rfl) rfl
  (λf fn hf hfn=>by
    obtain rfl:f=3:=Option.some.inj ((show Tryz.prog.funcNamed "escrow/escrowlaw21.StoreBytes" =some 3 by kernel_rfl).symm.trans hf)|>.symm
    obtain rfl:fn=Tryz.f3:=(Option.some.inj (Tryz.func3.symm.trans hfn)).symm
    exact⟨by kernel_rfl,λj t ht=>by
     rw[Tryz.params3]at ht
     have hm:t∈[2,30,9]:=by simpa using Array.mem_of_getElem? ht
     have hall:([2,30,9].all λu=> !Tryz.prog.wantsStandIn u)=true:=by kernel_rfl
     exact(show Tryz.prog.wantsStandIn t=false by simpa using List.all_eq_true.1 hall t hm)⟩)
  (by kernel_rfl)
end storebytes
end Go.Proofs.YtfadfecpoimkiaaGreatDoor
