/-
  Own work, printed by a program of the same hand. Each function of the code answers what its plain twin reckons.
-/
import Derived.Test.YtfadfecpoimkiaaGreatDoorProg
import Derived.Test.YtfadfecpoimkiaaGreatDoorDefs
import Derived.Test.YtfadfecpoimkiaaGreatDoorComm
import Derived.Test.YtfadfecpoimkiaaGreatDoorLib3
import Derived.Test.YtfadfecpoimkiaaGreatDoorLib2
import Derived.Test.YtfadfecpoimkiaaGreatDoorHandB
import Derived.Test.YtfadfecpoimkiaaGreatDoorHandD
import Derived.Test.YtfadfecpoimkiaaGreatDoorHandP
import Derived.Test.YtfadfecpoimkiaaGreatDoorHandS
import Derived.KernelRfl
namespace Sx
open Go Go.Proofs Go.IntKind
set_option maxRecDepth 10000
set_option maxHeartbeats 1000000
attribute [local irreducible] wpList
@[reducible] def tsl(x:Value):TV:= .one (.raw (.slice none 0 0)) x
theorem o{α:Sort _}{a:α}:a=a:=rfl
@[reducible] def g4{b u c f M V:T}(p:Pth b u):Pth (.pair c (.pair f (.pair M (.pair V b)))) u:= .snd (.snd (.snd (.snd p)))
@[reducible] def g9{b u c f M V R W C H G:T}(p:Pth b u):Pth (.pair c (.pair f (.pair M (.pair V (.pair R (.pair W (.pair C (.pair H (.pair G b))))))))) u:= .snd (.snd (.snd (.snd (.snd (.snd (.snd (.snd (.snd p))))))))
@[reducible] def g10{b u c f M V R W C H G N:T}(p:Pth b u):Pth (.pair c (.pair f (.pair M (.pair V (.pair R (.pair W (.pair C (.pair H (.pair G (.pair N b)))))))))) u:= .snd (.snd (.snd (.snd (.snd (.snd (.snd (.snd (.snd (.snd p)))))))))
@[reducible] def g11{b u c f M V R W C H G N J:T}(p:Pth b u):Pth (.pair c (.pair f (.pair M (.pair V (.pair R (.pair W (.pair C (.pair H (.pair G (.pair N (.pair J b))))))))))) u:= .snd (.snd (.snd (.snd (.snd (.snd (.snd (.snd (.snd (.snd (.snd p))))))))))
@[reducible] def g13{b u c f M V R W C H G N J d m:T}(p:Pth b u):Pth (.pair c (.pair f (.pair M (.pair V (.pair R (.pair W (.pair C (.pair H (.pair G (.pair N (.pair J (.pair d (.pair m b))))))))))))) u:= .snd (.snd (.snd (.snd (.snd (.snd (.snd (.snd (.snd (.snd (.snd (.snd (.snd p))))))))))))
@[reducible] def z32:List Int:=List.replicate 32 0
@[reducible] noncomputable def PP:Program:=Tryz.prog
abbrev Y52:T:=(.pair (.int .i64) (.pair (.int .i64) (.pair (.int .i64) (.pair (.arr 32 (.int .u8)) (.pair .str .unit)))))
abbrev Y24:T:=(.pair (.int .i64) (.pair (.int .i64) .unit))
abbrev Y56:T:=(.pair (.int .i64) (.pair (.arr 32 (.int .u8)) (.pair .bool .unit)))
abbrev Y30:T:=(.pair (.int .i64) (.pair (.int .i64) (.pair (.int .i64) (.pair (.int .i64) (.pair (.sl 52 Y52) (.pair (.sl 52 Y52) (.pair (.int .i64) (.pair (.int .i64) (.pair (.int .i64) (.pair Y24 (.pair Y24 (.pair Y24 (.pair .bool (.pair (.arr 2 (.arr 32 (.int .u8))) (.pair (.arr 32 (.int .u8)) (.pair (.sl 56 Y56) (.pair (.int .i64) (.pair (.int .i64) .unit))))))))))))))))))
abbrev Y40:T:=(.pair (.int .i64) (.pair (.int .i64) (.pair (.int .i64) (.pair (.arr 32 (.int .u8)) (.pair (.arr 32 (.int .u8)) (.pair (.arr 32 (.int .u8)) (.pair (.arr 2 (.arr 32 (.int .u8))) (.pair (.int .i64) .unit))))))))
abbrev Y195:T:=(.pair (.int .i64) (.pair (.int .i64) (.pair (.int .i64) .unit)))
abbrev Y54:T:=(.pair (.int .i64) (.pair Y52 (.pair (.sl 52 Y52) (.pair (.int .i64) (.pair Y24 (.pair (.arr 32 (.int .u8)) (.pair (.arr 32 (.int .u8)) (.pair (.arr 32 (.int .u8)) (.pair (.int .i64) .unit)))))))))
abbrev Y282:T:=(.pair (.int .i64) (.pair (.arr 32 (.int .u8)) (.pair (.arr 32 (.int .u8)) .unit)))
abbrev Y280:T:=(.pair (.int .i64) (.pair (.sl 52 Y52) (.pair (.arr 32 (.int .u8)) .unit)))
abbrev Y212:T:=(.ifc 276 (.pair Y52 .unit) (.ifc 278 (.pair (.int .i64) (.pair Y24 .unit)) (.ifc 280 Y280 (.ifc 282 Y282 (.ifc 284 (.pair (.int .i64) .unit) (.ifc 286 (.pair (.int .i64) .unit) (.raw .nilIface)))))))
abbrev Y205:T:=(.arr 2 (.pair (.int .i64) (.pair .bool .unit)))
abbrev Y152:T:=(.pair .str (.pair (.int .i64) (.pair (.int .i64) (.pair .str .unit))))
abbrev W84:T:= .sl 52 Y52
abbrev W85:T:= .sl 56 Y56
abbrev W86:T:= .sl 9 .str
abbrev W83:T:= .sl 152 Y152
abbrev W82:T:= .raw .nilFunc
abbrev W80:T:= .pair Y52 .unit
abbrev W78:T:= .raw (.map none)
abbrev W77:T:= .sl 3 (.int .i64)
abbrev W73:T:= .arr 32 (.int .u8)
abbrev W74:T:= .arr 6 (.int .i64)
abbrev W75:T:= .arr 8 (.int .u32)
abbrev W71:T:= .arr 16 (.int .u32)
abbrev W72:T:= .arr 64 (.int .u32)
abbrev W70:T:= .raw (.pointer none)
abbrev W69:T:= .raw (.slice none 0 0)
abbrev W68:T:= .pair (.int .i64) .unit
abbrev W67:T:= .arr 2 W73
abbrev W66:T:= .pair .str (.pair .bool .unit)
abbrev W64:T:= .pair (.int .i64) (.pair Y24 .unit)
abbrev W63:T:= .pair .str W68
abbrev W62:T:= .pair (.int .i64) (.pair .bool .unit)
abbrev W61:T:= .pair (.int .i64) W68
abbrev W59:T:= .pair W70 (.pair .bool .unit)
abbrev W56:T:= .pair W69 W68
abbrev W51:T:= .pair W69 (.pair (.int .i64) (.pair .bool (.pair .bool .unit)))
abbrev W50:T:= .pair W70 (.pair .str W61)
abbrev W45:T:= .pair W70 (.pair W70 (.pair W70 (.pair Y30 .unit)))
abbrev W43:T:= .pair W70 (.pair .str (.pair (.int .i64) (.pair W69 W62)))
abbrev W29:T:= .pair (.int .i64) (.pair (.int .i64) (.pair (.int .i64) (.pair Y24 (.pair Y24 (.pair Y24 (.pair .bool (.pair W67 (.pair W73 (.pair W85 W61)))))))))
abbrev W4:T:= .pair (.int .i64) (.pair (.int .i64) (.pair (.int .i64) (.pair (.int .i64) (.pair W84 (.pair W84 (.pair (.int .i64) (.pair (.int .i64) (.pair (.int .i64) (.pair Y24 (.pair Y24 (.pair Y24 (.pair .bool (.pair W67 (.pair W73 (.pair W69 W61)))))))))))))))
abbrev W5:T:= .pair (.int .i64) (.pair (.int .i64) (.pair (.int .i64) (.pair (.int .i64) (.pair W69 (.pair W84 W29)))))
abbrev W1:T:= .pair (.int .i64) (.pair (.int .i64) (.pair (.int .i64) (.pair (.int .i64) (.pair W69 (.pair W84 (.pair (.int .i64) (.pair (.int .i64) (.pair (.int .i64) (.pair Y24 (.pair Y24 (.pair Y24 (.pair .bool (.pair W67 (.pair W73 (.pair W69 W61)))))))))))))))
abbrev W2:T:= .pair (.int .i64) (.pair (.int .i64) (.pair (.int .i64) (.pair (.int .i64) (.pair W84 (.pair W69 (.pair (.int .i64) (.pair (.int .i64) (.pair (.int .i64) (.pair Y24 (.pair Y24 (.pair Y24 (.pair .bool (.pair W67 (.pair W73 (.pair W69 W61)))))))))))))))
abbrev W0:T:= .pair (.int .i64) (.pair (.int .i64) (.pair (.int .i64) (.pair (.int .i64) (.pair W69 (.pair W69 (.pair (.int .i64) (.pair (.int .i64) (.pair (.int .i64) (.pair Y24 (.pair Y24 (.pair Y24 (.pair .bool (.pair W67 (.pair W73 (.pair W69 W61)))))))))))))))
theorem ty2:bf PP (.int .i64) 2=true:=by kernel_rfl
theorem ty3:bf PP (.int .i64) 3=true:=by kernel_rfl
theorem ty4:bf PP .bool 4=true:=by kernel_rfl
theorem ty5:bf PP (.int .u8) 5=true:=by kernel_rfl
theorem ty9:bf PP .str 9=true:=by kernel_rfl
theorem jA:bf PP W84 22=true:=by kernel_rfl
theorem eM:bf PP Y24 24=true:=by kernel_rfl
theorem bB:bf PP W73 26=true:=by kernel_rfl
theorem Ab:bf PP W67 27=true:=by kernel_rfl
theorem qF:bf PP W85 28=true:=by kernel_rfl
theorem bR:bf PP Y30 30=true:=by kernel_rfl
theorem fW:bf PP (.int .i64) 31=true:=by kernel_rfl
theorem Eq:bf PP Y40 40=true:=by kernel_rfl
theorem ec:bf PP W70 42=true:=by kernel_rfl
theorem br:bf PP Y52 52=true:=by kernel_rfl
theorem fX:bf PP Y54 54=true:=by kernel_rfl
theorem jg:bf PP Y56 56=true:=by kernel_rfl
theorem cJ:bf PP (.int .u32) 89=true:=by kernel_rfl
theorem B9:bf PP W74 95=true:=by kernel_rfl
theorem ik:bf PP W70 100=true:=by kernel_rfl
theorem vw:bf PP W70 106=true:=by kernel_rfl
theorem m9:bf PP W78 121=true:=by kernel_rfl
theorem dm:bf PP W70 127=true:=by kernel_rfl
theorem yB:bf PP W86 128=true:=by kernel_rfl
theorem He:bf PP W70 132=true:=by kernel_rfl
theorem oe:bf PP Y152 152=true:=by kernel_rfl
theorem dB:bf PP Y195 195=true:=by kernel_rfl
theorem na:bf PP W62 204=true:=by kernel_rfl
theorem q9:bf PP W78 235=true:=by kernel_rfl
theorem yC:bf PP W71 287=true:=by kernel_rfl
theorem lY:bf PP W75 353=true:=by kernel_rfl
theorem nb:bf PP W72 354=true:=by kernel_rfl
theorem tx0:bf PP W69 22=true:=by kernel_rfl
theorem tx1:bf PP W69 28=true:=by kernel_rfl
theorem tx2:bf PP (.raw (fnv 85)) 68=true:=by kernel_rfl
theorem tx3:bf PP W69 91=true:=by kernel_rfl
theorem tx4:bf PP W69 128=true:=by kernel_rfl
theorem tx5:bf PP W69 184=true:=by kernel_rfl
theorem zf3:(PP.info? 3).bind (·.zero)=some (mk (.int .i64) (zc (.int .i64))):=by kernel_rfl
theorem zf4:(PP.info? 4).bind (·.zero)=some (mk .bool (zc .bool)):=by kernel_rfl
theorem zf5:(PP.info? 5).bind (·.zero)=some (mk (.int .u8) (zc (.int .u8))):=by kernel_rfl
theorem Er:(PP.info? 24).bind (·.zero)=some (mk Y24 (zc Y24)):=by kernel_rfl
theorem lu:(PP.info? 26).bind (·.zero)=some (mk W73 (zc W73)):=by kernel_rfl
theorem HZ:(PP.info? 27).bind (·.zero)=some (mk W67 (zc W67)):=by kernel_rfl
theorem gU:(PP.info? 30).bind (·.zero)=some (mk Y30 (zc Y30)):=by kernel_rfl
theorem H0:(PP.info? 31).bind (·.zero)=some (mk (.int .i64) (zc (.int .i64))):=by kernel_rfl
theorem GC:(PP.info? 40).bind (·.zero)=some (mk Y40 (zc Y40)):=by kernel_rfl
theorem ii:(PP.info? 52).bind (·.zero)=some (mk Y52 (zc Y52)):=by kernel_rfl
theorem kR:(PP.info? 54).bind (·.zero)=some (mk Y54 (zc Y54)):=by kernel_rfl
theorem xo:(PP.info? 56).bind (·.zero)=some (mk Y56 (zc Y56)):=by kernel_rfl
theorem H1:(PP.info? 68).bind (·.zero)=some (mk W82 (zc W82)):=by kernel_rfl
theorem Ca:(PP.info? 95).bind (·.zero)=some (mk W74 (zc W74)):=by kernel_rfl
theorem Hf:(PP.info? 103).bind (·.zero)=some (mk W59 (zc W59)):=by kernel_rfl
theorem Hg:(PP.info? 113).bind (·.zero)=some (mk W66 (zc W66)):=by kernel_rfl
theorem Hh:(PP.info? 123).bind (·.zero)=some (mk DT (zc DT)):=by kernel_rfl
theorem EZ:(PP.info? 127).bind (·.zero)=some (mk W70 (zc W70)):=by kernel_rfl
theorem Hi:(PP.info? 128).bind (·.zero)=some (mk W86 (zc W86)):=by kernel_rfl
theorem Hj:(PP.info? 136).bind (·.zero)=some (mk W45 (zc W45)):=by kernel_rfl
theorem Hk:(PP.info? 139).bind (·.zero)=some (mk BT (zc BT)):=by kernel_rfl
theorem vx:(PP.info? 152).bind (·.zero)=some (mk Y152 (zc Y152)):=by kernel_rfl
theorem Hl:(PP.info? 161).bind (·.zero)=some (mk W56 (zc W56)):=by kernel_rfl
theorem Hm:(PP.info? 171).bind (·.zero)=some (mk W63 (zc W63)):=by kernel_rfl
theorem Hn:(PP.info? 186).bind (·.zero)=some (mk W43 (zc W43)):=by kernel_rfl
theorem Ho:(PP.info? 191).bind (·.zero)=some (mk W51 (zc W51)):=by kernel_rfl
theorem qa:(PP.info? 195).bind (·.zero)=some (mk Y195 (zc Y195)):=by kernel_rfl
theorem E3:(PP.info? 204).bind (·.zero)=some (mk W62 (zc W62)):=by kernel_rfl
theorem Hp:(PP.info? 205).bind (·.zero)=some (mk Y205 (zc Y205)):=by kernel_rfl
theorem E4:(PP.info? 208).bind (·.zero)=some (mk W50 (zc W50)):=by kernel_rfl
theorem Cb:(PP.info? 237).bind (·.zero)=some (mk FT (zc FT)):=by kernel_rfl
theorem Hq:(PP.info? 276).bind (·.zero)=some (mk W80 (zc W80)):=by kernel_rfl
theorem Hr:(PP.info? 278).bind (·.zero)=some (mk W64 (zc W64)):=by kernel_rfl
theorem Hs:(PP.info? 280).bind (·.zero)=some (mk Y280 (zc Y280)):=by kernel_rfl
theorem Ht:(PP.info? 282).bind (·.zero)=some (mk Y282 (zc Y282)):=by kernel_rfl
theorem Hu:(PP.info? 284).bind (·.zero)=some (mk W68 (zc W68)):=by kernel_rfl
theorem Hv:(PP.info? 286).bind (·.zero)=some (mk W68 (zc W68)):=by kernel_rfl
theorem Cc:(PP.info? 287).bind (·.zero)=some (mk W71 (zc W71)):=by kernel_rfl
theorem qb:(PP.info? 353).bind (·.zero)=some (mk W75 (zc W75)):=by kernel_rfl
theorem pp:(PP.info? 354).bind (·.zero)=some (mk W72 (zc W72)):=by kernel_rfl
theorem el2:gr PP (.int .i64) 2 8=true:=by kernel_rfl
theorem el3:gr PP (.int .i64) 3 8=true:=by kernel_rfl
theorem el5:gr PP (.int .u8) 5 1=true:=by kernel_rfl
theorem el9:gr PP .str 9 16=true:=by kernel_rfl
theorem H2:gr PP W73 26 32=true:=by kernel_rfl
theorem jB:gr PP Y52 52 72=true:=by kernel_rfl
theorem Cd:gr PP Y54 54 232=true:=by kernel_rfl
theorem uV:gr PP Y56 56 48=true:=by kernel_rfl
theorem Hw:gr PP W70 106 8=true:=by kernel_rfl
theorem gT:gr PP Y195 195 24=true:=by kernel_rfl
theorem nl:PP.underlying 26=some (.array 32 5):=Tryz.underlying26
theorem tJ:PP.underlying 27=some (.array 2 26):=Tryz.underlying27
abbrev Ce:=Tryz.underlying30
theorem GD:PP.underlying 95=some (.array 6 3):=Tryz.underlying95
theorem qc:PP.underlying 205=some (.array 2 204):=Tryz.underlying205
abbrev yD:=Tryz.underlying212
theorem Cf:PP.underlying 287=some (.array 16 89):=Tryz.underlying287
theorem Hx:PP.underlying 332=some (.array 64 5):=Tryz.underlying332
theorem jZ:PP.underlying 353=some (.array 8 89):=Tryz.underlying353
theorem qd:PP.underlying 354=some (.array 64 89):=Tryz.underlying354
theorem Cg:PP.keyTypeAt 20 24=true:=by kernel_rfl
theorem Ch:PP.eqGuardType PP.depth 24=false:=by kernel_rfl
theorem uW:PP.keyTypeAt 20 26=true:=by kernel_rfl
theorem uX:PP.eqGuardType PP.depth 26=false:=by kernel_rfl
theorem H3:PP.keyTypeAt 20 27=true:=by kernel_rfl
theorem H4:PP.eqGuardType PP.depth 27=false:=by kernel_rfl
theorem Es:PP.keyTypeAt 20 52=true:=by kernel_rfl
theorem Et:PP.eqGuardType PP.depth 52=false:=by kernel_rfl
theorem H5:PP.keyTypeAt 20 56=true:=by kernel_rfl
theorem H6:PP.eqGuardType PP.depth 56=false:=by kernel_rfl
def bd:Kind:=⟨bF,Value,λb s x=>[Res.var b 161 W56 (s,x.2.1,x.2.2),Res.own s 5 (.int .u8) x.1]⟩
theorem cK{F:Fr}{n:Nat}{E:Env}{L:List Res}{X:Act→World→Prop}{p:Value}{x:List (Int)×Int×Unit}(g:∀b c,p= .pointer (some ⟨b,0,none⟩)→Go F n E (Res.var b 161 W56 (c,x.2.1,x.2.2)::Res.own c 5 (.int .u8) x.1::L) X):Go F n E (Res.cls bd p x::L) X:=kG (K:=bd) λb c h=>g b c h
theorem jV{F:Fr}{n:Nat}{E:Env}{L:List Res}{X:Act→World→Prop}{b:Nat}{x:List (Int)×Int×Unit}(g:∀c,Go F n E (Res.var b 161 W56 (c,x.2.1,x.2.2)::Res.own c 5 (.int .u8) x.1::L) X):Go F n E (Res.cls bd (.pointer (some ⟨b,0,none⟩)) x::L) X:=nh (K:=bd) λc=>g c
theorem bS{F:Fr}{n:Nat}{E:Env}{L:List Res}{X:Act→World→Prop}{b:Nat}{c:Value}{x:List (Int)×Int×Unit}(g:Go F n E (Res.cls bd (.pointer (some ⟨b,0,none⟩)) x::L) X):Go F n E (Res.var b 161 W56 (c,x.2.1,x.2.2)::Res.own c 5 (.int .u8) x.1::L) X:=nU (K:=bd) (s:=c) g
def dS:Kind:=⟨Z13,Unit,λb _ x=>[Res.var b 171 W63 (x.1,x.2.1,x.2.2)]⟩
theorem fw{F:Fr}{n:Nat}{E:Env}{L:List Res}{X:Act→World→Prop}{p:Value}{x:List Int×Int×Unit}(g:∀b,p= .pointer (some ⟨b,0,none⟩)→Go F n E (Res.var b 171 W63 (x.1,x.2.1,x.2.2)::L) X):Go F n E (Res.cls dS p x::L) X:=kG (K:=dS) λb _ h=>g b h
theorem fH{F:Fr}{n:Nat}{E:Env}{L:List Res}{X:Act→World→Prop}{b:Nat}{x:List Int×Int×Unit}(g:Go F n E (Res.cls dS (.pointer (some ⟨b,0,none⟩)) x::L) X):Go F n E (Res.var b 171 W63 (x.1,x.2.1,x.2.2)::L) X:=nU (K:=dS) (s:=()) g
def gw:Kind:=⟨(Int×Z13)×Bool×Unit,Value,λb s x=>[Res.var b 103 W59 (s,x.2.1,x.2.2),Res.clsif dS s x.1.2 x.1.1]⟩
theorem rE{F:Fr}{n:Nat}{E:Env}{L:List Res}{X:Act→World→Prop}{p:Value}{x:(Int×Z13)×Bool×Unit}(g:∀b c,p= .pointer (some ⟨b,0,none⟩)→Go F n E (Res.var b 103 W59 (c,x.2.1,x.2.2)::Res.clsif dS c x.1.2 x.1.1::L) X):Go F n E (Res.cls gw p x::L) X:=kG (K:=gw) λb c h=>g b c h
theorem iT{F:Fr}{n:Nat}{E:Env}{L:List Res}{X:Act→World→Prop}{b:Nat}{x:(Int×Z13)×Bool×Unit}(g:∀c,Go F n E (Res.var b 103 W59 (c,x.2.1,x.2.2)::Res.clsif dS c x.1.2 x.1.1::L) X):Go F n E (Res.cls gw (.pointer (some ⟨b,0,none⟩)) x::L) X:=nh (K:=gw) λc=>g c
theorem gR{F:Fr}{n:Nat}{E:Env}{L:List Res}{X:Act→World→Prop}{b:Nat}{c:Value}{x:(Int×Z13)×Bool×Unit}(g:Go F n E (Res.cls gw (.pointer (some ⟨b,0,none⟩)) x::L) X):Go F n E (Res.var b 103 W59 (c,x.2.1,x.2.2)::Res.clsif dS c x.1.2 x.1.1::L) X:=nU (K:=gw) (s:=c) g
def co(q:Value):Kind:=⟨Unit×List Int×Int×(List cq)×cx,Value,λb s x=>[Res.var b 186 W43 (bT x q s),Res.own s 195 Y195 x.2.2.2.1]⟩
theorem nn{F:Fr}{n:Nat}{E:Env}{L:List Res}{X:Act→World→Prop}{q:Value}{p:Value}{x:Unit×List Int×Int×(List cq)×Int×Bool×Unit}(g:∀b c,p= .pointer (some ⟨b,0,none⟩)→Go F n E (Res.var b 186 W43 (bT x q c)::Res.own c 195 Y195 x.2.2.2.1::L) X):Go F n E (Res.cls (co q) p x::L) X:=kG (K:=(co q)) λb c h=>g b c h
theorem fY{F:Fr}{n:Nat}{E:Env}{L:List Res}{X:Act→World→Prop}{q:Value}{b:Nat}{x:Unit×List Int×Int×(List cq)×Int×Bool×Unit}(g:∀c,Go F n E (Res.var b 186 W43 (bT x q c)::Res.own c 195 Y195 x.2.2.2.1::L) X):Go F n E (Res.cls (co q) (.pointer (some ⟨b,0,none⟩)) x::L) X:=nh (K:=(co q)) λc=>g c
theorem cd{F:Fr}{n:Nat}{E:Env}{L:List Res}{X:Act→World→Prop}{q:Value}{b:Nat}{c:Value}{x:Unit×List Int×Int×(List cq)×Int×Bool×Unit}(g:Go F n E (Res.cls (co q) (.pointer (some ⟨b,0,none⟩)) x::L) X):Go F n E (Res.var b 186 W43 (bT x q c)::Res.own c 195 Y195 x.2.2.2.1::L) X:=nU (K:=(co q)) (s:=c) g
def fj(q:Value):Kind:=⟨Unit×List Int×Z23,Unit,λb _ x=>[Res.var b 208 W50 (gn x q)]⟩
theorem Dm{F:Fr}{n:Nat}{E:Env}{L:List Res}{X:Act→World→Prop}{q:Value}{p:Value}{x:Unit×List Int×Int×Int×Unit}(g:∀b,p= .pointer (some ⟨b,0,none⟩)→Go F n E (Res.var b 208 W50 (gn x q)::L) X):Go F n E (Res.cls (fj q) p x::L) X:=kG (K:=(fj q)) λb _ h=>g b h
theorem Ci{F:Fr}{n:Nat}{E:Env}{L:List Res}{X:Act→World→Prop}{q:Value}{b:Nat}{x:Unit×List Int×Int×Int×Unit}(g:Go F n E (Res.var b 208 W50 (gn x q)::L) X):Go F n E (Res.cls (fj q) (.pointer (some ⟨b,0,none⟩)) x::L) X:=nh (K:=(fj q)) λ_=>g
theorem vy{F:Fr}{n:Nat}{E:Env}{L:List Res}{X:Act→World→Prop}{q:Value}{b:Nat}{x:Unit×List Int×Int×Int×Unit}(g:Go F n E (Res.cls (fj q) (.pointer (some ⟨b,0,none⟩)) x::L) X):Go F n E (Res.var b 208 W50 (gn x q)::L) X:=nU (K:=(fj q)) (s:=()) g
def bZ(q:Value):Kind:=⟨Unit×(Int×Unit×List Int×Int×(List cq)×cx)×(Int×Unit×List Int×Z23)×Z29×Unit,Value×Value,λb s x=>[Res.var b 136 W45 (q,s.1,s.2,x.2.2.2.1,x.2.2.2.2),Res.clsif (co q) s.1 x.2.1.2 x.2.1.1,Res.clsif (fj q) s.2 x.2.2.1.2 x.2.2.1.1]⟩
theorem qe{F:Fr}{n:Nat}{E:Env}{L:List Res}{X:Act→World→Prop}{q:Value}{p:Value}{x:Unit×(Int×Unit×List Int×Int×(List cq)×cx)×(Int×Unit×List Int×Z23)×Z29×Unit}(g:∀b c f,p= .pointer (some ⟨b,0,none⟩)→Go F n E (Res.var b 136 W45 (q,c,f,x.2.2.2.1,x.2.2.2.2)::Res.clsif (co q) c x.2.1.2 x.2.1.1::Res.clsif (fj q) f x.2.2.1.2 x.2.2.1.1::L) X):Go F n E (Res.cls (bZ q) p x::L) X:=kG (K:=(bZ q)) λb ⟨c,f⟩ h=>g b c f h
theorem pq{F:Fr}{n:Nat}{E:Env}{L:List Res}{X:Act→World→Prop}{q:Value}{b:Nat}{x:Unit×(Int×Unit×List Int×Int×(List cq)×cx)×(Int×Unit×List Int×Z23)×Z29×Unit}(g:∀c f,Go F n E (Res.var b 136 W45 (q,c,f,x.2.2.2.1,x.2.2.2.2)::Res.clsif (co q) c x.2.1.2 x.2.1.1::Res.clsif (fj q) f x.2.2.1.2 x.2.2.1.1::L) X):Go F n E (Res.cls (bZ q) (.pointer (some ⟨b,0,none⟩)) x::L) X:=nh (K:=(bZ q)) λ⟨c,f⟩=>g c f
theorem gL{F:Fr}{n:Nat}{E:Env}{L:List Res}{X:Act→World→Prop}{q:Value}{b:Nat}{c f:Value}{x:Unit×(Int×Unit×List Int×Int×(List cq)×cx)×(Int×Unit×List Int×Z23)×Z29×Unit}(g:Go F n E (Res.cls (bZ q) (.pointer (some ⟨b,0,none⟩)) x::L) X):Go F n E (Res.var b 136 W45 (q,c,f,x.2.2.2.1,x.2.2.2.2)::Res.clsif (co q) c x.2.1.2 x.2.1.1::Res.clsif (fj q) f x.2.2.1.2 x.2.2.1.1::L) X:=nU (K:=(bZ q)) (s:=(c,f)) g
def jp:Kind:=⟨oQ,Value,λb s x=>[Res.var b 191 W51 (gn x s),Res.own s 9 .str x.1]⟩
theorem Cj{F:Fr}{n:Nat}{E:Env}{L:List Res}{X:Act→World→Prop}{p:Value}{x:List (List Int)×Int×Bool×Bool×Unit}(g:∀b c,p= .pointer (some ⟨b,0,none⟩)→Go F n E (Res.var b 191 W51 (gn x c)::Res.own c 9 .str x.1::L) X):Go F n E (Res.cls jp p x::L) X:=kG (K:=jp) λb c h=>g b c h
theorem mV{F:Fr}{n:Nat}{E:Env}{L:List Res}{X:Act→World→Prop}{b:Nat}{x:List (List Int)×Int×Bool×Bool×Unit}(g:∀c,Go F n E (Res.var b 191 W51 (gn x c)::Res.own c 9 .str x.1::L) X):Go F n E (Res.cls jp (.pointer (some ⟨b,0,none⟩)) x::L) X:=nh (K:=jp) λc=>g c
theorem jW{F:Fr}{n:Nat}{E:Env}{L:List Res}{X:Act→World→Prop}{b:Nat}{c:Value}{x:List (List Int)×Int×Bool×Bool×Unit}(g:Go F n E (Res.cls jp (.pointer (some ⟨b,0,none⟩)) x::L) X):Go F n E (Res.var b 191 W51 (gn x c)::Res.own c 9 .str x.1::L) X:=nU (K:=jp) (s:=c) g
def db:Kind:=⟨Z29,Value×Value×Value,λb s x=>[Res.var b 30 W0 (gZ x s.1 s.2.1 s.2.2),Res.own s.1 52 Y52 x.2.2.2.2.1,Res.own s.2.1 52 Y52 x.2.2.2.2.2.1,Res.own s.2.2 56 Y56 x.2.2.2.2.2.2.2.2.2.2.2.2.2.2.2.1]⟩
theorem mA{F:Fr}{n:Nat}{E:Env}{L:List Res}{X:Act→World→Prop}{p:Value}{x:Int×Int×Int×Int×(List Z51)×(List Z51)×Int×Int×Int×Z23×Z23×Z23×Bool×List (List (Int))×List (Int)×(List Z55)×Int×Int×Unit}(g:∀b c f u,p= .pointer (some ⟨b,0,none⟩)→Go F n E (Res.var b 30 W0 (gZ x c f u)::Res.own c 52 Y52 x.2.2.2.2.1::Res.own f 52 Y52 x.2.2.2.2.2.1::Res.own u 56 Y56 x.2.2.2.2.2.2.2.2.2.2.2.2.2.2.2.1::L) X):Go F n E (Res.cls db p x::L) X:=kG (K:=db) λb ⟨c,f,u⟩ h=>g b c f u h
theorem kj{F:Fr}{n:Nat}{E:Env}{L:List Res}{X:Act→World→Prop}{b:Nat}{x:Int×Int×Int×Int×(List Z51)×(List Z51)×Int×Int×Int×Z23×Z23×Z23×Bool×List (List (Int))×List (Int)×(List Z55)×Int×Int×Unit}(g:∀c f u,Go F n E (Res.var b 30 W0 (gZ x c f u)::Res.own c 52 Y52 x.2.2.2.2.1::Res.own f 52 Y52 x.2.2.2.2.2.1::Res.own u 56 Y56 x.2.2.2.2.2.2.2.2.2.2.2.2.2.2.2.1::L) X):Go F n E (Res.cls db (.pointer (some ⟨b,0,none⟩)) x::L) X:=nh (K:=db) λ⟨c,f,u⟩=>g c f u
theorem hP{F:Fr}{n:Nat}{E:Env}{L:List Res}{X:Act→World→Prop}{b:Nat}{c f u:Value}{x:Int×Int×Int×Int×(List Z51)×(List Z51)×Int×Int×Int×Z23×Z23×Z23×Bool×List (List (Int))×List (Int)×(List Z55)×Int×Int×Unit}(g:Go F n E (Res.cls db (.pointer (some ⟨b,0,none⟩)) x::L) X):Go F n E (Res.var b 30 W0 (gZ x c f u)::Res.own c 52 Y52 x.2.2.2.2.1::Res.own f 52 Y52 x.2.2.2.2.2.1::Res.own u 56 Y56 x.2.2.2.2.2.2.2.2.2.2.2.2.2.2.2.1::L) X:=nU (K:=db) (s:=(c,f,u)) g
def bN:List (String×IntKind×List Int):=[ED,EE]
@[reducible] def dI:DI:=⟨123,237,9,3,5⟩
theorem ep:eh PP .str dI.str=true:=by kernel_rfl
theorem uY:eh PP (.int .i64) dI.int=true:=by kernel_rfl
theorem zNV:(PP.info? 180).bind (·.zero)=some NV:=by kernel_rfl
theorem GE:eh PP (.int .i64) 3=true:=by kernel_rfl
def tab:Tab:={ints:=[(2,.i64),(3,.i64),(5,.u8),(84,.u16),(89,.u32),(163,.u64),(179,.u64)],strs:=[(9,())],slices:=[(22,52),(28,56),(41,54),(61,2),(64,152),(81,3),(86,26),(91,5),(107,106),(128,9),(184,195)],arrs:=[],offs:=[(24,[0,1]),(30,[0,1,2,3,4,5,6,7,8,9,11,13,15,16,80,112,113,114]),(40,[0,1,2,3,35,67,99,163]),(52,[0,1,2,3,35]),(54,[0,1,37,38,39,41,73,105,137]),(56,[0,1,33]),(103,[0,1]),(113,[0,1]),(123,[0,1,2,3,4,5,6]),(136,[0,1,2,3]),(139,[0,1]),(152,[0,1,2,3]),(161,[0,1]),(171,[0,1]),(186,[0,1,2,3,4,5]),(191,[0,1,2,3]),(195,[0,1,2]),(204,[0,1]),(208,[0,1,2,3]),(237,[0,1,2]),(276,[0]),(278,[0,1]),(280,[0,1,2]),(282,[0,1,33]),(284,[0]),(286,[0])]}
theorem af:tab.chk PP=true:=by kernel_rfl
theorem p{F:Fr}{n:Nat}{E E0:Env}{L:List Res}{ops:Array Oper}{Q:Exit→Act→World→Prop}{l:List Oper}(k:Nat)(keys:List Nat)(h:seg tab n ops (l.take k) E keys=some E0)(g:Go F n E0 L (wpList PP ops Q (l.drop k))):Go F n E L (wpList PP ops Q l):=gN af k keys h g
theorem q{F:Fr}{n:Nat}{E E0:Env}{L:List Res}{ops:Array Oper}{Q:Exit→Act→World→Prop}{l:List Oper}(k:Nat)(new:Env)(keys:List Nat)(h:DF tab n ops (l.take k) E (new.map (·.1)) keys=some (new,E0))(g:Go F n (new++E0) L (wpList PP ops Q (l.drop k))):Go F n E L (wpList PP ops Q l):=Fo af k h g
theorem zm{F:Fr}{n:Nat}{E E':Env}{L:List Res}{ops:Array Oper}{Q:Exit→Act→World→Prop}{l:List Oper}(k:Nat)(h:eu tab n ops (l.take k) E=some E')(g:Go F n E' L (wpList PP ops Q (l.drop k))):Go F n E L (wpList PP ops Q l):=GT af k h g
theorem zF{F:Fr}{n:Nat}{L:List Res}{ops:Array Oper}{Q:Exit→Act→World→Prop}[b:BlindC Q](k:Nat)(is:List Nat){E E':Env}{fuel:Nat}{listed:Array Bool}(hc:pE n ops is listed=true)(h:kH tab n ops is E=some E')(hk:is.length=k)(g:Go F n E' L (wpAny PP .any ops Q fuel (sA is listed))):Go F n E L (wpAny PP .any ops Q (fuel+k) listed):=sB af hc h hk g
theorem zH{F:Fr}{n:Nat}{L:List Res}{ops:Array Oper}{Q:Exit→Act→World→Prop}{S:World→Prop}[b:BlindC Q](k:Nat)(is:List Nat){E E':Env}{fuel:Nat}{listed:Array Bool}(hS:∀M w,St F M w L→S w)(hc:pE n ops is listed=true)(h:kH tab n ops is E=some E')(hk:is.length=k)(g:(∀M w,St F M w L→S w)→Go F n E' L (wpAnyH PP .any ops Q S fuel (sA is listed))):Go F n E L (wpAnyH PP .any ops Q S (fuel+k) listed):=FG af is hS hc h hk g
section
variable {F:Fr}{n:Nat}{E E':Env}{L:List Res}{ops:Array Oper}{Q R:Exit→Act→World→Prop}{K:Act→World→Prop}{l:List Oper}{id:Nat}{c2:Code}
theorem zA(h:eu tab n ops l E=some E')(g:Go F n E' L K):Go F n E L (wpList PP ops (Exit.then K Q) l):=zV af h (za g)
theorem zN(h:eu tab n ops l E=some E')(g:Go F n E' L (Q .normal)):Go F n E L (wpList PP ops Q l):=zV af h (zn g)
theorem zE(h:eu tab n ops l E=some E')(g:Go F n E' L (Q .ret)):Go F n E L (wpList PP ops (Exit.then (Code.ret.wp PP Q) R) l):=zV af h (zf g)
theorem zU(k:Nat)(h:eu tab n l.toArray (l.take k) E=some E')(g:Go F n E' L (wpList PP l.toArray (Exit.then (c2.wp PP Q) Q) (l.drop k))):Go F n E L ((Code.seq (Code.region id l.toArray false) c2).wp PP Q):=zu (zm k h g)
theorem zW(h:eu tab n l.toArray l E=some E')(g:Go F n E' L (c2.wp PP Q)):Go F n E L ((Code.seq (Code.region id l.toArray false) c2).wp PP Q):=zu (zA h g)
theorem zZ(k:Nat)(h:eu tab n l.toArray (l.take k) E=some E')(g:Go F n E' L (wpList PP l.toArray (Exit.then (c2.wp PP Q) Q) (l.drop k))):Go F n E L (wpList PP ops (Exit.then ((Code.seq (Code.region id l.toArray false) c2).wp PP Q) R) []):=zz (zm k h g)
theorem zL(keys:List Nat)(h:lR E keys=some E')(g:Go F n E' L K):Go F n E L (wpList PP ops (Exit.then K Q) []):=za (ai keys h g)
end
theorem gM(c u f r)(h:ga c u f=some r):bw PP 84 [ti c,ti u,ti f] (tb r):=by
 unfold ga at h
 refine enter Tryz.func84 o 15 o o λF=>?_
 refine zU 1 o<|zz<|q 4 [(0,ti c),(2,ti f),(10,tb (decide (c≥u)))] [] o ?_
 obtain⟨M,e,h⟩:=aj h;rw[e]
 refine aH 4 [(14,tb (M&&(decide (c≤f))))] [] (?_) ?_
 ·clear h
  cases M
  ·exact zA o<|ap () o o
  exact zA o<|ap () o o
 refine zE o ?_
 cases h
 exact ax o (.tmp o)
theorem lO(c r)(h:iz c=some r):bw PP 83 [ti c] (tb r):=by
 unfold iz at h
 refine enter Tryz.func83 o 5 o o λF=>?_
 refine zU 1 o<|zZ 1 o<|cB h λu f h=>au (gM _ _ _ _ f) kr o o<|zE o ?_
 cases h
 exact ax o (.tmp o)
theorem iY(c r)(h:gz c=some r):bw PP 139 [.one Y52 c] (tb r):=by
 unfold gz at h
 refine enter Tryz.func139 o 55 o o λF=>?_
 refine zu<|bI o o λf=>zA o<|zs<|zU 1 o<|yl 0 f1 ty2 o o o tr o<|q 2 [(1,ptr f 0),(6,tb (decide (c.2.1<0)))] [] o ?_
 obtain⟨V,e,h⟩:=aj h;rw[e]
 refine aH 4 [(1,ptr f 0),(10,tb (V||(decide (c.2.1≥2048))))] [Res.var f 52 Y52 c] (?_) ?_
 ·clear h
  cases V
  ·refine zm 1 o<|al dl o ?_
   exact yl 0 f1 ty2 o o o tr o<|zA o<|ap () o o
  exact zA o<|ap () o o
 refine za<|rI h o (λhc h=>zU 1 o<|zf<|zT<|by cases h;exact ax o (.tmp o)) λhc h=>zk<|zt<|zs<|zU 1 o<|yl 0 f0 ty3 o o o tr o<|za<|zb<|zW o<|rI h o (λhc h=>?_) λhc h=>?_
 ·refine zU 1 o<|yl 0 f2 ty2 o o o tr o<|q 2 [(1,ptr f 0),(18,tb (decide (c.2.2.1≥1)))] [] o ?_
  obtain⟨u,e,h⟩:=aj h;rw[e]
  refine aH 4 [(1,ptr f 0),(22,tb (u&&(decide (c.2.2.1≤1152921504606846976))))] [Res.var f 52 Y52 c] (?_) ?_
  ·clear h
   cases u
   ·exact zA o<|ap () o o
   refine zm 1 o<|al dl o ?_
   exact yl 0 f2 ty2 o o o tr o<|zA o<|ap () o o
  refine q 1 [(1,ptr f 0),(23,tb (u&&(decide (c.2.2.1≤1152921504606846976))))] [] o ?_
  obtain⟨R,e,h⟩:=aj h;rw[e]
  refine aH 4 [(27,tb (R&&(c.2.2.2.2.1==[])))] [Res.var f 52 Y52 c] (?_) ?_
  ·clear h
   cases R
   ·exact zA o<|ap () o o
   refine zm 1 o<|al dl o ?_
   exact yl 0 f4 ty9 o o o tr o<|zA o<|ap () o o
  refine zE o<|zB<|zT ?_
  cases h
  exact ax o (.tmp o)
 refine zW o<|rI h o (λhc h=>?_) λhc h=>?_
 ·refine zU 1 o<|yl 0 f2 ty2 o o o tr o<|q 2 [(1,ptr f 0),(33,tb (c.2.2.1==0))] [] o ?_
  obtain⟨W,e,h⟩:=aj h;rw[e]
  refine aH 4 [(37,tb (W&&(c.2.2.2.2.1==[])))] [Res.var f 52 Y52 c] (?_) ?_
  ·clear h
   cases W
   ·exact zA o<|ap () o o
   refine zm 1 o<|al dl o ?_
   exact yl 0 f4 ty9 o o o tr o<|zA o<|ap () o o
  refine zE o<|zB<|zT ?_
  cases h
  exact ax o (.tmp o)
 refine zW o<|rI h o (λhc h=>?_) λhc h=>?_
 ·refine zU 1 o<|yl 0 f2 ty2 o o o tr o<|q 2 [(1,ptr f 0),(43,tb (c.2.2.1==0))] [] o ?_
  obtain⟨M,e,h⟩:=aj h;rw[e]
  refine aH 5 [(1,ptr f 0),(48,tb (M&&(eqD W73 c.2.2.2.1 z32)))] [Res.var f 52 Y52 c] (?_) ?_
  ·clear h
   cases M
   ·exact zA o<|ap () o o
   refine zm 1 o<|al dl o ?_
   refine yl 0 f3 bB o o o tr o<|al dl o ?_
   refine y (bc o lu o o .nil) o ?_
   refine al dl o ?_
   refine y (s6 20 o o o o bB o uW uX) o ?_
   exact zA o<|ap () o o
  refine q 1 [(1,ptr f 0),(49,tb (M&&(eqD W73 c.2.2.2.1 z32)))] [] o ?_
  obtain⟨C,e,h⟩:=aj h;rw[e]
  refine aH 5 [(54,tb (C&&(decide ((List.length c.2.2.2.2.1:Int)≤64))))] [Res.var f 52 Y52 c] (?_) ?_
  ·clear h
   cases C
   ·exact zA o<|ap () o o
   refine zm 1 o<|al dl o ?_
   exact yl 0 f4 ty9 o o o tr o<|zA o<|ap () o o
  refine zE o<|zB<|zT ?_
  cases h
  exact ax o (.tmp o)
 refine zk<|zi<|zt<|zU 1 o<|zf ?_
 cases h
 exact ax o (.tmp o)
theorem uZ(c r)(h:lU c=some r):bw PP 138 [.one Y52 c] (tb r):=by
 unfold lU at h
 refine enter Tryz.func138 o 6 o o λF=>?_
 refine zu<|bI o o λu=>zm 1 o<|zz<|yl 0 .here br o o o tr o<|cB h λM f h=>au (iY _ _ f) kr o o<|zE o ?_
 cases h
 exact ax o (.tmp o)
theorem jq(c r)(h:cM c=some r):bw PP 179 [.one W84 c,.one (.raw (fnv 138)) (fnv 138)] (ti r):=by
 unfold cM at h
 refine enter Tryz.func179 o 19 o o λF=>?_
 refine zu<|q 1 [(0,.one W84 c),(1,.one (.raw (fnv 138)) (fnv 138))] [] o<|za<|bD h (λu=>[]) (λu=>[]) (λV h=>?_) λu h=>?_
 ·refine zW o<|zb<|ai [0,1,7,8] o<|bl (γ:=Unit) (λ(f:Int) _=>[(0,.one W84 c),(1,.one (.raw (fnv 138)) (fnv 138)),(7,ti (List.length c:Int)),(8,ti f)]) (λ(f:Int) _=>[]) (bj c V) 0 () h o o ?_
  clear h
  intro M f gg h
  cases M with
  |zero=>cases h
  |succ M=>
  simp only[bj]at h
  refine zW o<|zs<|rI h o (λhc h=>?_) λhc h=>?_
  ·refine zk<|zt<|zs<|zb<|zU 2 o<|zZ 3 o<|iE h λhc h=>y (eo af o o hc.1 hc.2 o br) o ?_
   refine y (de o br) o ?_
   refine mS o ?_
   exact cB h λW R h=>au (uZ _ _ R) kr o o<|za<|rI h o (λhc h=>zU 2 o<|zf<|zB<|zT<|zT<|zB<|zT<|by cases h;exact ax o (.tmp o)) λhc h=>zk<|zi<|zt<|zr<|zA o<|aY (wrap .i64 (f+1)) () (Nat.lt_succ_self _) h o o
  exact zx<|ze<|ze<|zq<|zt<|ah () () h o o
 refine zU 1 o<|zf ?_
 cases h
 exact ax o (.tmp o)
theorem iU(c r)(h:cz c=some r):bw PP 137 [.one W84 c,.one (.raw (fnv 138)) (fnv 138)] (tb r):=by
 unfold cz at h
 refine enter Tryz.func137 o 9 o o λF=>?_
 refine zU 1 o<|zZ 2 o<|cB h λu f h=>au (jq _ _ f) kr o o<|zE o ?_
 cases h
 exact ax o (.tmp o)
theorem qG(c r)(h:j7 c=some r):bw PP 86 [.one W84 c] (tb r):=by
 unfold j7 at h
 refine enter Tryz.func86 o 11 o o λF=>?_
 refine zU 1 o<|zz<|q 4 [(0,.one W84 c),(6,tb (decide ((List.length c:Int)≤2048)))] [] o ?_
 obtain⟨u,e,h⟩:=aj h;rw[e]
 refine bL h 4 (λf=>[(10,tb f)]) (λ_=>[]) (λR h=>?_) λf h=>?_
 ·cases u
  ·replace h:=ifF h
   exact zN o<|zt<|ah false () h o o
  replace h:=ifT h
  refine zm 1 o<|al dl o ?_
  exact cB h λM V h=>au (iU _ _ V) kr o o<|zN o<|zt<|ah (!M) () h o o
 refine zE o ?_
 cases h
 exact ax o (.tmp o)
theorem j5(c r)(h:gH c=some r):bw PP 85 [ti c] (tb r):=by
 unfold gH at h
 refine enter Tryz.func85 o 5 o o λF=>?_
 refine zU 1 o<|zZ 1 o<|cB h λu f h=>au (gM _ _ _ _ f) kr o o<|zE o ?_
 cases h
 exact ax o (.tmp o)
theorem rd(c r)(h:kL c=some r):Fn PP 32 [.one Y30 c] [] (λv=> .one W69 v) (λv=>[Res.own v 3 (.int .i64) r]):=by
 unfold kL at h
 refine enter Tryz.func32 o 22 o o λF=>?_
 refine zu<|bI o o λf=>zm 1 o<|zZ 2 o<|yl 0 ((g9 (.fst f0))) ty3 o o o tr o<|zm 2 o<|yl 0 ((g9 (.fst f1))) ty3 o o o tr o<|zm 2 o<|yl 0 ((g10 (.fst f0))) ty3 o o o tr o<|zm 2 o<|yl 0 ((g10 (.fst f1))) ty3 o o o tr o<|zm 2 o<|yl 0 ((g11 (.fst f0))) ty3 o o o tr o<|zm 2 o ?_
 refine yl 0 ((g11 (.fst f1))) ty3 o o o tr o<|bC (B:=8) af o el3 o o o (.cons o (.cons o (.cons o (.cons o (.cons o (.cons o .nil)))))) o λu=>?_
 refine zE o ?_
 cases h
 exact aT o (.tmp o) (λ_ _ g=>holds_raw.2 ⟨rfl,by rw[(holds_raw.1 g).1];exact(holds_raw.1 g).2⟩) (λ_ _ g=>by obtain⟨rfl,_⟩:=holds_raw.1 g;exact(.cons_cons _ (.cons _ .slnil)))
theorem ui(c r)(h:kX c=some r):bw PP 88 [ti c] (tb r):=by
 unfold kX at h
 refine enter Tryz.func88 o 6 o o λF=>?_
 refine zU 1 o<|zZ 1 o<|cB h λu f h=>au (gM _ _ _ _ f) kr o o<|zE o ?_
 cases h
 exact ax o (.tmp o)
theorem lP(c r)(h:em c=some r):bw PP 140 [.one W77 c,.one (.raw (fnv 88)) (fnv 88)] (ti r):=by
 unfold em at h
 refine enter Tryz.func140 o 19 o o λF=>?_
 refine zu<|q 1 [(0,.one W77 c),(1,.one (.raw (fnv 88)) (fnv 88))] [] o<|za<|bD h (λu=>[]) (λu=>[]) (λV h=>?_) λu h=>?_
 ·refine zW o<|zb<|ai [0,1,7,8] o<|bl (γ:=Unit) (λ(f:Int) _=>[(0,.one W77 c),(1,.one (.raw (fnv 88)) (fnv 88)),(7,ti (List.length c:Int)),(8,ti f)]) (λ(f:Int) _=>[]) (bQ c V) 0 () h o o ?_
  clear h
  intro M f gg h
  cases M with
  |zero=>cases h
  |succ M=>
  simp only[bQ]at h
  refine zW o<|zs<|rI h o (λhc h=>?_) λhc h=>?_
  ·refine zk<|zt<|zs<|zb<|zU 2 o<|zZ 3 o<|iE h λhc h=>y (eo af o o hc.1 hc.2 o ty3) o ?_
   refine y (de o ty3) o ?_
   refine mS o ?_
   exact cB h λW R h=>au (ui _ _ R) kr o o<|za<|rI h o (λhc h=>zU 2 o<|zf<|zB<|zT<|zT<|zB<|zT<|by cases h;exact ax o (.tmp o)) λhc h=>zk<|zi<|zt<|zr<|zA o<|aY (wrap .i64 (f+1)) () (Nat.lt_succ_self _) h o o
  exact zx<|ze<|ze<|zq<|zt<|ah () () h o o
 refine zU 1 o<|zf ?_
 cases h
 exact ax o (.tmp o)
theorem kS(c r)(h:cU c=some r):bw PP 87 [.one W77 c,.one (.raw (fnv 88)) (fnv 88)] (tb r):=by
 unfold cU at h
 refine enter Tryz.func87 o 9 o o λF=>?_
 refine zU 1 o<|zZ 2 o<|cB h λu f h=>au (lP _ _ f) kr o o<|zE o ?_
 cases h
 exact ax o (.tmp o)
theorem qH(c:Nat)(f r)(h:iW f=some r):Fn PP 90 [.one Y56 f,ptr c 0] [Res.var c 68 (.raw (fnv 85)) (fnv 85)] (λ_=>tb r) (λ_=>[Res.var c 68 (.raw (fnv 85)) (fnv 85)]):=by
 unfold iW at h
 refine enter Tryz.func90 o 9 o o λF=>?_
 refine zu<|bI o o λM=>zm 1 o<|zz<|yl 1 .here tx2 o o o tr o<|zm 1 o<|yl 0 f0 ty2 o o o tr o<|mS o ?_
 refine cB h λV u h=>au (j5 _ _ u) kr o o<|zE o ?_
 cases h
 exact bm o (.tmp o) (.cons _ (.cons_cons _ .slnil))
theorem jX(c:Nat)(f r)(h:cW f=some r):Fn PP 141 [.one W85 f,.one W82 (.func (.func 90) #[] #[adr c])] [Res.var c 68 (.raw (fnv 85)) (fnv 85)] (λ_=>ti r) (λ_=>[Res.var c 68 (.raw (fnv 85)) (fnv 85)]):=by
 unfold cW at h
 refine enter Tryz.func141 o 19 o o λF=>?_
 refine zu<|q 1 [(0,.one W85 f),(1,.one W82 (.func (.func 90) #[] #[adr c]))] [] o<|za<|bD h (λM=>[]) (λM=>[Res.var c 68 (.raw (fnv 85)) (fnv 85)]) (λR h=>?_) λM h=>?_
 ·refine zW o<|zb<|ai [0,1,7,8] o<|bl (γ:=Unit) (λ(u:Int) _=>[(0,.one W85 f),(1,.one W82 (.func (.func 90) #[] #[adr c])),(7,ti (List.length f:Int)),(8,ti u)]) (λ(u:Int) _=>[Res.var c 68 (.raw (fnv 85)) (fnv 85)]) (bu f R) 0 () h o o ?_
  clear h
  intro V u gg h
  cases V with
  |zero=>cases h
  |succ V=>
  simp only[bu]at h
  refine zW o<|zs<|rI h o (λhc h=>?_) λhc h=>?_
  ·refine zk<|zt<|zs<|zb<|zU 2 o<|zZ 3 o<|iE h λhc h=>y (eo af o o hc.1 hc.2 o jg) o ?_
   refine y (de o jg) o ?_
   refine Gh o ?_
   exact cB h λC W h=>rc [0] (qH _ _ _ W) kr o o o λ_=>za<|rI h o (λhc h=>zU 2 o<|zf<|zB<|zT<|zT<|zB<|zT<|by cases h;exact aT o (.tmp o) (λ_ _ g=>g) (λ_ _ _=>(.cons_cons _ .slnil))) λhc h=>zk<|zi<|zt<|zr<|zA o<|aY (wrap .i64 (u+1)) () (Nat.lt_succ_self _) h o o
  exact zx<|ze<|ze<|zq<|zt<|ah () () h o o
 refine zU 1 o<|zf ?_
 cases h
 exact bm o (.tmp o) (.cons_cons _ .slnil)
theorem js(c:Nat)(f r)(h:cj f=some r):Fn PP 89 [.one W85 f,.one W82 (.func (.func 90) #[] #[adr c])] [Res.var c 68 (.raw (fnv 85)) (fnv 85)] (λ_=>tb r) (λ_=>[Res.var c 68 (.raw (fnv 85)) (fnv 85)]):=by
 unfold cj at h
 refine enter Tryz.func89 o 9 o o λF=>?_
 refine zU 1 o<|zZ 2 o<|cB h λM u h=>rc [0] (jX _ _ _ u) kr o o o λ_=>zE o ?_
 cases h
 exact bm o (.tmp o) (.cons_cons _ .slnil)
theorem vA(R u r)(h:kM R u=some r):bw PP 27 [ti R,.one Y30 u] (tb r):=by
 unfold kM at h
 refine enter Tryz.func27 o 91 o o λF=>?_
 refine zu<|bI o o λc=>zm 1 o<|zZ 1 o<|zz<|aB (t:=W82) o H1 o λf=>gE (v:=(.raw (fnv 85))) 0 .here o o o o o o tx2 ?_
 refine za<|zs<|zb<|zU 1 o<|cB h λm O h=>au (gM _ _ _ _ O) kr o o<|q 2 [(3,ptr c 0),(5,.one (.raw (fnv 83)) (fnv 83)),(6,ptr f 0),(11,tb (!m))] [] o ?_
 obtain⟨w,e,h⟩:=aj h;rw[e]
 refine bL h 5 (λW=>[(3,ptr c 0),(5,.one (.raw (fnv 83)) (fnv 83)),(6,ptr f 0),(16,tb W)]) (λ_=>[Res.var f 68 (.raw (fnv 85)) (fnv 85),Res.var c 30 Y30 u]) (λk7 h=>?_) λW h=>?_
 ·cases w
  ·replace h:=ifF h
   refine zm 1 o<|al dl o ?_
   refine yl 1 f0 ty3 o o o tr o<|al dl o ?_
   exact cB h λZ a2 h=>au (gM _ _ _ _ a2) kr o o<|zN o<|zt<|ah (!Z) () h o o
  replace h:=ifT h
  exact zN o<|zt<|ah true () h o o
 refine zA o<|rI h o (λhc h=>zU 1 o<|zf<|zB<|zT<|by cases h;exact ax o (.tmp o)) λhc h=>zU 2 o<|yl 1 f1 ty2 o o o tr o<|mS o ?_
 refine cB h λa3 a4 h=>au (lO _ _ a4) kr o o<|q 2 [(3,ptr c 0),(5,.one (.raw (fnv 83)) (fnv 83)),(6,ptr f 0),(23,tb (!a3))] [] o ?_
 obtain⟨a5,e,h⟩:=aj h;rw[e]
 refine bL h 6 (λM=>[(3,ptr c 0),(5,.one (.raw (fnv 83)) (fnv 83)),(6,ptr f 0),(29,tb M)]) (λ_=>[Res.var f 68 (.raw (fnv 85)) (fnv 85),Res.var c 30 Y30 u]) (λd3 h=>?_) λM h=>?_
 ·cases a5
  ·replace h:=ifF h
   refine zm 2 o<|al dl o ?_
   refine yl 1 f2 ty2 o o o tr o<|al dl o ?_
   refine mS o ?_
   exact cB h λa6 a7 h=>au (lO _ _ a7) kr o o<|zN o<|zt<|ah (!a6) () h o o
  replace h:=ifT h
  exact zN o<|zt<|ah true () h o o
 refine q 1 [(3,ptr c 0),(5,.one (.raw (fnv 83)) (fnv 83)),(6,ptr f 0),(30,tb M)] [] o<|bL h 6 (λC=>[(3,ptr c 0),(6,ptr f 0),(36,tb C)]) (λ_=>[Res.var f 68 (.raw (fnv 85)) (fnv 85),Res.var c 30 Y30 u]) (λd4 h=>?_) λC h=>?_
 ·cases M
  ·replace h:=ifF h
   refine zm 2 o<|al dl o ?_
   refine yl 1 f3 ty2 o o o tr o<|al dl o ?_
   refine mS o ?_
   exact cB h λa8 a9 h=>au (lO _ _ a9) kr o o<|zN o<|zt<|ah (!a8) () h o o
  replace h:=ifT h
  exact zN o<|zt<|ah true () h o o
 refine zA o<|rI h o (λhc h=>zU 1 o<|zf<|zB<|zT<|by cases h;exact ax o (.tmp o)) λhc h=>zU 1 o<|yl 1 f4 jA o o o tr o<|cB h λb0 b1 h=>au (qG _ _ b1) kr o o<|q 2 [(3,ptr c 0),(6,ptr f 0),(42,tb (!b0))] [] o ?_
 obtain⟨b2,e,h⟩:=aj h;rw[e]
 refine bL h 5 (λH=>[(3,ptr c 0),(6,ptr f 0),(47,tb H)]) (λ_=>[Res.var f 68 (.raw (fnv 85)) (fnv 85),Res.var c 30 Y30 u]) (λd5 h=>?_) λH h=>?_
 ·cases b2
  ·replace h:=ifF h
   refine zm 1 o<|al dl o ?_
   refine yl 1 f5 jA o o o tr o<|al dl o ?_
   exact cB h λb5 b7 h=>au (qG _ _ b7) kr o o<|zN o<|zt<|ah (!b5) () h o o
  replace h:=ifT h
  exact zN o<|zt<|ah true () h o o
 refine zA o<|rI h o (λhc h=>zU 1 o<|zf<|zB<|zT<|by cases h;exact ax o (.tmp o)) λhc h=>zu<|yl 0 .here tx2 o o o tr o<|zm 1 o<|yl 1 f6 ty2 o o o tr o<|mS o ?_
 refine cB h λb8 b9 h=>au (j5 _ _ b9) kr o o<|q 2 [(3,ptr c 0),(6,ptr f 0),(54,tb (!b8))] [] o ?_
 obtain⟨c0,e,h⟩:=aj h;rw[e]
 refine bL h 6 (λV=>[(3,ptr c 0),(6,ptr f 0),(60,tb V)]) (λ_=>[Res.var f 68 (.raw (fnv 85)) (fnv 85),Res.var c 30 Y30 u]) (λd6 h=>?_) λV h=>?_
 ·cases c0
  ·replace h:=ifF h
   refine al dl o ?_
   refine yl 0 .here tx2 o o o tr o<|zm 1 o<|al dl o ?_
   refine yl 1 f7 ty2 o o o tr o<|al dl o ?_
   refine mS o ?_
   exact cB h λc1 c2 h=>au (j5 _ _ c2) kr o o<|zN o<|zt<|ah (!c1) () h o o
  replace h:=ifT h
  exact zN o<|zt<|ah true () h o o
 refine q 1 [(3,ptr c 0),(6,ptr f 0),(61,tb V)] [] o<|bL h 6 (λG=>[(3,ptr c 0),(6,ptr f 0),(67,tb G)]) (λ_=>[Res.var f 68 (.raw (fnv 85)) (fnv 85),Res.var c 30 Y30 u]) (λd7 h=>?_) λG h=>?_
 ·cases V
  ·replace h:=ifF h
   refine al dl o ?_
   refine yl 0 .here tx2 o o o tr o<|zm 1 o<|al dl o ?_
   refine yl 1 f8 ty2 o o o tr o<|al dl o ?_
   refine mS o ?_
   exact cB h λc3 c4 h=>au (j5 _ _ c4) kr o o<|zN o<|zt<|ah (!c3) () h o o
  replace h:=ifT h
  exact zN o<|zt<|ah true () h o o
 refine zA o<|rI h o (λhc h=>zU 1 o<|zf<|zB<|zT<|by cases h;exact ax o (.tmp o)) λhc h=>zu<|yl 1 .here bR o o o tr o<|cB h λd8 c5 h=>rc [] (rd _ _ c5) kr o o o λd9=>l5 (i:=0) (k:=70) o o ?_
 refine cB h λe0 c6 h=>au (kS _ _ c6) kr o o<|zA o<|rI h o (λhc h=>zU 1 o<|zf<|zB<|zT<|by cases h;exact ax o (.tmp o)) λhc h=>zU 1 o<|yl 1 f15 qF o o o tr o<|q 3 [(3,ptr c 0),(6,ptr f 0),(77,tb (decide ((List.length u.2.2.2.2.2.2.2.2.2.2.2.2.2.2.2.1:Int)>49)))] [] o ?_
 obtain⟨c7,e,h⟩:=aj h;rw[e]
 refine bL h 5 (λN=>[(3,ptr c 0),(82,tb N)]) (λ_=>[Res.var f 68 (.raw (fnv 85)) (fnv 85),Res.var c 30 Y30 u]) (λe1 h=>?_) λN h=>?_
 ·cases c7
  ·replace h:=ifF h
   refine zm 1 o<|al dl o ?_
   refine yl 1 f15 qF o o o tr o<|al dl o ?_
   refine y (Be o) o ?_
   refine al dl o ?_
   exact cB h λc8 c9 h=>rc [0] (js _ _ _ c9) kr o o o λ_=>zN o<|zt<|ah c8 () h o o
  replace h:=ifT h
  exact zN o<|zt<|ah true () h o o
 refine zA o<|rI h o (λhc h=>zU 1 o<|zf<|zB<|zT<|by cases h;exact ax o (.tmp o)) λhc h=>zk<|zi<|zt<|zU 1 o<|yl 1 f16 ty3 o o o tr o<|cB h λJ d0 h=>au (gM _ _ _ _ d0) kr o o<|q 1 [(3,ptr c 0),(86,tb J)] [] o<|bL h 4 (λd=>[(90,tb d)]) (λ_=>[Res.var f 68 (.raw (fnv 85)) (fnv 85),Res.var c 30 Y30 u]) (λe2 h=>?_) λd h=>?_
 ·cases J
  ·replace h:=ifF h
   exact zN o<|zt<|ah false () h o o
  replace h:=ifT h
  refine zm 1 o<|al dl o ?_
  refine yl 1 f17 ty2 o o o tr o<|al dl o ?_
  exact cB h λd1 d2 h=>au (gM _ _ _ _ d2) kr o o<|zN o<|zt<|ah d1 () h o o
 refine zE o ?_
 cases h
 exact ax o (.tmp o)
theorem nc(r)(h:ka=some r):Fn PP 28 [] [] (λv=>tp v) (λv=>[Res.cls bd v r]):=by
 unfold ka at h
 refine enter Tryz.func28 o 3 o o λF=>?_
 refine zU 1 o<|zz<|y (bc o Hl o o .nil) o ?_
 refine bI o o λc=>bH (.slice none 0 0) o 5 (.int .u8) ?_
 refine zE o<|pk [1,0] o<|bS (x:=([],0,())) ?_
 cases h
 exact aT o (.tmp o) (λ_ _ g=>holds_raw.2 ⟨rfl,by rw[(holds_raw.1 g).1];exact(holds_raw.1 g).2⟩) (λ_ _ g=>by obtain⟨rfl,_⟩:=holds_raw.1 g;exact(.cons_cons _ .slnil))
theorem tK(C:Value)(f u H r)(h:jk f u H=some r):Fn PP 91 [tp C,.one (.int .u64) u,ti H] [Res.cls bd C f] (λ_=> .tup []) (λ_=>[Res.cls bd C r]):=by
 unfold jk at h
 refine enter Tryz.func91 o 32 o o λF=>?_
 refine cK λR w hp=>?_
 subst hp
 refine bS (x:=f) ?_
 refine zs<|zs<|jV λd=>?_
 refine zr<|zm 3 o<|yl 0 f1 fW o o o tr o<|zA o<|rI h o (λhc h=>?_) λhc h=>?_
 ·refine zR<|zT<|bS (x:=f) ?_
  cases h
  exact sk o (λ_=>aG [] .nil) ((.cons_cons _ .slnil))
 refine zy<|q 3 [(0,ptr R 0),(1,.one (.int .u64) u),(6,ti (wrap .i64 (H - 1)))] [] o ?_
 obtain⟨m,e,h⟩:=aj h;rw[e]
 refine za<|bX h λG O h=>?_
 refine sn (γ:=Value) (λ(W:List (Int)) g7=>[]) (λ(W:List (Int)) g7=>[Res.var R 161 W56 (g7,f.2.1,f.2.2),Res.own g7 5 (.int .u8) W]) G r ?_ ?_
 ·refine zb<|ai [0,1,6] o<|bl (γ:=Value) (λ(c:Int×List (Int)) g12=>[(0,ptr R 0),(1,.one (.int .u64) u),(6,ti c.1)]) (λ(c:Int×List (Int)) g12=>[Res.var R 161 W56 (g12,f.2.1,f.2.2),Res.own g12 5 (.int .u8) c.2]) (eV u G) (m,f.1) d h o o ?_
  clear h
  intro N c g12 h
  cases N with
  |zero=>cases h
  |succ N=>
  simp only[eV]at h
  refine zs<|zW o<|rI h o (λhc h=>?_) λhc h=>?_
  ·refine zk<|zt<|zs<|zb<|dA kr<|zF 5 [0,1,5,6,7] kr o o<|iE h λhc h=>ej 8 (.one (.int .u64) (ca .u64 u (wrap .i64 (8*c.1)))) o kr (nO o o hc)<|zF 1 [9] kr o o ?_
   refine bv (i:=2) (j:=10) kr o o ?_ ?_
   ·refine zA o<|ai [0,1,6,18,20,27] o<|zF 1 [3] kr o o ?_
    refine bv (i:=4) (j:=10) kr o o ?_ ?_
    ·refine yl 0 f0 tx3 o o o tr o<|zL [0,1,6,18,22,27] o<|ae 10 kr o<|bC (B:=1) af o el5 o o o (.cons o .nil) o λJ=>?_
     refine zL [0,1,6,18,22,28] o<|ae 11 kr o<|iE h λhc h=>aW (B:=1) af 2 o o (bM 0 o o) o el5 o o hc o λM=>?_
     refine pk [1,1] o<|zL [0,1,6,18,29] o<|ae 12 kr o<|zA o<|ai [0,1,6,29,30] o<|zF 1 [13] kr o o<|ae 14 kr o<|st 0 f0 tx3 o o o o tr<|nL o<|zL [0,1,6] o<|aJ kr<|zi<|zt<|zr ?_
     refine q 3 [(6,ti (wrap .i64 (c.1 - 1)))] [0,1] o ?_
     obtain⟨V,e,h⟩:=aj h;rw[e]
     exact za<|aY (V,(c.2++[(wrap .u8 (ca .u64 u (wrap .i64 (8*c.1))))])) M (Nat.lt_succ_self _) h o o
    refine bC (B:=1) af o el5 o o o (.cons o .nil) o λJ=>?_
    refine zL [0,1,6,18,21,28] o<|ae 4 kr o<|yl 1 f0 tx3 o o o tr o<|zL [0,1,6,18,22,28] o<|ae 11 kr o<|iE h λhc h=>aW (B:=1) af 2 o o (bM 0 o o) o el5 o o hc o λM=>?_
    refine pk [1,1] o<|zL [0,1,6,18,29] o<|ae 12 kr o<|zA o<|ai [0,1,6,29,30] o<|zF 1 [13] kr o o<|ae 14 kr o<|st 0 f0 tx3 o o o o tr<|nL o<|zL [0,1,6] o<|aJ kr<|zi<|zt<|zr ?_
    refine q 3 [(6,ti (wrap .i64 (c.1 - 1)))] [0,1] o ?_
    obtain⟨V,e,h⟩:=aj h;rw[e]
    exact za<|aY (V,(c.2++[(wrap .u8 (ca .u64 u (wrap .i64 (8*c.1))))])) M (Nat.lt_succ_self _) h o o
   refine bC (B:=1) af o el5 o o o (.cons o .nil) o λJ=>?_
   refine zL [0,1,6,18,19,28] o<|ae 2 kr o<|zA o<|ai [0,1,6,18,20,28] o<|zF 1 [3] kr o o<|ae 4 kr o<|yl 1 f0 tx3 o o o tr o<|zL [0,1,6,18,22,28] o<|ae 11 kr o<|iE h λhc h=>aW (B:=1) af 2 o o (bM 0 o o) o el5 o o hc o λM=>?_
   refine pk [1,1] o<|zL [0,1,6,18,29] o<|ae 12 kr o<|zA o<|ai [0,1,6,29,30] o<|zF 1 [13] kr o o<|ae 14 kr o<|st 0 f0 tx3 o o o o tr<|nL o<|zL [0,1,6] o<|aJ kr<|zi<|zt<|zr ?_
   refine q 3 [(6,ti (wrap .i64 (c.1 - 1)))] [0,1] o ?_
   obtain⟨V,e,h⟩:=aj h;rw[e]
   exact za<|aY (V,(c.2++[(wrap .u8 (ca .u64 u (wrap .i64 (8*c.1))))])) M (Nat.lt_succ_self _) h o o
  exact zx<|ze<|ze<|zq<|zt<|ah c.2 g12 h o o
 intro W g7 h
 rw[←O]at h
 try dsimp only at h
 refine bS (x:=(W,f.2.1,f.2.2)) ?_
 cases h
 exact eN o (λ_=>aG [] .nil) ((.cons_cons _ .slnil))
theorem cN(c:Value)(f u r)(h:bU f u=some r):Fn PP 29 [tp c,ti u] [Res.cls bd c f] (λ_=> .tup []) (λ_=>[Res.cls bd c r]):=by
 unfold bU at h
 refine enter Tryz.func29 o 8 o o λF=>?_
 refine cK λV R hp=>?_
 subst hp
 refine bS (x:=f) ?_
 refine zr<|zm 3 o<|cB h λW M h=>rc [0] (tK _ _ _ _ _ M) kr o o o λ_=>zn ?_
 cases h
 exact eN o (λ_=>aG [] .nil) ((.cons_cons _ .slnil))
theorem uj(C:Value)(f u H r)(h:jT f u H=some r):Fn PP 92 [tp C,.one (.int .u8) u,ti H] [Res.cls bd C f] (λ_=> .tup []) (λ_=>[Res.cls bd C r]):=by
 unfold jT at h
 refine enter Tryz.func92 o 33 o o λF=>?_
 refine cK λR w hp=>?_
 subst hp
 refine bS (x:=f) ?_
 refine zs<|zs<|jV λd=>?_
 refine zr<|zm 3 o<|yl 0 f1 fW o o o tr o<|zA o<|rI h o (λhc h=>?_) λhc h=>?_
 ·refine zR<|zT<|bS (x:=f) ?_
  cases h
  exact sk o (λ_=>aG [] .nil) ((.cons_cons _ .slnil))
 refine zy<|q 3 [(0,ptr R 0),(1,.one (.int .u8) u),(6,ti (wrap .i64 (H - 1)))] [] o ?_
 obtain⟨m,e,h⟩:=aj h;rw[e]
 refine za<|bX h λG O h=>?_
 refine sn (γ:=Value) (λ(W:List (Int)) g7=>[]) (λ(W:List (Int)) g7=>[Res.var R 161 W56 (g7,f.2.1,f.2.2),Res.own g7 5 (.int .u8) W]) G r ?_ ?_
 ·refine zb<|ai [0,1,6] o<|bl (γ:=Value) (λ(c:Int×List (Int)) g12=>[(0,ptr R 0),(1,.one (.int .u8) u),(6,ti c.1)]) (λ(c:Int×List (Int)) g12=>[Res.var R 161 W56 (g12,f.2.1,f.2.2),Res.own g12 5 (.int .u8) c.2]) (fI u G) (m,f.1) d h o o ?_
  clear h
  intro N c g12 h
  cases N with
  |zero=>cases h
  |succ N=>
  simp only[fI]at h
  refine zs<|zW o<|rI h o (λhc h=>?_) λhc h=>?_
  ·refine zk<|zt<|zs<|zb<|dA kr<|zF 6 [0,1,5,6,7,8] kr o o<|iE h λhc h=>ej 9 (.one (.int .u64) (ca .u64 (wrap .u64 u) (wrap .i64 (8*c.1)))) o kr (nO o o hc)<|zF 1 [10] kr o o ?_
   refine bv (i:=2) (j:=11) kr o o ?_ ?_
   ·refine zA o<|ai [0,1,6,18,20,28] o<|zF 1 [3] kr o o ?_
    refine bv (i:=4) (j:=11) kr o o ?_ ?_
    ·refine yl 0 f0 tx3 o o o tr o<|zL [0,1,6,18,22,28] o<|ae 11 kr o<|bC (B:=1) af o el5 o o o (.cons o .nil) o λJ=>?_
     refine zL [0,1,6,18,22,29] o<|ae 12 kr o<|iE h λhc h=>aW (B:=1) af 2 o o (bM 0 o o) o el5 o o hc o λM=>?_
     refine pk [1,1] o<|zL [0,1,6,18,30] o<|ae 13 kr o<|zA o<|ai [0,1,6,30,31] o<|zF 1 [14] kr o o<|ae 15 kr o<|st 0 f0 tx3 o o o o tr<|nL o<|zL [0,1,6] o<|aJ kr<|zi<|zt<|zr ?_
     refine q 3 [(6,ti (wrap .i64 (c.1 - 1)))] [0,1] o ?_
     obtain⟨V,e,h⟩:=aj h;rw[e]
     exact za<|aY (V,(c.2++[(wrap .u8 (ca .u64 (wrap .u64 u) (wrap .i64 (8*c.1))))])) M (Nat.lt_succ_self _) h o o
    refine bC (B:=1) af o el5 o o o (.cons o .nil) o λJ=>?_
    refine zL [0,1,6,18,21,29] o<|ae 4 kr o<|yl 1 f0 tx3 o o o tr o<|zL [0,1,6,18,22,29] o<|ae 12 kr o<|iE h λhc h=>aW (B:=1) af 2 o o (bM 0 o o) o el5 o o hc o λM=>?_
    refine pk [1,1] o<|zL [0,1,6,18,30] o<|ae 13 kr o<|zA o<|ai [0,1,6,30,31] o<|zF 1 [14] kr o o<|ae 15 kr o<|st 0 f0 tx3 o o o o tr<|nL o<|zL [0,1,6] o<|aJ kr<|zi<|zt<|zr ?_
    refine q 3 [(6,ti (wrap .i64 (c.1 - 1)))] [0,1] o ?_
    obtain⟨V,e,h⟩:=aj h;rw[e]
    exact za<|aY (V,(c.2++[(wrap .u8 (ca .u64 (wrap .u64 u) (wrap .i64 (8*c.1))))])) M (Nat.lt_succ_self _) h o o
   refine bC (B:=1) af o el5 o o o (.cons o .nil) o λJ=>?_
   refine zL [0,1,6,18,19,29] o<|ae 2 kr o<|zA o<|ai [0,1,6,18,20,29] o<|zF 1 [3] kr o o<|ae 4 kr o<|yl 1 f0 tx3 o o o tr o<|zL [0,1,6,18,22,29] o<|ae 12 kr o<|iE h λhc h=>aW (B:=1) af 2 o o (bM 0 o o) o el5 o o hc o λM=>?_
   refine pk [1,1] o<|zL [0,1,6,18,30] o<|ae 13 kr o<|zA o<|ai [0,1,6,30,31] o<|zF 1 [14] kr o o<|ae 15 kr o<|st 0 f0 tx3 o o o o tr<|nL o<|zL [0,1,6] o<|aJ kr<|zi<|zt<|zr ?_
   refine q 3 [(6,ti (wrap .i64 (c.1 - 1)))] [0,1] o ?_
   obtain⟨V,e,h⟩:=aj h;rw[e]
   exact za<|aY (V,(c.2++[(wrap .u8 (ca .u64 (wrap .u64 u) (wrap .i64 (8*c.1))))])) M (Nat.lt_succ_self _) h o o
  exact zx<|ze<|ze<|zq<|zt<|ah c.2 g12 h o o
 intro W g7 h
 rw[←O]at h
 try dsimp only at h
 refine bS (x:=(W,f.2.1,f.2.2)) ?_
 cases h
 exact eN o (λ_=>aG [] .nil) ((.cons_cons _ .slnil))
theorem gx(c:Value)(f u r)(h:dh f u=some r):Fn PP 30 [tp c,.one (.int .u8) u] [Res.cls bd c f] (λ_=> .tup []) (λ_=>[Res.cls bd c r]):=by
 unfold dh at h
 refine enter Tryz.func30 o 7 o o λF=>?_
 refine cK λV R hp=>?_
 subst hp
 refine bS (x:=f) ?_
 refine zr<|zm 2 o<|cB h λW M h=>rc [0] (uj _ _ _ _ _ M) kr o o o λ_=>zn ?_
 cases h
 exact eN o (λ_=>aG [] .nil) ((.cons_cons _ .slnil))
theorem oh(C:Value)(f u H r)(h:ib f u H=some r):Fn PP 95 [tp C,.one (.int .u16) u,ti H] [Res.cls bd C f] (λ_=> .tup []) (λ_=>[Res.cls bd C r]):=by
 unfold ib at h
 refine enter Tryz.func95 o 33 o o λF=>?_
 refine cK λR w hp=>?_
 subst hp
 refine bS (x:=f) ?_
 refine zs<|zs<|jV λd=>?_
 refine zr<|zm 3 o<|yl 0 f1 fW o o o tr o<|zA o<|rI h o (λhc h=>?_) λhc h=>?_
 ·refine zR<|zT<|bS (x:=f) ?_
  cases h
  exact sk o (λ_=>aG [] .nil) ((.cons_cons _ .slnil))
 refine zy<|q 3 [(0,ptr R 0),(1,.one (.int .u16) u),(6,ti (wrap .i64 (H - 1)))] [] o ?_
 obtain⟨m,e,h⟩:=aj h;rw[e]
 refine za<|bX h λG O h=>?_
 refine sn (γ:=Value) (λ(W:List (Int)) g7=>[]) (λ(W:List (Int)) g7=>[Res.var R 161 W56 (g7,f.2.1,f.2.2),Res.own g7 5 (.int .u8) W]) G r ?_ ?_
 ·refine zb<|ai [0,1,6] o<|bl (γ:=Value) (λ(c:Int×List (Int)) g12=>[(0,ptr R 0),(1,.one (.int .u16) u),(6,ti c.1)]) (λ(c:Int×List (Int)) g12=>[Res.var R 161 W56 (g12,f.2.1,f.2.2),Res.own g12 5 (.int .u8) c.2]) (eW u G) (m,f.1) d h o o ?_
  clear h
  intro N c g12 h
  cases N with
  |zero=>cases h
  |succ N=>
  simp only[eW]at h
  refine zs<|zW o<|rI h o (λhc h=>?_) λhc h=>?_
  ·refine zk<|zt<|zs<|zb<|dA kr<|zF 6 [0,1,5,6,7,8] kr o o<|iE h λhc h=>ej 9 (.one (.int .u64) (ca .u64 (wrap .u64 u) (wrap .i64 (8*c.1)))) o kr (nO o o hc)<|zF 1 [10] kr o o ?_
   refine bv (i:=2) (j:=11) kr o o ?_ ?_
   ·refine zA o<|ai [0,1,6,18,20,28] o<|zF 1 [3] kr o o ?_
    refine bv (i:=4) (j:=11) kr o o ?_ ?_
    ·refine yl 0 f0 tx3 o o o tr o<|zL [0,1,6,18,22,28] o<|ae 11 kr o<|bC (B:=1) af o el5 o o o (.cons o .nil) o λJ=>?_
     refine zL [0,1,6,18,22,29] o<|ae 12 kr o<|iE h λhc h=>aW (B:=1) af 2 o o (bM 0 o o) o el5 o o hc o λM=>?_
     refine pk [1,1] o<|zL [0,1,6,18,30] o<|ae 13 kr o<|zA o<|ai [0,1,6,30,31] o<|zF 1 [14] kr o o<|ae 15 kr o<|st 0 f0 tx3 o o o o tr<|nL o<|zL [0,1,6] o<|aJ kr<|zi<|zt<|zr ?_
     refine q 3 [(6,ti (wrap .i64 (c.1 - 1)))] [0,1] o ?_
     obtain⟨V,e,h⟩:=aj h;rw[e]
     exact za<|aY (V,(c.2++[(wrap .u8 (ca .u64 (wrap .u64 u) (wrap .i64 (8*c.1))))])) M (Nat.lt_succ_self _) h o o
    refine bC (B:=1) af o el5 o o o (.cons o .nil) o λJ=>?_
    refine zL [0,1,6,18,21,29] o<|ae 4 kr o<|yl 1 f0 tx3 o o o tr o<|zL [0,1,6,18,22,29] o<|ae 12 kr o<|iE h λhc h=>aW (B:=1) af 2 o o (bM 0 o o) o el5 o o hc o λM=>?_
    refine pk [1,1] o<|zL [0,1,6,18,30] o<|ae 13 kr o<|zA o<|ai [0,1,6,30,31] o<|zF 1 [14] kr o o<|ae 15 kr o<|st 0 f0 tx3 o o o o tr<|nL o<|zL [0,1,6] o<|aJ kr<|zi<|zt<|zr ?_
    refine q 3 [(6,ti (wrap .i64 (c.1 - 1)))] [0,1] o ?_
    obtain⟨V,e,h⟩:=aj h;rw[e]
    exact za<|aY (V,(c.2++[(wrap .u8 (ca .u64 (wrap .u64 u) (wrap .i64 (8*c.1))))])) M (Nat.lt_succ_self _) h o o
   refine bC (B:=1) af o el5 o o o (.cons o .nil) o λJ=>?_
   refine zL [0,1,6,18,19,29] o<|ae 2 kr o<|zA o<|ai [0,1,6,18,20,29] o<|zF 1 [3] kr o o<|ae 4 kr o<|yl 1 f0 tx3 o o o tr o<|zL [0,1,6,18,22,29] o<|ae 12 kr o<|iE h λhc h=>aW (B:=1) af 2 o o (bM 0 o o) o el5 o o hc o λM=>?_
   refine pk [1,1] o<|zL [0,1,6,18,30] o<|ae 13 kr o<|zA o<|ai [0,1,6,30,31] o<|zF 1 [14] kr o o<|ae 15 kr o<|st 0 f0 tx3 o o o o tr<|nL o<|zL [0,1,6] o<|aJ kr<|zi<|zt<|zr ?_
   refine q 3 [(6,ti (wrap .i64 (c.1 - 1)))] [0,1] o ?_
   obtain⟨V,e,h⟩:=aj h;rw[e]
   exact za<|aY (V,(c.2++[(wrap .u8 (ca .u64 (wrap .u64 u) (wrap .i64 (8*c.1))))])) M (Nat.lt_succ_self _) h o o
  exact zx<|ze<|ze<|zq<|zt<|ah c.2 g12 h o o
 intro W g7 h
 rw[←O]at h
 try dsimp only at h
 refine bS (x:=(W,f.2.1,f.2.2)) ?_
 cases h
 exact eN o (λ_=>aG [] .nil) ((.cons_cons _ .slnil))
theorem fc(c:Value)(f u r)(h:dp f u=some r):Fn PP 33 [tp c,.one (.int .u16) u] [Res.cls bd c f] (λ_=> .tup []) (λ_=>[Res.cls bd c r]):=by
 unfold dp at h
 refine enter Tryz.func33 o 7 o o λF=>?_
 refine cK λV R hp=>?_
 subst hp
 refine bS (x:=f) ?_
 refine zr<|zm 2 o<|cB h λW M h=>rc [0] (oh _ _ _ _ _ M) kr o o o λ_=>zn ?_
 cases h
 exact eN o (λ_=>aG [] .nil) ((.cons_cons _ .slnil))
theorem jC(f:Value)(c u r)(h:fy c u=some r):Fn PP 94 [tp f,ts u] [Res.cls bd f c] (λ_=> .tup []) (λ_=>[Res.cls bd f r]):=by
 unfold fy at h
 refine enter Tryz.func94 o 18 o o λF=>?_
 refine cK λM V hp=>?_
 subst hp
 refine bS (x:=c) ?_
 refine zs<|jV λR=>?_
 refine zr<|zm 3 o<|yl 0 f1 fW o o o tr o<|zA o<|rI h o (λhc h=>?_) λhc h=>?_
 ·refine zr<|zm 4 o<|yl 0 f0 tx3 o o o tr o<|zm 1 o<|iE h λhc h=>aW (B:=1) af 1 o o (wZ o) o el5 o o hc o λW=>?_
  refine zm 2 o<|st 0 f0 tx3 o o o o tr<|nL o<|zn<|bS (x:=((c.1++u),c.2.1,c.2.2)) ?_
  cases h
  exact eN o (λ_=>aG [] .nil) ((.cons_cons _ .slnil))
 refine zk<|bS (x:=c) ?_
 cases h
 exact eN o (λ_=>aG [] .nil) ((.cons_cons _ .slnil))
theorem eG(c:Value)(f u r)(h:cD f u=some r):Fn PP 35 [tp c,.one W73 u] [Res.cls bd c f] (λ_=> .tup []) (λ_=>[Res.cls bd c r]):=by
 unfold cD at h
 refine enter Tryz.func35 o 8 o o λF=>?_
 refine cK λV R hp=>?_
 subst hp
 refine bS (x:=f) ?_
 refine zu<|bI o o λW=>za<|zr<|zm 1 o<|y (mi o nl o ty5) o ?_
 refine y (qX af 0 .here o o o aa o o o o) o ?_
 refine cB h λC M h=>rc [1] (jC _ _ _ _ M) kr o o o λ_=>zn ?_
 cases h
 exact eN o (λ_=>aG [] .nil) ((.cons_cons _ (.cons _ .slnil)))
theorem sH(M:Value)(c f r)(h:iP c f=some r):Fn PP 142 [tp M,ts f] [Res.cls bd M c] (λ_=> .tup []) (λ_=>[Res.cls bd M r]):=by
 unfold iP at h
 refine enter Tryz.func142 o 25 o o λF=>?_
 refine cK λu G hp=>?_
 subst hp
 refine bS (x:=c) ?_
 refine bD h (λV=>[(0,ptr u 0),(1,ts f)]) (λV=>[Res.cls bd (.pointer (some ⟨u,0,none⟩)) V]) (λN h=>?_) λV h=>?_
 ·refine zs<|jV λR=>?_
  refine zr<|zm 3 o<|yl 0 f1 fW o o o tr o<|q 2 [(0,ptr u 0),(1,ts f),(9,tb (c.2.1==0))] [] o ?_
  obtain⟨W,e,h⟩:=aj h;rw[e]
  refine aH 4 [(0,ptr u 0),(1,ts f),(13,tb (W&&(decide ((List.length f:Int)>65535))))] [Res.var u 161 W56 (R,c.2.1,c.2.2),Res.own R 5 (.int .u8) c.1] (?_) ?_
  ·clear h
   cases W
   ·exact zA o<|ap () o o
   exact zA o<|ap () o o
  refine za<|rI h o (λhc h=>?_) λhc h=>?_
  ·refine zr<|zm 3 o<|st 0 f1 fW o o o o tr<|za<|bS (x:=(c.1,3,c.2.2)) ?_
   exact ah (c.1,3,c.2.2) () h o o
  refine zk<|zt<|bS (x:=c) ?_
  exact ah c () h o o
 refine zU 4 o<|cB h λJ C h=>rc [0] (oh _ _ _ _ _ C) kr o o o λ_=>za<|zr<|zm 2 o<|cB h λd H h=>rc [0] (jC _ _ _ _ H) kr o o o λ_=>zn ?_
 cases h
 exact eN o (λ_=>aG [] .nil) ((.cons_cons _ .slnil))
theorem hY(f:Value)(c r)(h:dq c=some r):Fn PP 37 [tp f] [Res.cls bd f c] (λ_=> .tup [⟨.str,r.1⟩,⟨(.int .i64),r.2⟩]) (λ_=>[Res.cls bd f c]):=by
 unfold dq at h
 refine enter Tryz.func37 o 18 o o λF=>?_
 refine cK λu M hp=>?_
 subst hp
 refine bS (x:=c) ?_
 refine zW o<|zs<|zs<|jV λV=>?_
 refine zr<|zm 3 o<|yl 0 f1 fW o o o tr o<|zA o<|rI h o (λhc h=>?_) λhc h=>?_
 ·refine zs<|ef kr kr ?_
  refine ay af 3 [11] (E':=[(11,ptr u 1)]) o ?_
  refine q_y (aN 0 f1 o o o (ab (av aa)) fW) o ?_
  refine ay af 2 [2,3] (E':=[(2,ts []),(3,ti c.2.1)]) o ?_
  refine eK ?_
  refine zt<|zR<|zT<|bS (x:=c) ?_
  cases h
  exact aC (rs:=[.tmp 2,.tmp 3]) o (.cons (.tmp o) (.cons (.tmp o) (.nil))) o (λ_ vs g=>aG vs g) (λ_ _ _=>(.cons_cons _ .slnil))
 refine zy<|zm 3 o<|yl 0 f0 tx3 o o o tr o<|y (nN af 1 o o o o o) o ?_
 refine zE o<|bS (x:=c) ?_
 cases h
 exact aC (rs:=[.tmp 2,.tmp 3]) o (.cons (.tmp o) (.cons (.tmp o) (.nil))) o (λ_ vs g=>aG vs g) (λ_ _ _=>(.cons_cons _ .slnil))
theorem re(c r)(h:kN c=some r):bw PP 93 [.one Y52 c] (.tup [⟨.str,r.1⟩,⟨(.int .i64),r.2⟩]):=by
 unfold kN at h
 refine enter Tryz.func93 o 47 o o λF=>?_
 refine zu<|bI o o λM=>zA o<|zs<|zu<|yl 0 .here br o o o tr o<|cB h λr3 V h=>au (iY _ _ V) kr o o<|zA o<|rI h o (λhc h=>zU 2 o<|zf<|zT<|by cases h;exact aC (rs:=[.tmp 2,.tmp 3]) o (.cons (.tmp o) (.cons (.tmp o) (.nil))) o (λ_ vs g=>aG vs g) (λ_ _ _=>List.nil_sublist _)) λhc h=>?_
 refine zy<|cB h λr4 R h=>rc [] (nc _ R) kr o o o λf=>zm 1 o<|zZ 2 o<|yl 1 f0 ty3 o o o tr o<|zm 1 o<|cB h λr6 W h=>rc [0] (gx _ _ _ _ W) kr o o o λ_=>zZ 2 o<|yl 1 f1 ty2 o o o tr o<|q 1 [(1,ptr M 0),(4,tp f),(14,tp f),(17,.one (.int .u16) (wrap .u16 c.2.1))] [] o<|cB h λC H h=>rc [0] (fc _ _ _ _ H) kr o o o λ_=>?_
 refine za<|bD h (λu=>[(4,tp f)]) (λu=>[Res.cls bd f u,Res.var M 52 Y52 c]) (λk8 h=>?_) λu h=>?_
 ·refine zU 1 o<|yl 1 f0 ty3 o o o tr o<|za<|zb<|zW o<|rI h o (λhc h=>zU 2 o<|yl 1 f2 ty2 o o o tr o<|cB h λa1 G h=>rc [0] (cN _ _ _ _ G) kr o o o λ_=>za<|zr<|zm 2 o<|yl 1 f3 bB o o o tr o<|cB h λN J h=>rc [0] (eG _ _ _ _ J) kr o o o λ_=>zn<|zi<|zt<|ah N () h o o) λhc h=>zW o<|rI h o (λhc h=>zr<|zm 2 o<|yl 1 f3 bB o o o tr o<|cB h λd m h=>rc [0] (eG _ _ _ _ m) kr o o o λ_=>zn<|zi<|zt<|ah d () h o o) λhc h=>zW o<|rI h o (λhc h=>zr<|zm 2 o<|yl 1 f4 ty9 o o o tr o<|cB h λO w h=>rc [0] (sH _ _ _ _ w) kr o o o λ_=>zn<|zi<|zt<|ah O () h o o) λhc h=>?_
  exact zk<|zi<|zt<|ah C () h o o
 refine zU 1 o<|cB h λa2 Z h=>rc [0] (hY _ _ _ Z) kr o o o λ_=>zE o ?_
 cases h
 exact aC (rs:=[.tmp 2,.tmp 3]) o (.cons (.tmp o) (.cons (.tmp o) (.nil))) o (λ_ vs g=>aG vs g) (λ_ _ _=>List.nil_sublist _)
theorem t7(M:Value)(V c r)(h:mm V c=some r):Fn PP 31 [tp M,.one W84 c] [Res.cls bd M V] (λ_=> .tup []) (λ_=>[Res.cls bd M r]):=by
 unfold mm at h
 refine enter Tryz.func31 o 28 o o λF=>?_
 refine cK λu O hp=>?_
 subst hp
 refine bS (x:=V) ?_
 refine zU 4 o<|cB h λH G h=>rc [0] (fc _ _ _ _ G) kr o o o λ_=>zz<|q 3 [(0,ptr u 0),(13,.one W84 c),(14,ti (List.length c:Int)),(15,ti 0)] [] o<|za<|bX h λW N h=>?_
 refine sn (γ:=Unit) (λ(R:bF) _=>[]) (λ(R:bF) _=>[Res.cls bd (.pointer (some ⟨u,0,none⟩)) R]) W r ?_ ?_
 ·refine zb<|ai [0,13,14,15] o<|bl (γ:=Unit) (λ(f:Int×bF) _=>[(0,ptr u 0),(13,.one W84 c),(14,ti (List.length c:Int)),(15,ti f.1)]) (λ(f:Int×bF) _=>[Res.cls bd (.pointer (some ⟨u,0,none⟩)) f.2]) (jf c W) (0,H) () h o o ?_
  clear h
  intro C f gg h
  cases C with
  |zero=>cases h
  |succ C=>
  simp only[jf]at h
  refine zW o<|zs<|rI h o (λhc h=>?_) λhc h=>?_
  ·refine zk<|zt<|zs<|zb<|zu<|iE h λhc h=>y (eo af o o hc.1 hc.2 o br) o ?_
   refine y (de o br) o ?_
   refine aB (t:=Y52) o ii o λw=>st 0 .here br o o o o tr<|zz<|yl 0 .here br o o o tr o<|cB h λZ J h=>au (re _ _ J) kr o o<|zA o<|zr<|zm 2 o<|cB h λd m h=>rc [1] (jC _ _ _ _ m) kr o o o λ_=>zn<|zi<|zt ?_
   exact zr<|zA o<|pk [0] o<|aY ((wrap .i64 (f.1+1)),d) () (Nat.lt_succ_self _) h o o
  exact zx<|ze<|ze<|zq<|zt<|ah f.2 () h o o
 intro R gg h
 rw[←N]at h
 try dsimp only at h
 cases h
 exact eN o (λ_=>aG [] .nil) ((.cons_cons _ .slnil))
theorem t8(c:Value)(f u r)(h:kY f u=some r):Fn PP 34 [tp c,tb u] [Res.cls bd c f] (λ_=> .tup []) (λ_=>[Res.cls bd c r]):=by
 unfold kY at h
 refine enter Tryz.func34 o 9 o o λF=>?_
 refine cK λR W hp=>?_
 subst hp
 refine bS (x:=f) ?_
 refine zs<|zW o<|rI h o (λhc h=>zU 1 o<|cB h λC M h=>rc [0] (gx _ _ _ _ M) kr o o o λ_=>zf<|zT<|by cases h;exact sk o (λ_=>aG [] .nil) ((.cons_cons _ .slnil))) λhc h=>zk<|zt<|zr<|zm 1 o<|cB h λH V h=>rc [0] (gx _ _ _ _ V) kr o o o λ_=>zn ?_
 cases h
 exact eN o (λ_=>aG [] .nil) ((.cons_cons _ .slnil))
theorem tL(C:Value)(f u H r)(h:jl f u H=some r):Fn PP 96 [tp C,.one (.int .u32) u,ti H] [Res.cls bd C f] (λ_=> .tup []) (λ_=>[Res.cls bd C r]):=by
 unfold jl at h
 refine enter Tryz.func96 o 33 o o λF=>?_
 refine cK λR w hp=>?_
 subst hp
 refine bS (x:=f) ?_
 refine zs<|zs<|jV λd=>?_
 refine zr<|zm 3 o<|yl 0 f1 fW o o o tr o<|zA o<|rI h o (λhc h=>?_) λhc h=>?_
 ·refine zR<|zT<|bS (x:=f) ?_
  cases h
  exact sk o (λ_=>aG [] .nil) ((.cons_cons _ .slnil))
 refine zy<|q 3 [(0,ptr R 0),(1,.one (.int .u32) u),(6,ti (wrap .i64 (H - 1)))] [] o ?_
 obtain⟨m,e,h⟩:=aj h;rw[e]
 refine za<|bX h λG O h=>?_
 refine sn (γ:=Value) (λ(W:List (Int)) g7=>[]) (λ(W:List (Int)) g7=>[Res.var R 161 W56 (g7,f.2.1,f.2.2),Res.own g7 5 (.int .u8) W]) G r ?_ ?_
 ·refine zb<|ai [0,1,6] o<|bl (γ:=Value) (λ(c:Int×List (Int)) g12=>[(0,ptr R 0),(1,.one (.int .u32) u),(6,ti c.1)]) (λ(c:Int×List (Int)) g12=>[Res.var R 161 W56 (g12,f.2.1,f.2.2),Res.own g12 5 (.int .u8) c.2]) (eX u G) (m,f.1) d h o o ?_
  clear h
  intro N c g12 h
  cases N with
  |zero=>cases h
  |succ N=>
  simp only[eX]at h
  refine zs<|zW o<|rI h o (λhc h=>?_) λhc h=>?_
  ·refine zk<|zt<|zs<|zb<|dA kr<|zF 6 [0,1,5,6,7,8] kr o o<|iE h λhc h=>ej 9 (.one (.int .u64) (ca .u64 (wrap .u64 u) (wrap .i64 (8*c.1)))) o kr (nO o o hc)<|zF 1 [10] kr o o ?_
   refine bv (i:=2) (j:=11) kr o o ?_ ?_
   ·refine zA o<|ai [0,1,6,18,20,28] o<|zF 1 [3] kr o o ?_
    refine bv (i:=4) (j:=11) kr o o ?_ ?_
    ·refine yl 0 f0 tx3 o o o tr o<|zL [0,1,6,18,22,28] o<|ae 11 kr o<|bC (B:=1) af o el5 o o o (.cons o .nil) o λJ=>?_
     refine zL [0,1,6,18,22,29] o<|ae 12 kr o<|iE h λhc h=>aW (B:=1) af 2 o o (bM 0 o o) o el5 o o hc o λM=>?_
     refine pk [1,1] o<|zL [0,1,6,18,30] o<|ae 13 kr o<|zA o<|ai [0,1,6,30,31] o<|zF 1 [14] kr o o<|ae 15 kr o<|st 0 f0 tx3 o o o o tr<|nL o<|zL [0,1,6] o<|aJ kr<|zi<|zt<|zr ?_
     refine q 3 [(6,ti (wrap .i64 (c.1 - 1)))] [0,1] o ?_
     obtain⟨V,e,h⟩:=aj h;rw[e]
     exact za<|aY (V,(c.2++[(wrap .u8 (ca .u64 (wrap .u64 u) (wrap .i64 (8*c.1))))])) M (Nat.lt_succ_self _) h o o
    refine bC (B:=1) af o el5 o o o (.cons o .nil) o λJ=>?_
    refine zL [0,1,6,18,21,29] o<|ae 4 kr o<|yl 1 f0 tx3 o o o tr o<|zL [0,1,6,18,22,29] o<|ae 12 kr o<|iE h λhc h=>aW (B:=1) af 2 o o (bM 0 o o) o el5 o o hc o λM=>?_
    refine pk [1,1] o<|zL [0,1,6,18,30] o<|ae 13 kr o<|zA o<|ai [0,1,6,30,31] o<|zF 1 [14] kr o o<|ae 15 kr o<|st 0 f0 tx3 o o o o tr<|nL o<|zL [0,1,6] o<|aJ kr<|zi<|zt<|zr ?_
    refine q 3 [(6,ti (wrap .i64 (c.1 - 1)))] [0,1] o ?_
    obtain⟨V,e,h⟩:=aj h;rw[e]
    exact za<|aY (V,(c.2++[(wrap .u8 (ca .u64 (wrap .u64 u) (wrap .i64 (8*c.1))))])) M (Nat.lt_succ_self _) h o o
   refine bC (B:=1) af o el5 o o o (.cons o .nil) o λJ=>?_
   refine zL [0,1,6,18,19,29] o<|ae 2 kr o<|zA o<|ai [0,1,6,18,20,29] o<|zF 1 [3] kr o o<|ae 4 kr o<|yl 1 f0 tx3 o o o tr o<|zL [0,1,6,18,22,29] o<|ae 12 kr o<|iE h λhc h=>aW (B:=1) af 2 o o (bM 0 o o) o el5 o o hc o λM=>?_
   refine pk [1,1] o<|zL [0,1,6,18,30] o<|ae 13 kr o<|zA o<|ai [0,1,6,30,31] o<|zF 1 [14] kr o o<|ae 15 kr o<|st 0 f0 tx3 o o o o tr<|nL o<|zL [0,1,6] o<|aJ kr<|zi<|zt<|zr ?_
   refine q 3 [(6,ti (wrap .i64 (c.1 - 1)))] [0,1] o ?_
   obtain⟨V,e,h⟩:=aj h;rw[e]
   exact za<|aY (V,(c.2++[(wrap .u8 (ca .u64 (wrap .u64 u) (wrap .i64 (8*c.1))))])) M (Nat.lt_succ_self _) h o o
  exact zx<|ze<|ze<|zq<|zt<|ah c.2 g12 h o o
 intro W g7 h
 rw[←O]at h
 try dsimp only at h
 refine bS (x:=(W,f.2.1,f.2.2)) ?_
 cases h
 exact eN o (λ_=>aG [] .nil) ((.cons_cons _ .slnil))
theorem ol(c:Value)(f u r)(h:ic f u=some r):Fn PP 36 [tp c,.one (.int .u32) u] [Res.cls bd c f] (λ_=> .tup []) (λ_=>[Res.cls bd c r]):=by
 unfold ic at h
 refine enter Tryz.func36 o 7 o o λF=>?_
 refine cK λV R hp=>?_
 subst hp
 refine bS (x:=f) ?_
 refine zr<|zm 2 o<|cB h λW M h=>rc [0] (tL _ _ _ _ _ M) kr o o o λ_=>zn ?_
 cases h
 exact eN o (λ_=>aG [] .nil) ((.cons_cons _ .slnil))
theorem oW(a0 c r)(h:ft a0 c=some r):bw PP 7 [ti a0,.one Y30 c] (.tup [⟨.str,r.1⟩,⟨(.int .i64),r.2⟩]):=by
 unfold ft at h
 refine enter Tryz.func7 o 143 o o λF=>?_
 refine zu<|bI o o λu=>zA o<|zs<|zU 1 o<|yl 0 .here bR o o o tr o<|cB h λr4 b8 h=>au (vA _ _ _ b8) kr o o<|zA o<|rI h o (λhc h=>zU 2 o<|zf<|zT<|by cases h;exact aC (rs:=[.tmp 4,.tmp 5]) o (.cons (.tmp o) (.cons (.tmp o) (.nil))) o (λ_ vs g=>aG vs g) (λ_ _ _=>List.nil_sublist _)) λhc h=>?_
 refine zy<|cB h λr5 b9 h=>rc [] (nc _ b9) kr o o o λf=>zm 1 o<|zZ 2 o<|cB h λr7 c0 h=>rc [0] (cN _ _ _ _ c0) kr o o o λ_=>zZ 2 o<|yl 1 f0 ty3 o o o tr o<|q 1 [(3,ptr u 0),(6,tp f),(25,tp f),(28,.one (.int .u8) (wrap .u8 c.1))] [] o<|cB h λr8 c1 h=>rc [0] (gx _ _ _ _ c1) kr o o o λ_=>za<|bD h (λO=>[(3,ptr u 0),(6,tp f)]) (λO=>[Res.cls bd f O,Res.var u 30 Y30 c]) (λk9 h=>?_) λO h=>?_
 ·refine zU 1 o<|yl 1 f1 ty2 o o o tr o<|zm 1 o<|yl 1 f2 ty2 o o o tr o<|zm 1 o<|yl 1 f3 ty2 o o o tr o<|bC (B:=8) af o el2 o o o (.cons o (.cons o (.cons o .nil))) o λc2=>?_
  refine y (ct af 0 o o o) o ?_
  refine zA o<|zb<|ai [3,6,36,37,38] o<|bl (γ:=Value) (λ(V:Int×bF) J=>[(3,ptr u 0),(6,tp f),(36,.one W69 J),(37,ti (List.length [c.2.1,c.2.2.1,c.2.2.2.1]:Int)),(38,ti V.1)]) (λ(V:Int×bF) J=>[Res.own J 2 (.int .i64) [c.2.1,c.2.2.1,c.2.2.2.1],Res.cls bd f V.2,Res.var u 30 Y30 c]) (fq c k9) (0,r8) c2 h o o ?_
  clear h
  intro a3 V J h
  cases a3 with
  |zero=>cases h
  |succ a3=>
  simp only[fq]at h
  refine zW o<|zs<|rI h o (λhc h=>?_) λhc h=>?_
  ·refine zk<|zt<|zs<|zb<|zu<|iE h λhc h=>cT 0 o (by omega) λa4 a5 a6 hv=>?_
   rw[hv]
   try clear hv
   refine y (dn af o o hc.1 (by first|exact hc.2|simpa using hc.2) o ty2) o ?_
   refine y (eC 0 (Int.toNat V.1) .here o o (by omega) pof aa ty2) o ?_
   refine q 1 [(8,ti (List.getD [c.2.1,c.2.2.1,c.2.2.2.1] (Int.toNat V.1) 0)),(36,.one W69 (.slice (some ⟨a4,a5,none⟩) (List.length [c.2.1,c.2.2.1,c.2.2.2.1]) a6)),(37,ti (List.length [c.2.1,c.2.2.1,c.2.2.2.1]:Int)),(38,ti V.1)] [3,6] o ?_
   obtain⟨g5,e,h⟩:=aj h;rw[e]
   exact za<|zr<|zm 2 o<|cB h λc3 c4 h=>rc [1] (cN _ _ _ _ c4) kr o o o λ_=>zn<|zi<|zt<|zr<|zA o<|pk [1,0,0] o<|aY ((wrap .i64 (V.1+1)),c3) (.slice (some ⟨a4,a5,none⟩) (List.length [c.2.1,c.2.2.1,c.2.2.2.1]) a6) (Nat.lt_succ_self _) h o o
  exact zx<|ze<|ze<|zq<|zt<|pk [1,1] o<|ah V.2 () h o o
 refine zU 2 o<|yl 1 f4 jA o o o tr o<|cB h λg6 c5 h=>rc [0] (t7 _ _ _ _ c5) kr o o o λ_=>zz<|q 2 [(3,ptr u 0),(6,tp f),(50,tp f),(51,ptr u 5)] [] o<|yl 1 f5 jA o o o tr o<|cB h λc6 c7 h=>rc [0] (t7 _ _ _ _ c7) kr o o o λ_=>za<|bD h (λd=>[(3,ptr u 0),(6,tp f)]) (λd=>[Res.cls bd f d,Res.var u 30 Y30 c]) (λc8 h=>?_) λd h=>?_
 ·refine zU 1 o<|yl 1 f6 ty2 o o o tr o<|zm 1 o<|yl 1 f7 ty2 o o o tr o<|zm 1 o<|yl 1 f8 ty2 o o o tr o<|bC (B:=8) af o el2 o o o (.cons o (.cons o (.cons o .nil))) o λc9=>?_
  refine y (ct af 0 o o o) o ?_
  refine zA o<|zb<|ai [3,6,60,61,62] o<|bl (γ:=Value) (λ(M:Int×bF) G=>[(3,ptr u 0),(6,tp f),(60,.one W69 G),(61,ti (List.length [c.2.2.2.2.2.2.1,c.2.2.2.2.2.2.2.1,c.2.2.2.2.2.2.2.2.1]:Int)),(62,ti M.1)]) (λ(M:Int×bF) G=>[Res.own G 2 (.int .i64) [c.2.2.2.2.2.2.1,c.2.2.2.2.2.2.2.1,c.2.2.2.2.2.2.2.2.1],Res.cls bd f M.2,Res.var u 30 Y30 c]) (fp c c8) (0,c6) c9 h o o ?_
  clear h
  intro a7 M G h
  cases a7 with
  |zero=>cases h
  |succ a7=>
  simp only[fp]at h
  refine zu<|q 1 [(60,.one W69 G),(61,ti (List.length [c.2.2.2.2.2.2.1,c.2.2.2.2.2.2.2.1,c.2.2.2.2.2.2.2.2.1]:Int)),(62,ti M.1),(63,tb (decide (M.1<(List.length [c.2.2.2.2.2.2.1,c.2.2.2.2.2.2.2.1,c.2.2.2.2.2.2.2.2.1]:Int))))] [3,6] o ?_
  obtain⟨g7,e,h⟩:=aj h;rw[e]
  refine za<|zs<|rI h o (λhc h=>?_) λhc h=>?_
  ·refine zk<|zt<|zs<|zb<|zu<|iE h λhc h=>cT 0 o (by omega) λa8 a9 b0 hv=>?_
   rw[hv]
   try clear hv
   refine y (dn af o o hc.1 (by first|exact hc.2|simpa using hc.2) o ty2) o ?_
   refine y (eC 0 (Int.toNat M.1) .here o o (by omega) pof aa ty2) o ?_
   refine q 1 [(10,ti (List.getD [c.2.2.2.2.2.2.1,c.2.2.2.2.2.2.2.1,c.2.2.2.2.2.2.2.2.1] (Int.toNat M.1) 0)),(60,.one W69 (.slice (some ⟨a8,a9,none⟩) (List.length [c.2.2.2.2.2.2.1,c.2.2.2.2.2.2.2.1,c.2.2.2.2.2.2.2.2.1]) b0))] [3,6,61,62] o ?_
   obtain⟨g8,e,h⟩:=aj h;rw[e]
   exact za<|zr<|zm 2 o<|cB h λd0 d1 h=>rc [1] (cN _ _ _ _ d1) kr o o o λ_=>zn<|zi<|zt<|zr<|zA o<|pk [1,0,0] o<|aY ((wrap .i64 (M.1+1)),d0) (.slice (some ⟨a8,a9,none⟩) (List.length [c.2.2.2.2.2.2.1,c.2.2.2.2.2.2.2.1,c.2.2.2.2.2.2.2.2.1]) b0) (Nat.lt_succ_self _) h o o
  exact zx<|ze<|ze<|zq<|zt<|pk [1,1] o<|ah M.2 () h o o
 refine bD h (λw=>[(3,ptr u 0),(6,tp f)]) (λw=>[Res.cls bd f w,Res.var u 30 Y30 c]) (λd2 h=>?_) λw h=>?_
 ·refine zu<|yl 1 .here bR o o o tr o<|cB h λC d3 h=>rc [] (rd _ _ d3) kr o o o λd4=>y (ct af 0 o o o) o ?_
  refine zA o<|zb<|ai [3,6,71,72,73] o<|bl (γ:=Value) (λ(R:Int×bF) m=>[(3,ptr u 0),(6,tp f),(71,.one W69 m),(72,ti (List.length C:Int)),(73,ti R.1)]) (λ(R:Int×bF) m=>[Res.own m 3 (.int .i64) C,Res.cls bd f R.2,Res.var u 30 Y30 c]) (iA d2 C) (0,d) d4 h o o ?_
  clear h
  intro b1 R m h
  cases b1 with
  |zero=>cases h
  |succ b1=>
  simp only[iA]at h
  refine zW o<|zs<|rI h o (λhc h=>?_) λhc h=>?_
  ·refine zk<|zt<|zs<|zb<|zu<|iE h λhc h=>cT 0 o (by omega) λb2 b4 b5 hv=>?_
   rw[hv]
   try clear hv
   refine y (dn af o o hc.1 (by first|exact hc.2|simpa using hc.2) o ty3) o ?_
   refine y (eC 0 (Int.toNat R.1) .here o o (by omega) pof aa ty3) o ?_
   refine q 1 [(3,ptr u 0),(6,tp f),(12,ti (List.getD C (Int.toNat R.1) 0)),(71,.one W69 (.slice (some ⟨b2,b4,none⟩) (List.length C) b5)),(72,ti (List.length C:Int)),(73,ti R.1)] [] o ?_
   obtain⟨g9,e,h⟩:=aj h;rw[e]
   exact za<|zr<|zm 3 o<|cB h λd5 d6 h=>rc [1] (fc _ _ _ _ d6) kr o o o λ_=>zn<|zi<|zt<|zr<|zA o<|pk [1,0,0] o<|aY ((wrap .i64 (R.1+1)),d5) (.slice (some ⟨b2,b4,none⟩) (List.length C) b5) (Nat.lt_succ_self _) h o o
  exact zx<|ze<|ze<|zq<|zt<|pk [1,1] o<|ah R.2 () h o o
 refine zu<|q 2 [(3,ptr u 0),(6,tp f),(82,tp f),(83,ptr u 15)] [] o<|yl 1 f12 ty4 o o o tr o<|cB h λd7 d8 h=>rc [0] (t8 _ _ _ _ d8) kr o o o λ_=>za<|bD h (λZ=>[(3,ptr u 0),(6,tp f)]) (λZ=>[Res.cls bd f Z,Res.var u 30 Y30 c]) (λd9 h=>?_) λZ h=>?_
 ·refine zU 1 o<|iE h λhc h=>y (bO o o hc.1 hc.2 tJ bB) o ?_
  refine y (aN 1 ((g13 (.fst (.elem 0 .here)))) o o pof (ab (ab (ab (ab (ab (ab (ab (ab (ab (ab (ab (ab (ab (av (aw (by omega) aa))))))))))))))) bB) o ?_
  refine zm 1 o<|iE h λhc h=>y (bO o o hc.1 hc.2 tJ bB) o ?_
  refine y (aN 1 ((g13 (.fst (.elem 1 .here)))) o o pof (ab (ab (ab (ab (ab (ab (ab (ab (ab (ab (ab (ab (ab (av (aw (by omega) aa))))))))))))))) bB) o ?_
  refine zm 1 o<|yl 1 f14 bB o o o tr o<|bC (B:=32) af o H2 o o o (.cons o (.cons o (.cons o .nil))) o λe0=>?_
  refine y (ct af 0 o o o) o ?_
  refine zA o<|zb<|ai [3,6,94,95,96] o<|bl (γ:=Value) (λ(W:Int×bF) N=>[(3,ptr u 0),(6,tp f),(94,.one W69 N),(95,ti (List.length [(List.getD c.2.2.2.2.2.2.2.2.2.2.2.2.2.1 0 (List.replicate 32 (0:Int))),(List.getD c.2.2.2.2.2.2.2.2.2.2.2.2.2.1 1 (List.replicate 32 (0:Int))),c.2.2.2.2.2.2.2.2.2.2.2.2.2.2.1]:Int)),(96,ti W.1)]) (λ(W:Int×bF) N=>[Res.own N 26 W73 [(List.getD c.2.2.2.2.2.2.2.2.2.2.2.2.2.1 0 (List.replicate 32 (0:Int))),(List.getD c.2.2.2.2.2.2.2.2.2.2.2.2.2.1 1 (List.replicate 32 (0:Int))),c.2.2.2.2.2.2.2.2.2.2.2.2.2.2.1],Res.cls bd f W.2,Res.var u 30 Y30 c]) (fo c d9) (0,d7) e0 h o o ?_
  clear h
  intro b6 W N h
  cases b6 with
  |zero=>cases h
  |succ b6=>
  simp only[fo]at h
  refine zu<|q 1 [(94,.one W69 N),(95,ti (List.length [(List.getD c.2.2.2.2.2.2.2.2.2.2.2.2.2.1 0 (List.replicate 32 (0:Int))),(List.getD c.2.2.2.2.2.2.2.2.2.2.2.2.2.1 1 (List.replicate 32 (0:Int))),c.2.2.2.2.2.2.2.2.2.2.2.2.2.2.1]:Int)),(96,ti W.1),(97,tb (decide (W.1<(List.length [(List.getD c.2.2.2.2.2.2.2.2.2.2.2.2.2.1 0 (List.replicate 32 (0:Int))),(List.getD c.2.2.2.2.2.2.2.2.2.2.2.2.2.1 1 (List.replicate 32 (0:Int))),c.2.2.2.2.2.2.2.2.2.2.2.2.2.2.1]:Int))))] [3,6] o ?_
  obtain⟨h0,e,h⟩:=aj h;rw[e]
  refine za<|zs<|rI h o (λhc h=>?_) λhc h=>?_
  ·refine zk<|zt<|zs<|zb<|zu<|iE h λhc h=>cT 0 o (by omega) λe1 e2 e3 hv=>?_
   rw[hv]
   try clear hv
   refine y (dn af o o hc.1 (by first|exact hc.2|simpa using hc.2) o bB) o ?_
   refine y (eC 0 (Int.toNat W.1) .here o o (by omega) pof aa bB) o ?_
   refine aB (t:=W73) o lu o λh1=>st 0 .here bB o o o o tr<|za<|zr<|zm 1 o<|yl 0 .here bB o o o tr o<|cB h λe4 e5 h=>rc [2] (eG _ _ _ _ e5) kr o o o λ_=>zn<|zi<|zt<|zr<|zA o<|pk [0,1,1] o ?_
   exact pk [1,0,0] o<|aY ((wrap .i64 (W.1+1)),e4) (.slice (some ⟨e1,e2,none⟩) (List.length [(List.getD c.2.2.2.2.2.2.2.2.2.2.2.2.2.1 0 (List.replicate 32 (0:Int))),(List.getD c.2.2.2.2.2.2.2.2.2.2.2.2.2.1 1 (List.replicate 32 (0:Int))),c.2.2.2.2.2.2.2.2.2.2.2.2.2.2.1]) e3) (Nat.lt_succ_self _) h o o
  exact zx<|ze<|ze<|zq<|zt<|pk [1,1] o<|ah W.2 () h o o
 refine zU 2 o<|yl 1 f15 qF o o o tr o<|q 2 [(3,ptr u 0),(6,tp f),(104,tp f),(108,.one (.int .u8) (wrap .u8 (List.length c.2.2.2.2.2.2.2.2.2.2.2.2.2.2.2.1:Int)))] [] o<|cB h λe6 e7 h=>rc [0] (gx _ _ _ _ e7) kr o o o λ_=>za<|bD h (λa2=>[(3,ptr u 0),(6,tp f)]) (λa2=>[Res.cls bd f a2,Res.var u 30 Y30 c]) (λe8 h=>?_) λa2 h=>?_
 ·refine zU 1 o<|yl 1 f15 qF o o o tr o<|zA o<|zb<|ai [3,6,111,112,113] o<|bl (γ:=Unit) (λ(H:Int×bF) _=>[(3,ptr u 0),(6,tp f),(111,.one W85 c.2.2.2.2.2.2.2.2.2.2.2.2.2.2.2.1),(112,ti (List.length c.2.2.2.2.2.2.2.2.2.2.2.2.2.2.2.1:Int)),(113,ti H.1)]) (λ(H:Int×bF) _=>[Res.cls bd f H.2,Res.var u 30 Y30 c]) (gP c e8) (0,e6) () h o o ?_
  clear h
  intro b7 H gg h
  cases b7 with
  |zero=>cases h
  |succ b7=>
  simp only[gP]at h
  refine zW o<|zs<|rI h o (λhc h=>?_) λhc h=>?_
  ·refine zk<|zt<|zs<|zb<|zu<|iE h λhc h=>y (eo af o o hc.1 hc.2 o jg) o ?_
   refine y (de o jg) o ?_
   refine aB (t:=Y56) o xo o λh2=>st 0 .here jg o o o o tr<|zZ 2 o<|yl 0 f2 ty4 o o o tr o<|cB h λh3 e9 h=>rc [1] (t8 _ _ _ _ e9) kr o o o λ_=>zZ 2 o<|yl 1 f0 ty2 o o o tr o<|cB h λh4 f9 h=>rc [0] (cN _ _ _ _ f9) kr o o o λ_=>za<|zr<|zm 2 o<|yl 1 f1 bB o o o tr o ?_
   exact cB h λg0 g1 h=>rc [0] (eG _ _ _ _ g1) kr o o o λ_=>zn<|zi<|zt<|zr<|zA o<|pk [0,1] o<|aY ((wrap .i64 (H.1+1)),g0) () (Nat.lt_succ_self _) h o o
  exact zx<|ze<|ze<|zq<|zt<|ah H.2 () h o o
 refine zU 2 o<|yl 1 f16 ty3 o o o tr o<|zm 1 o<|cB h λh5 g2 h=>rc [0] (ol _ _ _ _ g2) kr o o o λ_=>zZ 2 o<|yl 1 f17 ty2 o o o tr o<|cB h λh6 g3 h=>rc [0] (cN _ _ _ _ g3) kr o o o λ_=>zZ 1 o<|cB h λh7 g4 h=>rc [0] (hY _ _ _ g4) kr o o o λ_=>zE o ?_
 cases h
 exact aC (rs:=[.tmp 4,.tmp 5]) o (.cons (.tmp o) (.cons (.tmp o) (.nil))) o (λ_ vs g=>aG vs g) (λ_ _ _=>List.nil_sublist _)
theorem nF(c r)(h:gQ c=some r):bw PP 41 [.one Y30 c] (.one W74 r):=by
 unfold gQ at h
 refine enter Tryz.func41 o 22 o o λF=>?_
 refine zu<|bI o o λf=>aB (t:=W74) o Ca o λu=>zZ 2 o<|yl 1 ((g9 (.fst f0))) ty3 o o o tr o<|zm 2 o<|yl 1 ((g9 (.fst f1))) ty3 o o o tr o<|zm 2 o<|yl 1 ((g10 (.fst f0))) ty3 o o o tr o<|zm 2 o<|yl 1 ((g10 (.fst f1))) ty3 o o o tr o<|zm 2 o<|yl 1 ((g11 (.fst f0))) ty3 o o o tr o<|zm 2 o ?_
 refine yl 1 ((g11 (.fst f1))) ty3 o o o tr o<|y (bc o Ca o o (.cons (.elem 0 .here) o o (aw (by omega) aa) (.cons (.elem 1 .here) o o (aw (by omega) aa) (.cons (.elem 2 .here) o o (aw (by omega) aa) (.cons (.elem 3 .here) o o (aw (by omega) aa) (.cons (.elem 4 .here) o o (aw (by omega) aa) (.cons (.elem 5 .here) o o (aw (by omega) aa) .nil))))))) o ?_
 refine st 0 .here B9 o o o o tr<|zf ?_
 cases h
 exact aT o (.cell 0 .here o o o aa B9) (λ_ _ g=>g) (λ_ _ _=>List.nil_sublist _)
theorem cE(c f r)(h:ck c f=some r):bw PP 97 [ti c,ti f] (tb r):=by
 unfold ck at h
 refine enter Tryz.func97 o 12 o o λF=>?_
 refine zU 1 o<|zz<|q 3 [(0,ti c),(1,ti f),(7,tb (decide (c≥0)))] [] o ?_
 obtain⟨u,e,h⟩:=aj h;rw[e]
 refine aH 4 [(11,tb (u&&(decide (c≤f))))] [] (?_) ?_
 ·clear h
  cases u
  ·exact zA o<|ap () o o
  exact zA o<|ap () o o
 refine zE o ?_
 cases h
 exact ax o (.tmp o)
theorem u0(R f r)(h:kb R f=some r):bw PP 38 [ti R,.one Y30 f] (tb r):=by
 unfold kb at h
 refine enter Tryz.func38 o 73 o o λF=>?_
 refine zu<|bI o o λc=>q 1 [(0,ti R),(3,ptr c 0)] [] o<|zz<|yl 0 .here bR o o o tr o<|cB h λu a2 h=>au (nF _ _ a2) kr o o<|aB (t:=W74) o Ca o λM=>st 0 .here B9 o o o o tr<|za<|bD h (λd=>[(0,ti R),(3,ptr c 0)]) (λd=>[Res.var M 95 W74 u,Res.var c 30 Y30 f]) (λk6 h=>?_) λd h=>?_
 ·refine zW o<|zb<|ai [0,3,5,6] o<|bl (γ:=Unit) (λ(W:Int) _=>[(0,ti R),(3,ptr c 0),(5,ptr M 0),(6,ti W)]) (λ(W:Int) _=>[Res.var M 95 W74 u,Res.var c 30 Y30 f]) (fR u k6) 0 () h o o ?_
  clear h
  intro m W gg h
  cases m with
  |zero=>cases h
  |succ m=>
  simp only[fR]at h
  refine zs<|zW o<|rI h o (λhc h=>?_) λhc h=>?_
  ·refine zk<|zt<|zs<|zb<|zU 1 o<|iE h λhc h=>y (bO o o hc.1 hc.2 GD ty3) o ?_
   refine y (aN 0 (.elem (Int.toNat W) .here) o o pof (aw (by omega) aa) ty3) o ?_
   refine cB h λc4 a3 h=>au (cE _ _ _ a3) kr o o<|zA o<|rI h o (λhc h=>zU 1 o<|zf<|zB<|zT<|zT<|zB<|zT<|by cases h;exact ax o (.tmp o)) λhc h=>zk<|zi<|zt<|zr<|p 3 [0,3,5,6] o ?_
   obtain⟨a4,e,h⟩:=aj h;rw[e]
   exact za<|aY a4 () (Nat.lt_succ_self _) h o o
  exact zx<|ze<|ze<|zq<|zt<|ah () () h o o
 refine zs<|zU 1 o<|cB h λr8 a5 h=>au (cE _ _ _ a5) kr o o<|q 2 [(3,ptr c 0),(21,tb (!r8))] [] o ?_
 obtain⟨b9,e,h⟩:=aj h;rw[e]
 refine bL h 5 (λC=>[(3,ptr c 0),(26,tb C)]) (λ_=>[Res.var M 95 W74 u,Res.var c 30 Y30 f]) (λc5 h=>?_) λC h=>?_
 ·cases b9
  ·replace h:=ifF h
   refine zm 1 o<|al dl o ?_
   refine yl 1 f0 ty3 o o o tr o<|al dl o ?_
   exact cB h λa6 a7 h=>au (cE _ _ _ a7) kr o o<|zN o<|zt<|ah (!a6) () h o o
  replace h:=ifT h
  exact zN o<|zt<|ah true () h o o
 refine q 1 [(3,ptr c 0),(27,tb C)] [] o<|bL h 5 (λH=>[(3,ptr c 0),(32,tb H)]) (λ_=>[Res.var M 95 W74 u,Res.var c 30 Y30 f]) (λc6 h=>?_) λH h=>?_
 ·cases C
  ·replace h:=ifF h
   refine zm 1 o<|al dl o ?_
   refine yl 1 f1 ty2 o o o tr o<|al dl o ?_
   exact cB h λa8 a9 h=>au (cE _ _ _ a9) kr o o<|zN o<|zt<|ah (!a8) () h o o
  replace h:=ifT h
  exact zN o<|zt<|ah true () h o o
 refine q 1 [(3,ptr c 0),(33,tb H)] [] o<|bL h 5 (λG=>[(3,ptr c 0),(38,tb G)]) (λ_=>[Res.var M 95 W74 u,Res.var c 30 Y30 f]) (λc7 h=>?_) λG h=>?_
 ·cases H
  ·replace h:=ifF h
   refine zm 1 o<|al dl o ?_
   refine yl 1 f2 ty2 o o o tr o<|al dl o ?_
   exact cB h λb0 b1 h=>au (cE _ _ _ b1) kr o o<|zN o<|zt<|ah (!b0) () h o o
  replace h:=ifT h
  exact zN o<|zt<|ah true () h o o
 refine q 1 [(3,ptr c 0),(39,tb G)] [] o<|bL h 5 (λO=>[(3,ptr c 0),(44,tb O)]) (λ_=>[Res.var M 95 W74 u,Res.var c 30 Y30 f]) (λc8 h=>?_) λO h=>?_
 ·cases G
  ·replace h:=ifF h
   refine zm 1 o<|al dl o ?_
   refine yl 1 f3 ty2 o o o tr o<|al dl o ?_
   exact cB h λb2 b4 h=>au (cE _ _ _ b4) kr o o<|zN o<|zt<|ah (!b2) () h o o
  replace h:=ifT h
  exact zN o<|zt<|ah true () h o o
 refine za<|rI h o (λhc h=>zU 1 o<|zf<|zT<|by cases h;exact ax o (.tmp o)) λhc h=>zy<|zm 1 o<|yl 1 f6 ty2 o o o tr o<|cB h λw b6 h=>au (cE _ _ _ b6) kr o o<|q 1 [(3,ptr c 0),(48,tb w)] [] o<|bL h 4 (λN=>[(3,ptr c 0),(52,tb N)]) (λ_=>[Res.var M 95 W74 u,Res.var c 30 Y30 f]) (λc9 h=>?_) λN h=>?_
 ·cases w
  ·replace h:=ifF h
   exact zN o<|zt<|ah false () h o o
  replace h:=ifT h
  refine zm 1 o<|al dl o ?_
  refine yl 1 f7 ty2 o o o tr o<|al dl o ?_
  exact cB h λb7 b8 h=>au (cE _ _ _ b8) kr o o<|zN o<|zt<|ah b7 () h o o
 refine q 1 [(3,ptr c 0),(53,tb N)] [] o<|bL h 4 (λJ=>[(3,ptr c 0),(57,tb J)]) (λ_=>[Res.var M 95 W74 u,Res.var c 30 Y30 f]) (λd0 h=>?_) λJ h=>?_
 ·cases N
  ·replace h:=ifF h
   exact zN o<|zt<|ah false () h o o
  replace h:=ifT h
  refine zm 1 o<|al dl o ?_
  refine yl 1 f8 ty2 o o o tr o<|al dl o ?_
  exact cB h λc0 c1 h=>au (cE _ _ _ c1) kr o o<|zN o<|zt<|ah c0 () h o o
 refine q 1 [(3,ptr c 0),(58,tb J)] [] o<|bL h 4 (λV=>[(3,ptr c 0),(62,tb V)]) (λ_=>[Res.var M 95 W74 u,Res.var c 30 Y30 f]) (λd1 h=>?_) λV h=>?_
 ·cases J
  ·replace h:=ifF h
   exact zN o<|zt<|ah false () h o o
  replace h:=ifT h
  refine zm 1 o<|al dl o ?_
  refine yl 1 f16 ty3 o o o tr o<|al dl o ?_
  exact cB h λc2 c3 h=>au (cE _ _ _ c3) kr o o<|zN o<|zt<|ah c2 () h o o
 refine q 1 [(3,ptr c 0),(63,tb V)] [] o<|aH 4 [(3,ptr c 0),(67,tb (V&&(decide (f.2.2.2.2.2.2.2.2.2.2.2.2.2.2.2.2.2.1≥(-1)))))] [Res.var M 95 W74 u,Res.var c 30 Y30 f] (?_) ?_
 ·clear h
  cases V
  ·exact zA o<|ap () o o
  refine zm 1 o<|al dl o ?_
  exact yl 1 f17 ty2 o o o tr o<|zA o<|ap () o o
 refine q 1 [(3,ptr c 0),(68,tb (V&&(decide (f.2.2.2.2.2.2.2.2.2.2.2.2.2.2.2.2.2.1≥(-1)))))] [] o ?_
 obtain⟨Z,e,h⟩:=aj h;rw[e]
 refine aH 4 [(72,tb (Z&&(decide (f.2.2.2.2.2.2.2.2.2.2.2.2.2.2.2.2.2.1≤281474976710655))))] [Res.var M 95 W74 u,Res.var c 30 Y30 f] (?_) ?_
 ·clear h
  cases Z
  ·exact zA o<|ap () o o
  refine zm 1 o<|al dl o ?_
  exact yl 1 f17 ty2 o o o tr o<|zA o<|ap () o o
 refine zE o ?_
 cases h
 exact ax o (.tmp o)
theorem aS(u:Value)(M f V r)(h:bE M f V=some r):Fn PP 39 [.one W69 u,ti f,ti V] [Res.own u 5 (.int .u8) M] (λv=> .one W69 v) (λv=>[Res.own v 5 (.int .u8) r]):=by
 unfold bE at h
 refine enter Tryz.func39 o 23 o o λF=>?_
 refine zu<|q 1 [(0,.one W69 u),(1,ti f),(2,ti V)] [] o<|za<|jK h (γ:=Value) (λR g6=>[(0,.one W69 g6)]) (λR g6=>[Res.own g6 5 (.int .u8) R]) (λH h=>?_) λR g6 h=>?_
 ·refine zu<|p 3 [0,1,7] o ?_
  obtain⟨G,e,h⟩:=aj h;rw[e]
  refine za<|zb<|ai [0,1,7] o<|bl (γ:=Value) (λ(c:Int×List (Int)) g12=>[(0,.one W69 g12),(1,ti f),(7,ti c.1)]) (λ(c:Int×List (Int)) g12=>[Res.own g12 5 (.int .u8) c.2]) (eD f H) (G,M) u h o o ?_
  clear h
  intro W c g12 h
  cases W with
  |zero=>cases h
  |succ W=>
  simp only[eD]at h
  refine zs<|zW o<|rI h o (λhc h=>?_) λhc h=>?_
  ·refine zk<|zt<|zs<|zb<|zr<|zm 4 o<|iE h λhc h=>y (nO o o hc) o ?_
   refine zm 1 o<|bC (B:=1) af o el5 o o o (.cons o .nil) o λJ=>?_
   refine iE h λhc h=>aW (B:=1) af 1 o o (bM 0 o o) o el5 o o hc o λC=>?_
   refine pk [1] o<|zN o<|zi<|zt<|zr<|q 3 [(0,.one W69 C),(7,ti (wrap .i64 (c.1 - 1)))] [1] o ?_
   obtain⟨N,e,h⟩:=aj h;rw[e]
   exact za<|aY (N,(c.2++[(wrap .u8 (ca .i64 f (wrap .i64 (8*c.1))))])) C (Nat.lt_succ_self _) h o o
  exact zx<|ze<|ze<|zq<|zt<|ah c.2 g12 h o o
 refine zU 2 o<|zf ?_
 cases h
 exact aT o (.tmp o) (λ_ _ g=>holds_raw.2 ⟨rfl,by rw[(holds_raw.1 g).1];exact(holds_raw.1 g).2⟩) (λ_ _ g=>by obtain⟨rfl,_⟩:=holds_raw.1 g;exact(.cons_cons _ .slnil))
theorem om(c r)(h:fA c=some r):bw PP 143 [.one Y52 c] (tb r):=by
 unfold fA at h
 refine enter Tryz.func143 o 57 o o λF=>?_
 refine zu<|bI o o λf=>zm 1 o<|zz<|y (bc o lu o o .nil) o ?_
 refine aB (t:=W73) o lu o λu=>st 0 .here bB o o o o tr<|za<|zs<|zU 1 o<|yl 1 f1 ty2 o o o tr o<|q 2 [(1,ptr f 0),(3,ptr u 0),(8,tb (decide (c.2.1<0)))] [] o ?_
 obtain⟨R,e,h⟩:=aj h;rw[e]
 refine aH 4 [(1,ptr f 0),(3,ptr u 0),(12,tb (R||(decide (c.2.1≥2048))))] [Res.var u 26 W73 z32,Res.var f 52 Y52 c] (?_) ?_
 ·clear h
  cases R
  ·refine zm 1 o<|al dl o ?_
   exact yl 1 f1 ty2 o o o tr o<|zA o<|ap () o o
  exact zA o<|ap () o o
 refine za<|rI h o (λhc h=>zU 1 o<|zf<|zT<|by cases h;exact ax o (.tmp o)) λhc h=>zk<|zt<|zs<|zU 1 o<|yl 1 f0 ty3 o o o tr o<|za<|zb<|zW o<|rI h o (λhc h=>?_) λhc h=>?_
 ·refine zU 1 o<|yl 1 f2 ty2 o o o tr o<|q 2 [(1,ptr f 0),(20,tb (decide (c.2.2.1≥1)))] [] o ?_
  obtain⟨M,e,h⟩:=aj h;rw[e]
  refine aH 4 [(1,ptr f 0),(24,tb (M&&(decide (c.2.2.1≤1152921504606846976))))] [Res.var u 26 W73 z32,Res.var f 52 Y52 c] (?_) ?_
  ·clear h
   cases M
   ·exact zA o<|ap () o o
   refine zm 1 o<|al dl o ?_
   exact yl 1 f2 ty2 o o o tr o<|zA o<|ap () o o
  refine q 1 [(1,ptr f 0),(25,tb (M&&(decide (c.2.2.1≤1152921504606846976))))] [] o ?_
  obtain⟨W,e,h⟩:=aj h;rw[e]
  refine aH 4 [(29,tb (W&&(c.2.2.2.2.1==[])))] [Res.var u 26 W73 z32,Res.var f 52 Y52 c] (?_) ?_
  ·clear h
   cases W
   ·exact zA o<|ap () o o
   refine zm 1 o<|al dl o ?_
   exact yl 1 f4 ty9 o o o tr o<|zA o<|ap () o o
  refine zE o<|zB<|zT ?_
  cases h
  exact ax o (.tmp o)
 refine zW o<|rI h o (λhc h=>?_) λhc h=>?_
 ·refine zU 1 o<|yl 1 f2 ty2 o o o tr o<|q 2 [(1,ptr f 0),(35,tb (c.2.2.1==0))] [] o ?_
  obtain⟨C,e,h⟩:=aj h;rw[e]
  refine aH 4 [(39,tb (C&&(c.2.2.2.2.1==[])))] [Res.var u 26 W73 z32,Res.var f 52 Y52 c] (?_) ?_
  ·clear h
   cases C
   ·exact zA o<|ap () o o
   refine zm 1 o<|al dl o ?_
   exact yl 1 f4 ty9 o o o tr o<|zA o<|ap () o o
  refine zE o<|zB<|zT ?_
  cases h
  exact ax o (.tmp o)
 refine zW o<|rI h o (λhc h=>?_) λhc h=>?_
 ·refine zU 1 o<|yl 1 f2 ty2 o o o tr o<|q 2 [(1,ptr f 0),(3,ptr u 0),(45,tb (c.2.2.1==0))] [] o ?_
  obtain⟨V,e,h⟩:=aj h;rw[e]
  refine aH 5 [(1,ptr f 0),(50,tb (V&&(eqD W73 c.2.2.2.1 z32)))] [Res.var u 26 W73 z32,Res.var f 52 Y52 c] (?_) ?_
  ·clear h
   cases V
   ·exact zA o<|ap () o o
   refine zm 1 o<|al dl o ?_
   refine yl 1 f3 bB o o o tr o<|al dl o ?_
   refine yl 0 .here bB o o o tr o<|al dl o ?_
   refine y (s6 20 o o o o bB o uW uX) o ?_
   exact zA o<|ap () o o
  refine q 1 [(1,ptr f 0),(51,tb (V&&(eqD W73 c.2.2.2.1 z32)))] [] o ?_
  obtain⟨H,e,h⟩:=aj h;rw[e]
  refine aH 5 [(56,tb (H&&(decide ((List.length c.2.2.2.2.1:Int)≤64))))] [Res.var u 26 W73 z32,Res.var f 52 Y52 c] (?_) ?_
  ·clear h
   cases H
   ·exact zA o<|ap () o o
   refine zm 1 o<|al dl o ?_
   exact yl 1 f4 ty9 o o o tr o<|zA o<|ap () o o
  refine zE o<|zB<|zT ?_
  cases h
  exact ax o (.tmp o)
 refine zk<|zi<|zt<|zU 1 o<|zf ?_
 cases h
 exact ax o (.tmp o)
theorem jD(f u r)(h:cO f u=some r):bw PP 144 [.one (.int .u64) f,ti u] (ts r):=by
 unfold cO at h
 refine enter Tryz.func144 o 24 o o λF=>?_
 refine zU 1 o<|zz<|q 1 [(0,.one (.int .u64) f),(1,ti u),(5,.one W69 (.slice none 0 0))] [] o<|bH (.slice none 0 0) o 5 (.int .u8) ?_
 refine za<|jK h (γ:=Value) (λM g3=>[(5,.one W69 g3)]) (λM g3=>[Res.own g3 5 (.int .u8) M]) (λW h=>?_) λM g3 h=>?_
 ·refine zu<|p 3 [0,5,6] o ?_
  obtain⟨C,e,h⟩:=aj h;rw[e]
  refine za<|zb<|ai [0,5,6] o<|bl (γ:=Value) (λ(c:Int×List (Int)) g9=>[(0,.one (.int .u64) f),(5,.one W69 g9),(6,ti c.1)]) (λ(c:Int×List (Int)) g9=>[Res.own g9 5 (.int .u8) c.2]) (eY f W) (C,[]) (.slice none 0 0) h o o ?_
  clear h
  intro V c g9 h
  cases V with
  |zero=>cases h
  |succ V=>
  simp only[eY]at h
  refine zs<|zW o<|rI h o (λhc h=>?_) λhc h=>?_
  ·refine zk<|zt<|zs<|zb<|zr<|zm 7 o<|bC (B:=1) af o el5 o o o (.cons o .nil) o λG=>?_
   refine iE h λhc h=>aW (B:=1) af 1 o o (bM 0 o o) o el5 o o hc o λR=>?_
   refine pk [1] o<|zN o<|zi<|zt<|zr<|q 3 [(5,.one W69 R),(6,ti (wrap .i64 (c.1 - 1)))] [0] o ?_
   obtain⟨H,e,h⟩:=aj h;rw[e]
   exact za<|aY (H,(c.2++[(wrap .u8 (ca .u64 f (wrap .u64 (8*(wrap .u64 c.1)))))])) R (Nat.lt_succ_self _) h o o
  exact zx<|ze<|ze<|zq<|zt<|ah c.2 g9 h o o
 refine zU 1 o<|y (nN af 0 o o o o o) o ?_
 refine zE o ?_
 cases h
 exact ax o (.tmp o)
theorem tM(f r)(h:jm f=some r):bw PP 98 [.one Y52 f] (.tup [⟨.str,r.1⟩,⟨(.int .i64),r.2⟩]):=by
 unfold jm at h
 refine enter Tryz.func98 o 49 o o λF=>?_
 refine zu<|bI o o λc=>zA o<|zs<|zu<|yl 0 .here br o o o tr o<|cB h λZ C h=>au (om _ _ C) kr o o<|zA o<|rI h o (λhc h=>zU 2 o<|zf<|zT<|by cases h;exact aC (rs:=[.tmp 2,.tmp 3]) o (.cons (.tmp o) (.cons (.tmp o) (.nil))) o (λ_ vs g=>aG vs g) (λ_ _ _=>List.nil_sublist _)) λhc h=>?_
 refine zk<|zt<|zs<|ef kr kr ?_
 refine ay af 1 [1,8] (E':=[(1,ptr c 0),(8,ptr c 0)]) o ?_
 refine q_y (aN 0 f0 o o o (av aa) ty3) o ?_
 refine ay af 1 [1,10] (E':=[(1,ptr c 0),(10,.one (.int .u64) (wrap .u64 f.1))]) o ?_
 refine cB h λM H h=>iu (jD (wrap .u64 f.1) 1 _ H) kr o o o ?_
 refine ay af 1 [1,11,12] (E':=[(1,ptr c 0),(11,ts M),(12,ptr c 1)]) o ?_
 refine q_y (aN 0 f1 o o o (ab (av aa)) ty2) o ?_
 refine ay af 1 [1,11,14] (E':=[(1,ptr c 0),(11,ts M),(14,.one (.int .u64) (wrap .u64 f.2.1))]) o ?_
 refine cB h λG N h=>iu (jD (wrap .u64 f.2.1) 2 _ N) kr o o o ?_
 refine iE h λhc h=>q_y (ij o o hc) o ?_
 refine ay af 1 [1,4] (E':=[(1,ptr c 0),(4,ts (M++G))]) o ?_
 obtain⟨u,e,h⟩:=aj h;rw[e]
 refine eK ?_
 refine zt<|bD h (λV=>[(4,ts V)]) (λV=>[Res.var c 52 Y52 f]) (λk7 h=>?_) λV h=>?_
 ·refine zU 1 o<|yl 0 f0 ty3 o o o tr o<|za<|zb<|zW o<|rI h o (λhc h=>?_) λhc h=>?_
  ·refine ef kr kr ?_
   refine ay af 2 [1,31,32] (E':=[(1,ptr c 0),(31,ts u),(32,ptr c 2)]) o ?_
   refine q_y (aN 0 f2 o o o (ab (ab (av aa))) ty2) o ?_
   refine ay af 1 [1,31,34] (E':=[(1,ptr c 0),(31,ts u),(34,.one (.int .u64) (wrap .u64 f.2.2.1))]) o ?_
   refine cB h λR J h=>iu (jD (wrap .u64 f.2.2.1) 8 _ J) kr o o o ?_
   refine iE h λhc h=>q_y (ij o o hc) o ?_
   refine ay af 1 [36,37] (E':=[(36,ts (u++R)),(37,ptr c 3)]) o ?_
   refine q_y (mi o nl o ty5) o ?_
   refine q_y (qX af 0 f3 o o o (ab (ab (ab (av aa)))) o o o o) o ?_
   refine iE h λhc h=>q_y (ij o o hc) o ?_
   refine ay af 1 [4] (E':=[(4,ts ((u++R)++f.2.2.2.1))]) o ?_
   obtain⟨d,e,h⟩:=aj h;rw[e]
   refine eK ?_
   exact zi<|zt<|ah d () h o o
  refine zW o<|rI h o (λhc h=>?_) λhc h=>?_
  ·refine zr<|zm 2 o<|y (mi o nl o ty5) o ?_
   refine y (qX af 0 f3 o o o (ab (ab (ab (av aa)))) o o o o) o ?_
   refine iE h λhc h=>y (ij o o hc) o ?_
   refine q 1 [(4,ts (u++f.2.2.2.1))] [] o ?_
   obtain⟨m,e,h⟩:=aj h;rw[e]
   exact zn<|zi<|zt<|ah m () h o o
  refine ef kr kr ?_
  refine ay af 2 [1,19,20] (E':=[(1,ptr c 0),(19,ts u),(20,ptr c 35)]) o ?_
  refine q_y (aN 0 f4 o o o (ab (ab (ab (ab (av aa))))) ty9) o ?_
  refine ay af 2 [1,19,23] (E':=[(1,ptr c 0),(19,ts u),(23,.one (.int .u64) (wrap .u64 (List.length f.2.2.2.2.1:Int)))]) o ?_
  refine cB h λW O h=>iu (jD (wrap .u64 (List.length f.2.2.2.2.1:Int)) 2 _ O) kr o o o ?_
  refine iE h λhc h=>q_y (ij o o hc) o ?_
  refine ay af 1 [25,26] (E':=[(25,ts (u++W)),(26,ptr c 35)]) o ?_
  refine q_y (aN 0 f4 o o o (ab (ab (ab (ab (av aa))))) ty9) o ?_
  refine iE h λhc h=>q_y (ij o o hc) o ?_
  refine ay af 1 [4] (E':=[(4,ts ((u++W)++f.2.2.2.2.1))]) o ?_
  obtain⟨w,e,h⟩:=aj h;rw[e]
  refine eK ?_
  exact zi<|zt<|ah w () h o o
 refine zU 3 o<|zf ?_
 cases h
 exact aC (rs:=[.tmp 2,.tmp 3]) o (.cons (.tmp o) (.cons (.tmp o) (.nil))) o (λ_ vs g=>aG vs g) (λ_ _ _=>List.nil_sublist _)
theorem mW(R:Value)(W M r)(h:gu W M=some r):Fn PP 40 [.one W69 R,.one W84 M] [Res.own R 5 (.int .u8) W] (λv=> .tup [⟨.raw (.slice none 0 0),aK v 0⟩,⟨.bool,r.2⟩]) (λv=>[Res.own (aK v 0) 5 (.int .u8) r.1]):=by
 unfold gu at h
 refine enter Tryz.func40 o 36 o o λF=>?_
 refine zW o<|zs<|zW o<|rI h o (λhc h=>?_) λhc h=>?_
 ·refine zU 2 o<|zf<|zT<|bH (.slice none 0 0) o 5 (.int .u8) ?_
  cases h
  exact aC (rs:=[.tmp 4,.tmp 5]) o (.cons (.tmp o) (.cons (.tmp o) (.nil))) o (λ_ vs g=>by cases g with|cons c g=>cases g with|cons f g=>cases g;exact⟨_,o,.cons (bg c) (.cons f (.nil))⟩) (λ_ vs g=>by cases g with|cons c g=>cases g with|cons f g=>cases g;rw[bP c];exact(.cons_cons _ (.cons _ .slnil)))
 refine zy<|zm 3 o<|cB h λN J h=>rc [0] (aS _ _ _ _ _ J) kr o o o λC=>q 1 [(0,.one W69 C),(1,.one W84 M)] [] o<|za<|jK h (γ:=Value) (λV g7=>[(0,.one W69 g7)]) (λV g7=>[Res.own g7 5 (.int .u8) V]) (λd h=>?_) λV g7 h=>?_
 ·refine zW o<|zb<|ai [0,1,6] o<|bl (γ:=Value) (λ(u:Int×List (Int)) g12=>[(0,.one W69 g12),(1,.one W84 M),(6,ti u.1)]) (λ(u:Int×List (Int)) g12=>[Res.own g12 5 (.int .u8) u.2]) (dW M d) (0,N) C h o o ?_
  clear h
  intro H u g12 h
  cases H with
  |zero=>cases h
  |succ H=>
  simp only[dW]at h
  refine zs<|zW o<|rI h o (λhc h=>?_) λhc h=>?_
  ·refine zk<|zt<|zs<|zb<|zU 2 o<|iE h λhc h=>y (eo af o o hc.1 hc.2 o br) o ?_
   refine y (de o br) o ?_
   refine cB h λm O h=>au (tM _ _ O) kr o o<|zA o<|zs<|zW o<|rI h o (λhc h=>?_) λhc h=>?_
   ·refine zU 2 o<|zf<|zT<|zB<|zT<|zT<|zB<|zT<|bH (.slice none 0 0) o 5 (.int .u8) ?_
    cases h
    exact aC (rs:=[.tmp 4,.tmp 5]) o (.cons (.tmp o) (.cons (.tmp o) (.nil))) o (λ_ vs g=>by cases g with|cons c g=>cases g with|cons f g=>cases g;exact⟨_,o,.cons (bg c) (.cons f (.nil))⟩) (λ_ vs g=>by cases g with|cons c g=>cases g with|cons f g=>cases g;rw[bP c];exact(.cons_cons _ (.cons _ .slnil)))
   refine zk<|zt<|zr<|zm 2 o<|iE h λhc h=>aW (B:=1) af 0 o o (wZ o) o el5 o o hc o λG=>?_
   refine zN o<|zi<|zt<|zr<|q 3 [(0,.one W69 G),(6,ti (wrap .i64 (u.1+1)))] [1] o ?_
   obtain⟨w,e,h⟩:=aj h;rw[e]
   exact za<|aY (w,(u.2++m.1)) G (Nat.lt_succ_self _) h o o
  exact zx<|ze<|ze<|zq<|zt<|ah u.2 g12 h o o
 refine zU 3 o<|zf ?_
 cases h
 exact aC (rs:=[.tmp 4,.tmp 5]) o (.cons (.tmp o) (.cons (.tmp o) (.nil))) o (λ_ vs g=>by cases g with|cons c g=>cases g with|cons f g=>cases g;exact⟨_,o,.cons (bg c) (.cons f (.nil))⟩) (λ_ vs g=>by cases g with|cons c g=>cases g with|cons f g=>cases g;rw[bP c];exact(.cons_cons _ .slnil))
theorem cV(c:Value)(f u r)(h:gI f u=some r):Fn PP 42 [.one W69 c,tb u] [Res.own c 5 (.int .u8) f] (λv=> .one W69 v) (λv=>[Res.own v 5 (.int .u8) r]):=by
 unfold gI at h
 refine enter Tryz.func42 o 12 o o λF=>?_
 refine zW o<|zs<|zW o<|rI h o (λhc h=>?_) λhc h=>?_
 ·refine zU 1 o<|bC (B:=1) af o el5 o o o (.cons o .nil) o λM=>?_
  refine iE h λhc h=>aW (B:=1) af 1 o o (bM 0 o o) o el5 o o hc o λV=>?_
  refine pk [1] o<|zE o<|zT ?_
  cases h
  exact aT o (.tmp o) (λ_ _ g=>holds_raw.2 ⟨rfl,by rw[(holds_raw.1 g).1];exact(holds_raw.1 g).2⟩) (λ_ _ g=>by obtain⟨rfl,_⟩:=holds_raw.1 g;exact(.cons_cons _ .slnil))
 refine zy<|zm 1 o<|bC (B:=1) af o el5 o o o (.cons o .nil) o λR=>?_
 refine iE h λhc h=>aW (B:=1) af 1 o o (bM 0 o o) o el5 o o hc o λW=>?_
 refine pk [1] o<|zE o ?_
 cases h
 exact aT o (.tmp o) (λ_ _ g=>holds_raw.2 ⟨rfl,by rw[(holds_raw.1 g).1];exact(holds_raw.1 g).2⟩) (λ_ _ g=>by obtain⟨rfl,_⟩:=holds_raw.1 g;exact(.cons_cons _ .slnil))
theorem tN(m:Value)(J V r)(h:ie J V=some r):Fn PP 43 [.one W69 m,.one W85 V] [Res.own m 5 (.int .u8) J] (λv=> .tup [⟨.raw (.slice none 0 0),aK v 0⟩,⟨.bool,r.2⟩]) (λv=>[Res.own (aK v 0) 5 (.int .u8) r.1]):=by
 unfold ie at h
 refine enter Tryz.func43 o 50 o o λF=>?_
 refine zW o<|zs<|zW o<|rI h o (λhc h=>?_) λhc h=>?_
 ·refine zU 2 o<|zf<|zT<|bH (.slice none 0 0) o 5 (.int .u8) ?_
  cases h
  exact aC (rs:=[.tmp 4,.tmp 5]) o (.cons (.tmp o) (.cons (.tmp o) (.nil))) o (λ_ vs g=>by cases g with|cons R g=>cases g with|cons G g=>cases g;exact⟨_,o,.cons (bg R) (.cons G (.nil))⟩) (λ_ vs g=>by cases g with|cons R g=>cases g with|cons G g=>cases g;rw[bP R];exact(.cons_cons _ (.cons _ .slnil)))
 refine zy<|zm 4 o<|bC (B:=1) af o el5 o o o (.cons o .nil) o λv3=>?_
 refine iE h λhc h=>aW (B:=1) af 1 o o (bM 0 o o) o el5 o o hc o λO=>?_
 refine pk [1] o<|q 1 [(0,.one W69 O),(1,.one W85 V)] [] o<|za<|jK h (γ:=Value) (λd g7=>[(0,.one W69 g7)]) (λd g7=>[Res.own g7 5 (.int .u8) d]) (λk5 h=>?_) λd g7 h=>?_
 ·refine zW o<|zb<|ai [0,1,6] o<|bl (γ:=Value) (λ(W:Int×List (Int)) g12=>[(0,.one W69 g12),(1,.one W85 V),(6,ti W.1)]) (λ(W:Int×List (Int)) g12=>[Res.own g12 5 (.int .u8) W.2]) (eZ V k5) (0,(J++[(wrap .u8 (List.length V:Int))])) O h o o ?_
  clear h
  intro w W g12 h
  cases w with
  |zero=>cases h
  |succ w=>
  simp only[eZ]at h
  refine zs<|zW o<|rI h o (λhc h=>?_) λhc h=>?_
  ·refine zk<|zt<|zs<|zb<|zs<|zU 2 o<|iE h λhc h=>y (eo af o o hc.1 hc.2 o jg) o ?_
   refine y (lw af f0 o o o o (av aa)) o ?_
   refine y (de o ty2) o ?_
   refine cB h λa4 a2 h=>au (cE _ _ _ a2) kr o o<|zA o<|rI h o (λhc h=>?_) λhc h=>?_
   ·refine zU 2 o<|zf<|zT<|zB<|zT<|zT<|zB<|zT<|bH (.slice none 0 0) o 5 (.int .u8) ?_
    cases h
    exact aC (rs:=[.tmp 4,.tmp 5]) o (.cons (.tmp o) (.cons (.tmp o) (.nil))) o (λ_ vs g=>by cases g with|cons R g=>cases g with|cons G g=>cases g;exact⟨_,o,.cons (bg R) (.cons G (.nil))⟩) (λ_ vs g=>by cases g with|cons R g=>cases g with|cons G g=>cases g;rw[bP R];exact(.cons_cons _ (.cons _ .slnil)))
   refine zk<|zt<|jK h (γ:=Value) (λN g17=>[(0,.one W69 g17),(1,.one W85 V),(6,ti W.1)]) (λN g17=>[Res.own g17 5 (.int .u8) N]) (λa5 h=>?_) λN g17 h=>?_
   ·refine dA kr<|zF 3 [0,1,2] kr o o<|iE h λhc h=>ej 3 (.ref Y56 (List.getD V (Int.toNat W.1) (0,z32,false,()))) o kr (eo af o o hc.1 hc.2 o jg)<|zF 2 [7,8] kr o o<|iE h λhc h=>ej 9 (.ref Y56 (List.getD V (Int.toNat W.1) (0,z32,false,()))) o kr (eo af o o hc.1 hc.2 o jg) ?_
    refine bv (i:=4) (j:=10) kr o o ?_ ?_
    ·refine y (lw af f2 o o o o (ab (ab (av aa)))) o ?_
     refine zL [0,1,6,29,33,38] o ?_
     refine bv (i:=5) (j:=10) kr o o ?_ ?_
     ·refine y (de o ty4) o ?_
      refine zL [0,1,6,29,34,38] o ?_
      refine bv (i:=6) (j:=10) kr o o ?_ ?_
      ·refine cB h λC c h=>rc [0] (cV _ _ _ _ c) kr o o o λH=>zL [1,6,35,38] o<|ae 10 kr o<|y (lw af f0 o o o o (av aa)) o ?_
       refine zL [1,6,35,39] o<|ae 11 kr o<|y (de o ty2) o ?_
       exact zL [1,6,35,40] o<|ae 12 kr o<|cB h λf u h=>rc [0] (aS _ _ _ _ _ u) kr o o o λM=>zL [1,6,41] o<|zF 1 [13] kr o o<|aJ kr<|zt<|ah f M h o o
      refine y (lw af f0 o o o o (av aa)) o ?_
      refine zL [0,1,6,29,34,39] o ?_
      refine bv (i:=6) (j:=11) kr o o ?_ ?_
      ·refine cB h λC c h=>rc [0] (cV _ _ _ _ c) kr o o o λH=>zL [1,6,35,39] o<|ae 11 kr o<|y (de o ty2) o ?_
       exact zL [1,6,35,40] o<|ae 12 kr o<|cB h λf u h=>rc [0] (aS _ _ _ _ _ u) kr o o o λM=>zL [1,6,41] o<|zF 1 [13] kr o o<|aJ kr<|zt<|ah f M h o o
      refine y (de o ty2) o ?_
      exact zL [0,1,6,29,34,40] o<|ae 6 kr o<|cB h λC c h=>rc [0] (cV _ _ _ _ c) kr o o o λH=>zL [1,6,35,40] o<|ae 12 kr o<|cB h λf u h=>rc [0] (aS _ _ _ _ _ u) kr o o o λM=>zL [1,6,41] o<|zF 1 [13] kr o o<|aJ kr<|zt<|ah f M h o o
     refine y (lw af f0 o o o o (av aa)) o ?_
     refine zL [0,1,6,29,33,39] o ?_
     refine bv (i:=5) (j:=11) kr o o ?_ ?_
     ·refine y (de o ty4) o ?_
      refine zL [0,1,6,29,34,39] o ?_
      refine bv (i:=6) (j:=11) kr o o ?_ ?_
      ·refine cB h λC c h=>rc [0] (cV _ _ _ _ c) kr o o o λH=>zL [1,6,35,39] o<|ae 11 kr o<|y (de o ty2) o ?_
       exact zL [1,6,35,40] o<|ae 12 kr o<|cB h λf u h=>rc [0] (aS _ _ _ _ _ u) kr o o o λM=>zL [1,6,41] o<|zF 1 [13] kr o o<|aJ kr<|zt<|ah f M h o o
      refine y (de o ty2) o ?_
      exact zL [0,1,6,29,34,40] o<|ae 6 kr o<|cB h λC c h=>rc [0] (cV _ _ _ _ c) kr o o o λH=>zL [1,6,35,40] o<|ae 12 kr o<|cB h λf u h=>rc [0] (aS _ _ _ _ _ u) kr o o o λM=>zL [1,6,41] o<|zF 1 [13] kr o o<|aJ kr<|zt<|ah f M h o o
     refine y (de o ty2) o ?_
     refine zL [0,1,6,29,33,40] o<|ae 5 kr o<|y (de o ty4) o ?_
     exact zL [0,1,6,29,34,40] o<|ae 6 kr o<|cB h λC c h=>rc [0] (cV _ _ _ _ c) kr o o o λH=>zL [1,6,35,40] o<|ae 12 kr o<|cB h λf u h=>rc [0] (aS _ _ _ _ _ u) kr o o o λM=>zL [1,6,41] o<|zF 1 [13] kr o o<|aJ kr<|zt<|ah f M h o o
    refine y (lw af f0 o o o o (av aa)) o ?_
    refine zL [0,1,6,29,32,39] o ?_
    refine bv (i:=4) (j:=11) kr o o ?_ ?_
    ·refine y (lw af f2 o o o o (ab (ab (av aa)))) o ?_
     refine zL [0,1,6,29,33,39] o ?_
     refine bv (i:=5) (j:=11) kr o o ?_ ?_
     ·refine y (de o ty4) o ?_
      refine zL [0,1,6,29,34,39] o ?_
      refine bv (i:=6) (j:=11) kr o o ?_ ?_
      ·refine cB h λC c h=>rc [0] (cV _ _ _ _ c) kr o o o λH=>zL [1,6,35,39] o<|ae 11 kr o<|y (de o ty2) o ?_
       exact zL [1,6,35,40] o<|ae 12 kr o<|cB h λf u h=>rc [0] (aS _ _ _ _ _ u) kr o o o λM=>zL [1,6,41] o<|zF 1 [13] kr o o<|aJ kr<|zt<|ah f M h o o
      refine y (de o ty2) o ?_
      exact zL [0,1,6,29,34,40] o<|ae 6 kr o<|cB h λC c h=>rc [0] (cV _ _ _ _ c) kr o o o λH=>zL [1,6,35,40] o<|ae 12 kr o<|cB h λf u h=>rc [0] (aS _ _ _ _ _ u) kr o o o λM=>zL [1,6,41] o<|zF 1 [13] kr o o<|aJ kr<|zt<|ah f M h o o
     refine y (de o ty2) o ?_
     refine zL [0,1,6,29,33,40] o<|ae 5 kr o<|y (de o ty4) o ?_
     exact zL [0,1,6,29,34,40] o<|ae 6 kr o<|cB h λC c h=>rc [0] (cV _ _ _ _ c) kr o o o λH=>zL [1,6,35,40] o<|ae 12 kr o<|cB h λf u h=>rc [0] (aS _ _ _ _ _ u) kr o o o λM=>zL [1,6,41] o<|zF 1 [13] kr o o<|aJ kr<|zt<|ah f M h o o
    refine y (de o ty2) o ?_
    refine zL [0,1,6,29,32,40] o<|ae 4 kr o<|y (lw af f2 o o o o (ab (ab (av aa)))) o ?_
    refine zL [0,1,6,29,33,40] o<|ae 5 kr o<|y (de o ty4) o ?_
    exact zL [0,1,6,29,34,40] o<|ae 6 kr o<|cB h λC c h=>rc [0] (cV _ _ _ _ c) kr o o o λH=>zL [1,6,35,40] o<|ae 12 kr o<|cB h λf u h=>rc [0] (aS _ _ _ _ _ u) kr o o o λM=>zL [1,6,41] o<|zF 1 [13] kr o o<|aJ kr<|zt<|ah f M h o o
   refine zr<|zm 3 o<|iE h λhc h=>y (eo af o o hc.1 hc.2 o jg) o ?_
   refine y (lw af f1 o o o o (ab (av aa))) o ?_
   refine y (Fv o nl o o ty5) o ?_
   refine iE h λhc h=>aW (B:=1) af 0 o o (py o) o el5 o o hc o λZ=>?_
   refine zN o<|zi<|zt<|zr<|q 3 [(0,.one W69 Z),(1,.one W85 V),(6,ti (wrap .i64 (W.1+1)))] [] o ?_
   obtain⟨a3,e,h⟩:=aj h;rw[e]
   exact za<|aY (a3,(N++((List.getD V (Int.toNat W.1) (0,z32,false,())).2.1))) Z (Nat.lt_succ_self _) h o o
  exact zx<|ze<|ze<|zq<|zt<|ah W.2 g12 h o o
 refine zU 3 o<|zf ?_
 cases h
 exact aC (rs:=[.tmp 4,.tmp 5]) o (.cons (.tmp o) (.cons (.tmp o) (.nil))) o (λ_ vs g=>by cases g with|cons R g=>cases g with|cons G g=>cases g;exact⟨_,o,.cons (bg R) (.cons G (.nil))⟩) (λ_ vs g=>by cases g with|cons R g=>cases g with|cons G g=>cases g;rw[bP R];exact(.cons_cons _ .slnil))
theorem oq(m c r)(h:fB m c=some r):bw PP 8 [ti m,.one Y30 c] (.tup [⟨.str,r.1⟩,⟨(.int .i64),r.2⟩]):=by
 unfold fB at h
 refine enter Tryz.func8 o 103 o o λF=>?_
 refine zu<|bI o o λf=>zA o<|zs<|zU 1 o<|yl 0 .here bR o o o tr o<|cB h λr4 a5 h=>au (u0 _ _ _ a5) kr o o<|zA o<|rI h o (λhc h=>zU 2 o<|zf<|zT<|by cases h;exact aC (rs:=[.tmp 4,.tmp 5]) o (.cons (.tmp o) (.cons (.tmp o) (.nil))) o (λ_ vs g=>aG vs g) (λ_ _ _=>List.nil_sublist _)) λhc h=>?_
 refine zk<|zt<|jK h (γ:=Value) (λN g7=>[(3,ptr f 0),(6,.one W69 g7)]) (λN g7=>[Res.own g7 5 (.int .u8) N,Res.var f 30 Y30 c]) (λk5 h=>?_) λN g7 h=>?_
 ·refine gc (S:=bG [aZ f 30 Y30 c]) kr ?_
  refine zH 2 [0,2] (ag (aq 0 o) ak) kr o o λs=>bq 3 (ti c.1) s o kr (cp (S:=λw=>bG [aZ f 30 Y30 c] w) (bz 0 o) 0 f0 o o o o (av aa) ty3) λs=>zH 1 [4] s kr o o λs=>?_
  refine Gj (i:=1) (j:=5) kr o o ?_ ?_
  ·refine bH (.slice none 0 0) o 5 (.int .u8) ?_
   refine cB h λa6 a7 h=>rc [0] (aS _ _ _ _ _ a7) kr o o o λc9=>za<|bi (ag (aq 1 o) ak) ?_
   refine ai [3,15,18] o<|aF 5 kr o<|bC (B:=1) af o el5 o o o (.cons o .nil) o λa8=>?_
   refine za<|bi (ag (aq 2 o) ak) ?_
   refine ai [3,15,19] o<|aF 6 kr o<|iE h λhc h=>aW (B:=1) af 1 o o (bM 0 o o) o el5 o o hc o λJ=>?_
   refine pk [1,1] o<|za<|bi (ag (aq 1 o) ak) ?_
   exact ai [3,20] o<|zH 1 [7] (ag (aq 1 o) ak) kr o o λs=>dU kr<|zt<|ah (a6++[(wrap .u8 c.1)]) J h o o
  refine bC (B:=1) af o el5 o o o (.cons o .nil) o λd0=>?_
  refine za<|bi (ag (aq 1 o) ak) ?_
  refine ai [3,14,19] o<|aF 1 kr o<|bH (.slice none 0 0) o 5 (.int .u8) ?_
  refine cB h λa9 b0 h=>rc [0] (aS _ _ _ _ _ b0) kr o o o λa8=>za<|bi (ag (aq 2 o) ak) ?_
  refine ai [3,15,19] o<|aF 6 kr o<|iE h λhc h=>aW (B:=1) af 0 o o (bM 1 o o) o el5 o o hc o λJ=>?_
  refine pk [0,1] o<|za<|bi (ag (aq 1 o) ak) ?_
  exact ai [3,20] o<|zH 1 [7] (ag (aq 1 o) ak) kr o o λs=>dU kr<|zt<|ah (a9++[(wrap .u8 c.1)]) J h o o
 refine zs<|gc (S:=bG [aZ f 30 Y30 c]) kr ?_
 refine zH 2 [0,1] (ag (aq 1 o) ak) kr o o λs=>bq 2 (ti c.2.1) s o kr (cp (S:=λw=>bG [aZ f 30 Y30 c] w) (bz 0 o) 1 f1 o o o o (ab (av aa)) ty2) λs=>zH 1 [4] s kr o o λs=>bq 5 (ti c.2.2.1) s o kr (cp (S:=λw=>bG [aZ f 30 Y30 c] w) (bz 0 o) 1 f2 o o o o (ab (ab (av aa))) ty2) λs=>zH 1 [7] s kr o o λs=>bq 8 (ti c.2.2.2.1) s o kr (cp (S:=λw=>bG [aZ f 30 Y30 c] w) (bz 0 o) 1 f3 o o o o (ab (ab (ab (av aa)))) ty2) λs=>aF 3 kr o<|cB h λr8 b1 h=>rc [0] (aS _ _ _ _ _ b1) kr o o o λv9=>za<|bi (ag (aq 1 o) ak) ?_
 refine ai [3,24,26,29] o<|aF 6 kr o<|cB h λd1 b2 h=>rc [0] (aS _ _ _ _ _ b2) kr o o o λd2=>za<|bi (ag (aq 1 o) ak) ?_
 refine ai [3,27,29] o<|aF 9 kr o<|cB h λd3 b4 h=>rc [0] (aS _ _ _ _ _ b4) kr o o o λd4=>za<|bi (ag (aq 1 o) ak) ?_
 refine ai [3,30] o<|zH 1 [10] (ag (aq 1 o) ak) kr o o λs=>dU kr<|zt<|zU 2 o<|yl 1 f4 jA o o o tr o<|cB h λd5 b5 h=>rc [0] (mW _ _ _ _ b5) kr o o o λd6=>zA o<|zs<|zW o<|rI h o (λhc h=>zU 2 o<|zf<|zT<|by cases h;exact aC (rs:=[.tmp 4,.tmp 5]) o (.cons (.tmp o) (.cons (.tmp o) (.nil))) o (λ_ vs g=>aG vs g) (λ_ _ _=>List.nil_sublist _)) λhc h=>?_
 refine zy<|zm 2 o<|yl 1 f5 jA o o o tr o<|cB h λd7 b6 h=>rc [0] (mW _ _ _ _ b6) kr o o o λd8=>zA o<|zs<|zW o<|rI h o (λhc h=>zU 2 o<|zf<|zT<|by cases h;exact aC (rs:=[.tmp 4,.tmp 5]) o (.cons (.tmp o) (.cons (.tmp o) (.nil))) o (λ_ vs g=>aG vs g) (λ_ _ _=>List.nil_sublist _)) λhc h=>zk<|zt<|zs<|gc (S:=bG [aZ f 30 Y30 c]) kr ?_
 refine zH 2 [0,1] (ag (aq 1 o) ak) kr o o λs=>bq 2 (ti c.2.2.2.2.2.2.1) s o kr (cp (S:=λw=>bG [aZ f 30 Y30 c] w) (bz 0 o) 1 f6 o o o o (ab (ab (ab (ab (ab (ab (av aa))))))) ty2) λs=>zH 1 [4] s kr o o λs=>bq 5 (ti c.2.2.2.2.2.2.2.1) s o kr (cp (S:=λw=>bG [aZ f 30 Y30 c] w) (bz 0 o) 1 f7 o o o o (ab (ab (ab (ab (ab (ab (ab (av aa)))))))) ty2) λs=>zH 1 [7] s kr o o λs=>bq 8 (ti c.2.2.2.2.2.2.2.2.1) s o kr (cp (S:=λw=>bG [aZ f 30 Y30 c] w) (bz 0 o) 1 f8 o o o o (ab (ab (ab (ab (ab (ab (ab (ab (av aa))))))))) ty2) λs=>aF 3 kr o<|cB h λd9 b7 h=>rc [0] (aS _ _ _ _ _ b7) kr o o o λe0=>za<|bi (ag (aq 1 o) ak) ?_
 refine ai [3,52,54,57] o<|aF 6 kr o<|cB h λe1 b8 h=>rc [0] (aS _ _ _ _ _ b8) kr o o o λe2=>za<|bi (ag (aq 1 o) ak) ?_
 refine ai [3,55,57] o<|aF 9 kr o<|cB h λb9 c0 h=>rc [0] (aS _ _ _ _ _ c0) kr o o o λc1=>za<|bi (ag (aq 1 o) ak) ?_
 refine ai [3,58] o<|zH 1 [10] (ag (aq 1 o) ak) kr o o λs=>dU kr<|zt<|zu<|yl 1 .here bR o o o tr o<|cB h λH c2 h=>au (nF _ _ c2) kr o o<|aB (t:=W74) o Ca o λM=>st 0 .here B9 o o o o tr<|za<|jK h (γ:=Value) (λd g28=>[(3,ptr f 0),(6,.one W69 g28)]) (λd g28=>[Res.var M 95 W74 H,Res.own g28 5 (.int .u8) d,Res.var f 30 Y30 c]) (λc3 h=>?_) λd g28 h=>?_
 ·refine zW o<|zb<|ai [3,6,8,9] o<|bl (γ:=Value) (λ(u:Int×List (Int)) V=>[(3,ptr f 0),(6,.one W69 V),(8,ptr M 0),(9,ti u.1)]) (λ(u:Int×List (Int)) V=>[Res.var M 95 W74 H,Res.own V 5 (.int .u8) u.2,Res.var f 30 Y30 c]) (fa H c3) (0,b9) c1 h o o ?_
  clear h
  intro O u V h
  cases O with
  |zero=>cases h
  |succ O=>
  simp only[fa]at h
  refine zs<|zW o<|rI h o (λhc h=>?_) λhc h=>?_
  ·refine zk<|zt<|zs<|zb<|zr<|zm 2 o<|iE h λhc h=>y (bO o o hc.1 hc.2 GD ty3) o ?_
   refine y (aN 0 (.elem (Int.toNat u.1) .here) o o pof (aw (by omega) aa) ty3) o ?_
   refine cB h λc4 c5 h=>rc [1] (aS _ _ _ _ _ c5) kr o o o λZ=>zN o<|zi<|zt<|zr<|q 3 [(3,ptr f 0),(6,.one W69 Z),(8,ptr M 0),(9,ti (wrap .i64 (u.1+1)))] [] o ?_
   obtain⟨c6,e,h⟩:=aj h;rw[e]
   exact za<|pk [1,0,0] o<|aY (c6,c4) Z (Nat.lt_succ_self _) h o o
  exact zx<|ze<|ze<|zq<|zt<|ah u.2 V h o o
 refine zU 2 o<|yl 2 f12 ty4 o o o tr o<|cB h λe3 c7 h=>rc [1] (cV _ _ _ _ c7) kr o o o λe4=>zA o<|zs<|dA kr<|zF 2 [0,1] kr o o<|iE h λhc h=>ej 2 (ptr f (16+0*32)) o kr (bO o o hc.1 hc.2 tJ bB)<|ej 3 (.one W69 (.slice (some ⟨f,(16+0*32),none⟩) 32 32)) o kr (mi o nl o ty5)<|zF 1 [5] kr o o<|iE h λhc h=>ej 6 (ptr f (16+1*32)) o kr (bO o o hc.1 hc.2 tJ bB) ?_
 refine ej 7 (.one W69 (.slice (some ⟨f,(16+1*32),none⟩) 32 32)) o kr (mi o nl o ty5)<|zF 1 [9] kr o o<|ej 10 (.one W69 (.slice (some ⟨f,80,none⟩) 32 32)) o kr (mi o nl o ty5)<|ae 4 kr o<|iE h λhc h=>aW (B:=1) af 0 o o (xf 2 ((g13 (.fst (.elem 0 .here)))) o o pof (ab (ab (ab (ab (ab (ab (ab (ab (ab (ab (ab (ab (ab (av (aw (by omega) aa)))))))))))))))) o el5 o o hc o λe5=>?_
 refine zL [3,78,81,84] o<|ae 8 kr o<|iE h λhc h=>aW (B:=1) af 0 o o (xf 2 ((g13 (.fst (.elem 1 .here)))) o o pof (ab (ab (ab (ab (ab (ab (ab (ab (ab (ab (ab (ab (ab (av (aw (by omega) aa)))))))))))))))) o el5 o o hc o λe6=>?_
 refine nL o<|zL [3,82,84] o<|ae 11 kr o<|iE h λhc h=>aW (B:=1) af 0 o o (xf 2 f14 o o o (ab (ab (ab (ab (ab (ab (ab (ab (ab (ab (ab (ab (ab (ab (av aa)))))))))))))))) o el5 o o hc o λe7=>?_
 refine zL [3,85] o<|zF 1 [12] kr o o<|aJ kr<|zt<|zU 2 o<|yl 2 f15 qF o o o tr o<|cB h λe8 c8 h=>rc [0] (tN _ _ _ _ c8) kr o o o λe9=>zA o<|zs<|zW o<|rI h o (λhc h=>zU 2 o<|zf<|zT<|by cases h;exact aC (rs:=[.tmp 4,.tmp 5]) o (.cons (.tmp o) (.cons (.tmp o) (.nil))) o (λ_ vs g=>aG vs g) (λ_ _ _=>List.nil_sublist _)) λhc h=>?_
 refine zk<|zt<|bD h (λG=>[(4,ts G.1),(5,ti G.2)]) (λG=>[Res.var M 95 W74 H,Res.var f 30 Y30 c]) (λf9 h=>?_) λG h=>?_
 ·refine dA kr<|zF 3 [0,1,4] kr o o ?_
  refine bv (i:=2) (j:=5) kr o o ?_ ?_
  ·refine yl 2 f16 ty3 o o o tr o<|zL [95,97,99] o ?_
   refine bv (i:=3) (j:=5) kr o o ?_ ?_
   ·refine cB h λa2 R h=>rc [0] (aS _ _ _ _ _ R) kr o o o λa3=>zL [98,99] o<|ae 5 kr o<|yl 2 f17 ty2 o o o tr o<|zL [98,100] o<|ae 6 kr o<|cB h λW C h=>rc [0] (aS _ _ _ _ _ C) kr o o o λa4=>zL [101] o<|ae 7 kr o<|y (nN af 0 o o o o o) o ?_
    exact zL [102] o<|zF 2 [8,9] kr o o<|aJ kr<|zt<|pk [1,1] o<|ah (W,0) () h o o
   refine yl 2 f17 ty2 o o o tr o<|zL [95,97,100] o<|ae 3 kr o<|cB h λa2 R h=>rc [0] (aS _ _ _ _ _ R) kr o o o λa3=>zL [98,100] o<|ae 6 kr o<|cB h λW C h=>rc [0] (aS _ _ _ _ _ C) kr o o o λa4=>zL [101] o<|ae 7 kr o<|y (nN af 0 o o o o o) o ?_
   exact zL [102] o<|zF 2 [8,9] kr o o<|aJ kr<|zt<|pk [1,1] o<|ah (W,0) () h o o
  refine yl 2 f17 ty2 o o o tr o<|zL [95,96,100] o<|ae 2 kr o<|yl 2 f16 ty3 o o o tr o<|zL [95,97,100] o<|ae 3 kr o<|cB h λa2 R h=>rc [0] (aS _ _ _ _ _ R) kr o o o λa3=>zL [98,100] o<|ae 6 kr o<|cB h λW C h=>rc [0] (aS _ _ _ _ _ C) kr o o o λa4=>zL [101] o<|ae 7 kr o ?_
  refine y (nN af 0 o o o o o) o ?_
  exact zL [102] o<|zF 2 [8,9] kr o o<|aJ kr<|zt<|pk [1,1] o<|ah (W,0) () h o o
 refine zR ?_
 cases h
 exact aC (rs:=[.tmp 4,.tmp 5]) o (.cons (.tmp o) (.cons (.tmp o) (.nil))) o (λ_ vs g=>aG vs g) (λ_ _ _=>List.nil_sublist _)
theorem iG(c r)(h:dx c=some r):Fn PP 44 [ts c] [] (λv=>tp v) (λv=>[Res.cls dS v r]):=by
 unfold dx at h
 refine enter Tryz.func44 o 6 o o λF=>?_
 refine zU 1 o<|zZ 1 o<|y (bc o Hm o o (.cons f0 o o aa .nil)) o ?_
 refine bI o o λf=>zE o<|fH (x:=(c,0,())) ?_
 cases h
 exact aT o (.tmp o) (λ_ _ g=>holds_raw.2 ⟨rfl,by rw[(holds_raw.1 g).1];exact(holds_raw.1 g).2⟩) (λ_ _ g=>by obtain⟨rfl,_⟩:=holds_raw.1 g;exact(.cons_cons _ .slnil))
theorem mB(c:Nat)(f u r)(h:gk f u=some r):Fn PP 145 [ptr c 0,ti u] [Res.var c 171 W63 f] (λ_=> .tup []) (λ_=>[Res.var c 171 W63 r]):=by
 unfold gk at h
 refine enter Tryz.func145 o 11 o o λF=>?_
 refine zr<|zm 5 o<|st 0 f0 ty9 o o o o tr<|zm 2 o<|st 0 f1 fW o o o o tr<|nL o<|zn ?_
 cases h
 exact eN o (λ_=>aG [] .nil) ((.cons_cons _ .slnil))
theorem eH(f:Nat)(u c r)(h:cm u c=some r):Fn PP 100 [ptr f 0,ti c] [Res.var f 171 W63 u] (λ_=>ts r.1) (λ_=>[Res.var f 171 W63 r.2]):=by
 unfold cm at h
 refine enter Tryz.func100 o 36 o o λF=>?_
 refine zW o<|zs<|zU 3 o<|yl 0 f1 fW o o o tr o<|zA o<|rI h o (λhc h=>zU 1 o<|zf<|zT<|by cases h;exact aT o (.tmp o) (λ_ _ g=>g) (λ_ _ _=>(.cons_cons _ .slnil))) λhc h=>zk<|zt<|zs<|zU 3 o<|yl 0 f0 ty9 o o o tr o<|zA o<|rI h o (λhc h=>zU 1 o<|cB h λV M h=>rc [0] (mB _ _ _ _ M) kr o o o λ_=>zz<|zE o<|zT<|by cases h;exact aT o (.tmp o) (λ_ _ g=>g) (λ_ _ _=>(.cons_cons _ .slnil))) λhc h=>?_
 refine zy<|zm 3 o<|yl 0 f0 ty9 o o o tr o<|zm 1 o<|iE h λhc h=>y (gD (i:=(0:Int)) (j:=c) af o o o hc.1 hc.2.1 hc.2.2 o) o ?_
 refine q 1 [(0,ptr f 0),(1,ti c),(5,ts (List.drop 0 (List.take (Int.toNat c) u.1)))] [] o ?_
 obtain⟨R,e,h⟩:=aj h;rw[e]
 refine zZ 4 o<|yl 0 f0 ty9 o o o tr o<|zm 1 o<|iE h λhc h=>y (gD (i:=c) (j:=(List.length u.1:Int)) af o o o hc.1 hc.2.1 hc.2.2 o) o ?_
 refine zm 2 o<|st 0 f0 ty9 o o o o tr<|zz<|zE o ?_
 cases h
 exact bm o (.tmp o) (.cons_cons _ .slnil)
theorem rF(f r)(h:io f=some r):bw PP 99 [ts f] (.one (.int .u64) r):=by
 unfold io at h
 refine enter Tryz.func99 o 19 o o λF=>?_
 refine zU 1 o<|zz<|q 1 [(0,ts f),(3,.one (.int .u64) 0)] [] o<|za<|bD h (λu=>[(3,.one (.int .u64) u)]) (λu=>[]) (λV h=>?_) λu h=>?_
 ·refine zW o<|zb<|ai [0,3,6,7] o<|bl (γ:=Unit) (λ(c:Int×Int) _=>[(0,ts f),(3,.one (.int .u64) c.1),(6,ti (List.length f:Int)),(7,ti c.2)]) (λ(c:Int×Int) _=>[]) (dX f V) (0,0) () h o o ?_
  clear h
  intro M c gg h
  cases M with
  |zero=>cases h
  |succ M=>
  simp only[dX]at h
  refine zW o<|zs<|rI h o (λhc h=>?_) λhc h=>?_
  ·refine zk<|zt<|zs<|zb<|zW o<|zr<|zm 4 o<|iE h λhc h=>y (eA af o o hc.1 hc.2 o) o ?_
   refine q 3 [(3,.one (.int .u64) (ior .u64 (ja .u64 c.1 8) (wrap .u64 (List.getD f (Int.toNat c.2) 0)))),(6,ti (List.length f:Int)),(7,ti c.2)] [0] o ?_
   obtain⟨R,e,h⟩:=aj h;rw[e]
   exact zn<|zi<|zt<|zr<|zA o<|aY (R,(wrap .i64 (c.2+1))) () (Nat.lt_succ_self _) h o o
  exact zx<|ze<|ze<|zq<|zt<|ah c.1 () h o o
 refine zU 2 o<|zf ?_
 cases h
 exact ax o (.tmp o)
theorem bV(c:Nat)(f r)(h:bA f=some r):Fn PP 45 [ptr c 0] [Res.var c 171 W63 f] (λ_=>ti r.1) (λ_=>[Res.var c 171 W63 r.2]):=by
 unfold bA at h
 refine enter Tryz.func45 o 7 o o λF=>?_
 refine zU 1 o<|zZ 1 o<|cB h λV u h=>rc [0] (eH _ _ _ _ u) kr o o o λ_=>cB h λR M h=>au (rF _ _ M) kr o o<|zE o ?_
 cases h
 exact bm o (.tmp o) (.cons_cons _ .slnil)
theorem sI(f r)(h:iQ f=some r):bw PP 101 [ts f] (.one (.int .u8) r):=by
 unfold iQ at h
 refine enter Tryz.func101 o 20 o o λF=>?_
 refine zU 1 o<|zz<|q 1 [(0,ts f),(3,.one (.int .u64) 0)] [] o<|za<|bD h (λu=>[(3,.one (.int .u64) u)]) (λu=>[]) (λV h=>?_) λu h=>?_
 ·refine zW o<|zb<|ai [0,3,6,7] o<|bl (γ:=Unit) (λ(c:Int×Int) _=>[(0,ts f),(3,.one (.int .u64) c.1),(6,ti (List.length f:Int)),(7,ti c.2)]) (λ(c:Int×Int) _=>[]) (eE f V) (0,0) () h o o ?_
  clear h
  intro M c gg h
  cases M with
  |zero=>cases h
  |succ M=>
  simp only[eE]at h
  refine zW o<|zs<|rI h o (λhc h=>?_) λhc h=>?_
  ·refine zk<|zt<|zs<|zb<|zW o<|zr<|zm 4 o<|iE h λhc h=>y (eA af o o hc.1 hc.2 o) o ?_
   refine q 3 [(3,.one (.int .u64) (ior .u64 (ja .u64 c.1 8) (wrap .u64 (List.getD f (Int.toNat c.2) 0)))),(6,ti (List.length f:Int)),(7,ti c.2)] [0] o ?_
   obtain⟨R,e,h⟩:=aj h;rw[e]
   exact zn<|zi<|zt<|zr<|zA o<|aY (R,(wrap .i64 (c.2+1))) () (Nat.lt_succ_self _) h o o
  exact zx<|ze<|ze<|zq<|zt<|ah c.1 () h o o
 refine zU 3 o<|zf ?_
 cases h
 exact ax o (.tmp o)
theorem iq(c:Nat)(f r)(h:cy f=some r):Fn PP 46 [ptr c 0] [Res.var c 171 W63 f] (λ_=> .one (.int .u8) r.1) (λ_=>[Res.var c 171 W63 r.2]):=by
 unfold cy at h
 refine enter Tryz.func46 o 6 o o λF=>?_
 refine zU 1 o<|zZ 1 o<|cB h λV u h=>rc [0] (eH _ _ _ _ u) kr o o o λ_=>cB h λR M h=>au (sI _ _ M) kr o o<|zE o ?_
 cases h
 exact bm o (.tmp o) (.cons_cons _ .slnil)
theorem kk(f r)(h:dK f=some r):bw PP 148 [ts f] (.one (.int .u16) r):=by
 unfold dK at h
 refine enter Tryz.func148 o 20 o o λF=>?_
 refine zU 1 o<|zz<|q 1 [(0,ts f),(3,.one (.int .u64) 0)] [] o<|za<|bD h (λu=>[(3,.one (.int .u64) u)]) (λu=>[]) (λV h=>?_) λu h=>?_
 ·refine zW o<|zb<|ai [0,3,6,7] o<|bl (γ:=Unit) (λ(c:Int×Int) _=>[(0,ts f),(3,.one (.int .u64) c.1),(6,ti (List.length f:Int)),(7,ti c.2)]) (λ(c:Int×Int) _=>[]) (dY f V) (0,0) () h o o ?_
  clear h
  intro M c gg h
  cases M with
  |zero=>cases h
  |succ M=>
  simp only[dY]at h
  refine zW o<|zs<|rI h o (λhc h=>?_) λhc h=>?_
  ·refine zk<|zt<|zs<|zb<|zW o<|zr<|zm 4 o<|iE h λhc h=>y (eA af o o hc.1 hc.2 o) o ?_
   refine q 3 [(3,.one (.int .u64) (ior .u64 (ja .u64 c.1 8) (wrap .u64 (List.getD f (Int.toNat c.2) 0)))),(6,ti (List.length f:Int)),(7,ti c.2)] [0] o ?_
   obtain⟨R,e,h⟩:=aj h;rw[e]
   exact zn<|zi<|zt<|zr<|zA o<|aY (R,(wrap .i64 (c.2+1))) () (Nat.lt_succ_self _) h o o
  exact zx<|ze<|ze<|zq<|zt<|ah c.1 () h o o
 refine zU 3 o<|zf ?_
 cases h
 exact ax o (.tmp o)
theorem gm(c:Nat)(f r)(h:cP f=some r):Fn PP 105 [ptr c 0] [Res.var c 171 W63 f] (λ_=> .one (.int .u16) r.1) (λ_=>[Res.var c 171 W63 r.2]):=by
 unfold cP at h
 refine enter Tryz.func105 o 6 o o λF=>?_
 refine zU 1 o<|zZ 1 o<|cB h λV u h=>rc [0] (eH _ _ _ _ u) kr o o o λ_=>cB h λR M h=>au (kk _ _ M) kr o o<|zE o ?_
 cases h
 exact bm o (.tmp o) (.cons_cons _ .slnil)
theorem eI(f:Value)(c r)(h:cv c=some r):Fn PP 48 [tp f] [Res.cls gw f c] (λ_=>ti r.1) (λ_=>[Res.cls gw f r.2]):=by
 unfold cv at h
 refine enter Tryz.func48 o 9 o o λF=>?_
 refine rE λC H hp=>?_
 subst hp
 refine gR (x:=c) ?_
 refine zW o<|zs<|iT λV=>?_
 refine zr<|zm 3 o<|yl 0 f0 ik o o o tr o ?_
 obtain⟨M,h⟩:=cu h
 refine az (R':=Res.cls dS V c.1.2) 1 o (eO M)<|pk [1,0] o<|fw λR hp=>?_
 rw[hp]
 clear hp
 refine cB h λu W h=>rc [0] (gm _ _ _ W) kr o o o λ_=>zE o<|fH (x:=u.2) ?_
 refine az (R':=Res.clsif dS (.pointer (some ⟨R,0,none⟩)) u.2 c.1.1) 0 o (du M)<|nL o<|pk [1,0] o<|gR (x:=((c.1.1,u.2),c.2.1,c.2.2)) ?_
 cases h
 exact bm o (.tmp o) (.cons_cons _ .slnil)
theorem eJ(c:Nat)(f r)(h:cR f=some r):Fn PP 102 [ptr c 0] [Res.var c 171 W63 f] (λ_=>ts r.1) (λ_=>[Res.var c 171 W63 r.2]):=by
 unfold cR at h
 refine enter Tryz.func102 o 7 o o λF=>?_
 refine zU 1 o<|zZ 3 o<|yl 0 f0 ty9 o o o tr o<|zE o ?_
 cases h
 exact bm o (.tmp o) (.cons_cons _ .slnil)
theorem hZ(c:Nat)(f r)(h:cZ f=some r):Fn PP 104 [ptr c 0] [Res.var c 171 W63 f] (λ_=>ti r.1) (λ_=>[Res.var c 171 W63 r.2]):=by
 unfold cZ at h
 refine enter Tryz.func104 o 7 o o λF=>?_
 refine zU 1 o<|zZ 3 o<|yl 0 f1 fW o o o tr o<|zE o ?_
 cases h
 exact bm o (.tmp o) (.cons_cons _ .slnil)
theorem dg(c:Nat)(f r)(h:ce f=some r):Fn PP 50 [ptr c 0] [Res.var c 171 W63 f] (λ_=> .one W73 r.1) (λ_=>[Res.var c 171 W63 r.2]):=by
 unfold ce at h
 refine enter Tryz.func50 o 9 o o λF=>?_
 refine zu<|aB (t:=W73) o lu o λV=>zz<|aB (t:=W73) o lu o λu=>za<|zs<|dA kr<|ej 0 (.one W69 (.slice (some ⟨u,0,none⟩) 32 32)) o kr (mi o nl o ty5)<|zF 1 [1] kr o o<|ae 2 kr o<|cB h λR M h=>rc [2] (eH _ _ _ _ M) kr o o o λ_=>zL [2,3,4,6] o<|ae 3 kr o ?_
 refine C0 af 1 .here o o o aa o o o ty5 o λW=>?_
 refine zL [2,3] o<|aJ kr<|zt<|zu<|yl 1 .here bB o o o tr o<|st 2 .here bB o o o o tr<|zf ?_
 cases h
 exact aT o (.cell 2 .here o o o aa bB) (λ_ _ g=>g) (λ_ _ _=>(.cons_cons _ (.cons _ (.cons _ .slnil))))
theorem sJ(c:Nat)(f u r)(h:eP f u=some r):Fn PP 146 [ptr c 0,ti u] [Res.var c 171 W63 f] (λ_=>ts r.1) (λ_=>[Res.var c 171 W63 r.2]):=by
 unfold eP at h
 refine enter Tryz.func146 o 39 o o λF=>?_
 refine zu<|q 1 [(0,ptr c 0),(1,ti u)] [] o<|za<|bD h (λM=>[(0,ptr c 0)]) (λM=>[Res.var c 171 W63 M]) (λO h=>?_) λM h=>?_
 ·refine zU 3 o<|yl 0 f1 fW o o o tr o<|q 2 [(11,tb (f.2.1==0))] [0,1] o ?_
  obtain⟨V,e,h⟩:=aj h;rw[e]
  refine aH 7 [(0,ptr c 0),(1,ti u),(18,tb (V&&(decide ((List.length f.1:Int)≥2))))] [Res.var c 171 W63 f] (?_) ?_
  ·clear h
   cases V
   ·exact zA o<|ap () o o
   refine zm 3 o<|al dl o ?_
   exact yl 0 f0 ty9 o o o tr o<|zA o<|ap () o o
  refine q 1 [(0,ptr c 0),(1,ti u),(19,tb (V&&(decide ((List.length f.1:Int)≥2))))] [] o ?_
  obtain⟨W,e,h⟩:=aj h;rw[e]
  refine bL h 10 (λR=>[(0,ptr c 0),(29,tb R)]) (λ_=>[Res.var c 171 W63 f]) (λw h=>?_) λR h=>?_
  ·cases W
   ·replace h:=ifF h
    exact zN o<|zt<|ah false () h o o
   replace h:=ifT h
   refine zm 3 o<|al dl o ?_
   refine yl 0 f0 ty9 o o o tr o<|al dl o ?_
   refine iE h λhc h=>y (gD (i:=(0:Int)) (j:=2) af o o o hc.1 hc.2.1 hc.2.2 o) o ?_
   refine al dl o ?_
   exact cB h λC H h=>au (kk _ _ H) kr o o<|zN o<|zt<|ah (decide ((wrap .i64 C)>u)) () h o o
  exact za<|rI h o (λhc h=>zr<|zm 1 o<|cB h λG N h=>rc [0] (mB _ _ _ _ N) kr o o o λ_=>za<|ah G () h o o) λhc h=>zk<|zt<|ah f () h o o
 refine zU 1 o<|cB h λZ J h=>rc [0] (eH _ _ _ _ J) kr o o o λ_=>cB h λr4 d h=>au (kk _ _ d) kr o o<|zm 1 o<|zZ 3 o<|cB h λr5 m h=>rc [0] (eH _ _ _ _ m) kr o o o λ_=>zE o ?_
 cases h
 exact bm o (.tmp o) (.cons_cons _ .slnil)
theorem wP(c r)(h:nW c=some r):bw PP 147 [ti c] (ti r):=by
 unfold nW at h
 refine enter Tryz.func147 o 6 o o λF=>?_
 refine zW o<|zs<|zW o<|rI h o (λhc h=>zU 1 o<|zf<|zT<|by cases h;exact ax o (.tmp o)) λhc h=>zy<|zE o ?_
 cases h
 exact ax o (.tmp o)
theorem sK(u r)(h:gA u=some r):bw PP 103 [ts u] (.tup [⟨Y52,r.1⟩,⟨(.int .i64),r.2.1⟩,⟨(.int .i64),r.2.2⟩]):=by
 unfold gA at h
 refine enter Tryz.func103 o 70 o o λF=>?_
 refine zu<|aB (t:=Y52) o ii o λc=>zm 2 o<|zZ 1 o<|cB h λr3 Z h=>rc [] (iG _ _ Z) kr o o o λv4=>zm 1 o<|zZ 1 o<|fw λM hp=>?_
 subst hp
 refine cB h λV a1 h=>rc [0] (iq _ _ _ a1) kr o o o λ_=>zm 1 o<|y (bc o ii o o (.cons f0 o o aa .nil)) o ?_
 refine aB (t:=Y52) o ii o λf=>st 0 .here br o o o o tr<|za<|zs<|zU 1 o<|cB h λG a2 h=>rc [1] (hZ _ _ _ a2) kr o o o λ_=>q 2 [(0,ts u),(2,ptr c 0),(5,ptr M 0),(6,ptr f 0),(17,tb (G.1==0))] [] o ?_
 obtain⟨b9,e,h⟩:=aj h;rw[e]
 refine bL h 9 (λd=>[(0,ts u),(2,ptr c 0),(5,ptr M 0),(6,ptr f 0),(26,tb d)]) (λ_=>[Res.var M 171 W63 G.2,Res.var f 52 Y52 ((wrap .i64 V.1),0,0,z32,[],()),Res.var c 52 Y52 (0,0,0,z32,[],())]) (λb3 h=>?_) λd h=>?_
 ·cases b9
  ·replace h:=ifF h
   exact zN o<|zt<|ah false () h o o
  replace h:=ifT h
  refine zm 1 o<|al dl o ?_
  refine yl 1 f0 ty3 o o o tr o<|q 2 [(17,tb true),(21,tb (decide ((wrap .i64 V.1)<1)))] [0,2,5,6] o ?_
  obtain⟨N,e,h⟩:=aj h;rw[e]
  refine aH 4 [(0,ts u),(2,ptr c 0),(5,ptr M 0),(6,ptr f 0),(17,tb true),(25,tb (N||(decide ((wrap .i64 V.1)>3))))] [Res.var M 171 W63 G.2,Res.var f 52 Y52 ((wrap .i64 V.1),0,0,z32,[],()),Res.var c 52 Y52 (0,0,0,z32,[],())] (?_) ?_
  ·clear h
   cases N
   ·refine zm 1 o<|al dl o ?_
    exact yl 1 f0 ty3 o o o tr o<|zA o<|ap () o o
   exact zA o<|ap () o o
  exact zN o<|zt<|ah (N||(decide ((wrap .i64 V.1)>3))) () h o o
 refine za<|rI h o (λhc h=>?_) λhc h=>?_
 ·refine zu<|y (bc o ii o o .nil) o ?_
  refine st 2 .here br o o o o tr<|zE o<|zT ?_
  cases h
  exact aC (rs:=[.cell 2 52,.tmp 3,.tmp 4]) o (.cons (.cell 2 .here o o o aa br) (.cons (.tmp o) (.cons (.tmp o) (.nil)))) o (λ_ vs g=>aG vs g) (λ_ _ _=>List.nil_sublist _)
 refine zy<|zm 1 o<|cB h λW a3 h=>rc [0] (gm _ _ _ a3) kr o o o λ_=>q 2 [(0,ts u),(2,ptr c 0),(5,ptr M 0),(6,ptr f 0),(30,ti (wrap .i64 W.1)),(31,ptr f 1)] [] o<|st 1 f1 ty2 o o o o tr<|za<|bD h (λR=>[(0,ts u),(2,ptr c 0),(5,ptr M 0),(6,ptr f 0)]) (λR=>[Res.var M 171 W63 R.1,Res.var f 52 Y52 R.2,Res.var c 52 Y52 (0,0,0,z32,[],())]) (λb4 h=>?_) λR h=>?_
 ·refine zU 1 o<|yl 1 f0 ty3 o o o tr o<|za<|zb<|zW o<|rI h o (λhc h=>zU 1 o<|cB h λa4 a5 h=>rc [0] (bV _ _ _ a5) kr o o o λ_=>zm 1 o<|st 1 f2 ty2 o o o o tr<|za<|zr<|zm 1 o<|cB h λm a6 h=>rc [0] (dg _ _ _ a6) kr o o o λ_=>zm 1 o<|st 1 f3 bB o o o o tr<|nL o<|zn<|zi<|zt<|ah (m.2,((wrap .i64 V.1),(wrap .i64 W.1),a4.1,m.1,[],())) () h o o) λhc h=>zW o<|rI h o (λhc h=>zr<|zm 1 o<|cB h λO a7 h=>rc [0] (dg _ _ _ a7) kr o o o λ_=>zm 1 o<|st 1 f3 bB o o o o tr<|zn<|zi<|zt<|ah (O.2,((wrap .i64 V.1),(wrap .i64 W.1),0,O.1,[],())) () h o o) λhc h=>zW o<|rI h o (λhc h=>zr<|zm 1 o<|cB h λw a8 h=>rc [0] (sJ _ _ _ _ a8) kr o o o λ_=>zm 1 o<|st 1 f4 ty9 o o o o tr<|zn<|zi<|zt<|ah (w.2,((wrap .i64 V.1),(wrap .i64 W.1),0,z32,w.1,())) () h o o) λhc h=>?_
  exact zk<|zi<|zt<|ah (W.2,((wrap .i64 V.1),(wrap .i64 W.1),0,z32,[],())) () h o o
 refine zs<|zU 1 o<|cB h λb6 a9 h=>rc [0] (hZ _ _ _ a9) kr o o o λ_=>zm 1 o<|zz<|zA o<|rI h o (λhc h=>?_) λhc h=>?_
 ·refine zu<|y (bc o ii o o .nil) o ?_
  refine zm 1 o<|cB h λb8 b0 h=>au (wP _ _ b0) kr o o<|st 2 .here br o o o o tr<|zE o<|zT ?_
  cases h
  exact aC (rs:=[.cell 2 52,.tmp 3,.tmp 4]) o (.cons (.cell 2 .here o o o aa br) (.cons (.tmp o) (.cons (.tmp o) (.nil)))) o (λ_ vs g=>aG vs g) (λ_ _ _=>List.nil_sublist _)
 refine zk<|zt<|zs<|zu<|yl 1 .here br o o o tr o<|cB h λc0 b1 h=>au (iY _ _ b1) kr o o<|zA o<|rI h o (λhc h=>?_) λhc h=>?_
 ·refine zu<|y (bc o ii o o .nil) o ?_
  refine st 2 .here br o o o o tr<|zE o<|zT ?_
  cases h
  exact aC (rs:=[.cell 2 52,.tmp 3,.tmp 4]) o (.cons (.cell 2 .here o o o aa br) (.cons (.tmp o) (.cons (.tmp o) (.nil)))) o (λ_ vs g=>aG vs g) (λ_ _ _=>List.nil_sublist _)
 refine zk<|zt<|bD h (λC=>[(2,ptr c 0),(3,ti C.1),(4,ti C.2.1)]) (λC=>[Res.var M 171 W63 C.2.2.1,Res.var f 52 Y52 R.2,Res.var c 52 Y52 C.2.2.2]) (λc1 h=>?_) λC h=>?_
 ·refine dA kr<|zF 3 [1,2,3] kr o o ?_
  refine bv (i:=0) (j:=4) kr o o ?_ ?_
  ·exact yl 1 .here br o o o tr o<|zL [2,63,65,66] o<|ae 4 kr o<|cB h λH J h=>rc [0] (eJ _ _ _ J) kr o o o λ_=>zL [2,63,65,67] o<|zF 2 [5,6] kr o o<|ae 7 kr o<|st 2 .here br o o o o tr<|zL [2,69] o<|zF 2 [8,9] kr o o<|aJ kr<|zt<|ah ((wrap .i64 ((List.length u:Int) - (List.length H.1:Int))),0,H.2,R.2) () h o o
  exact cB h λH J h=>rc [0] (eJ _ _ _ J) kr o o o λ_=>zL [2,6,65,67] o<|zF 2 [5,6] kr o o<|ae 0 kr o<|yl 1 .here br o o o tr o<|zL [2,63,69] o<|ae 7 kr o<|st 2 .here br o o o o tr<|zL [2,69] o<|zF 2 [8,9] kr o o<|aJ kr<|zt<|ah ((wrap .i64 ((List.length u:Int) - (List.length H.1:Int))),0,H.2,R.2) () h o o
 refine zR ?_
 cases h
 exact aC (rs:=[.cell 2 52,.tmp 3,.tmp 4]) o (.cons (.cell 2 .here o o o aa br) (.cons (.tmp o) (.cons (.tmp o) (.nil)))) o (λ_ vs g=>aG vs g) (λ_ _ _=>List.nil_sublist _)
theorem ou(C:Value)(H r)(h:fC H=some r):Fn PP 47 [tp C] [Res.cls gw C H] (λv=> .one W69 v) (λv=>[Res.cls gw C r.2,Res.own v 52 Y52 r.1]):=by
 unfold fC at h
 refine enter Tryz.func47 o 49 o o λF=>?_
 refine rE λu a9 hp=>?_
 subst hp
 refine gR (x:=H) ?_
 refine zU 1 o<|zz<|q 1 [(0,ptr u 0),(3,.one W69 (.slice none 0 0))] [] o<|bH (.slice none 0 0) o 52 Y52 ?_
 refine za<|jK h (γ:=Value) (λR g6=>[(3,.one W69 g6)]) (λR g6=>[Res.cls gw (.pointer (some ⟨u,0,none⟩)) R.1,Res.own g6 52 Y52 R.2]) (λw h=>?_) λR g6 h=>?_
 ·refine zU 1 o<|cB h λV Z h=>rc [1] (eI _ _ _ Z) kr o o o λ_=>zA o<|zb<|ai [0,3,9,10] o<|bl (γ:=Value) (λ(c:Int×((Int×Z13)×Bool×Unit)×(List Z51)) g12=>[(0,ptr u 0),(3,.one W69 g12),(9,ti V.1),(10,ti c.1)]) (λ(c:Int×((Int×Z13)×Bool×Unit)×(List Z51)) g12=>[Res.cls gw (.pointer (some ⟨u,0,none⟩)) c.2.1,Res.own g12 52 Y52 c.2.2]) (da w V) (0,V.2,[]) (.slice none 0 0) h o o ?_
  clear h
  intro m c g12 h
  cases m with
  |zero=>cases h
  |succ m=>
  simp only[da]at h
  refine zW o<|zs<|rI h o (λhc h=>?_) λhc h=>?_
  ·refine zk<|zt<|zs<|zb<|zs<|iT λa1=>?_
   refine zr<|zm 3 o<|yl 0 f0 ik o o o tr o ?_
   obtain⟨G,h⟩:=cu h
   refine az (R':=Res.cls dS a1 c.2.1.1.2) 1 o (eO G)<|pk [1,0,0] o<|fw λN hp=>?_
   rw[hp]
   clear hp
   refine cB h λW a2 h=>rc [0] (eJ _ _ _ a2) kr o o o λ_=>zm 1 o<|zZ 1 o<|cB h λM a3 h=>au (sK _ _ a3) kr o o<|zm 4 o<|aB (t:=Y52) o ii o λJ=>st 0 .here br o o o o tr<|nL o<|zA o<|zs<|zu<|q 3 [(3,.one W69 g12),(4,ts W.1),(5,ptr J 0),(6,ti M.2.1),(9,ti V.1),(10,ti c.1),(25,tb (M.2.2 !=0))] [0] o ?_
   obtain⟨a4,e,h⟩:=aj h;rw[e]
   refine bL h 7 (λf=>[(0,ptr u 0),(3,.one W69 g12),(4,ts W.1),(5,ptr J 0),(6,ti M.2.1),(9,ti V.1),(10,ti c.1),(32,tb f.1)]) (λf=>[Res.var J 52 Y52 M.1,Res.var N 171 W63 f.2,Res.var u 103 W59 ((.pointer (some ⟨N,0,none⟩)),c.2.1.2.1,c.2.1.2.2),Res.own g12 52 Y52 c.2.2]) (λb0 h=>?_) λf h=>?_
   ·cases a4
    ·replace h:=ifF h
     refine zm 3 o<|al dl o ?_
     refine yl 2 f0 ik o o o tr o<|al dl o ?_
     exact cB h λO a5 h=>rc [1] (hZ _ _ _ a5) kr o o o λ_=>zN o<|pk [1,0,0,0] o<|zt<|ah ((O.1 !=0),O.2) () h o o
    replace h:=ifT h
    exact zN o<|zt<|ah (true,W.2) () h o o
   refine za<|rI h o (λhc h=>?_) λhc h=>?_
   ·refine zU 3 o<|st 2 f1 ty4 o o o o tr<|zz<|zE o<|zT<|zB<|zT<|zT<|zB<|zT<|pk [1,0,0,0] o<|fH (x:=f.2) ?_
    refine az (R':=Res.clsif dS (.pointer (some ⟨N,0,none⟩)) f.2 c.2.1.1.1) 0 o (du G)<|nL o<|pk [2,0,0,0] o<|gR (x:=((c.2.1.1.1,f.2),true,c.2.1.2.2)) ?_
    refine bH (.slice none 0 0) o 52 Y52 ?_
    cases h
    exact pk [0,0] o<|pk [1,0] o<|aT o (.tmp o) (λ_ _ g=>holds_raw.2 ⟨rfl,by rw[(holds_raw.1 g).1];exact(holds_raw.1 g).2⟩) (λ_ _ g=>by obtain⟨rfl,_⟩:=holds_raw.1 g;exact List.Sublist.refl _)
   refine zy<|zm 1 o<|yl 0 .here br o o o tr o<|bC (B:=72) af o jB o o o (.cons o .nil) o λb1=>?_
   refine iE h λhc h=>aW (B:=72) af 4 o o (bM 0 o o) o jB o o hc o λa6=>?_
   refine pk [1,1,1,1] o<|zA o<|zr<|zm 3 o<|iE h λhc h=>y (gD (i:=M.2.1) (j:=(List.length W.1:Int)) af o o o hc.1 hc.2.1 hc.2.2 o) o ?_
   refine cB h λd a7 h=>rc [] (iG _ _ a7) kr o o o λa8=>zm 2 o<|st 3 f0 ik o o o o tr<|nL o<|pk [0,0,1,1] o<|zn<|zi<|zt<|zr<|zA o<|az (R':=Res.clsif dS a8 d c.2.1.1.1) 0 o (du G)<|pk [2,0,0,0] o<|gR (x:=((c.2.1.1.1,d),c.2.1.2.1,c.2.1.2.2)) ?_
   exact pk [0,1] o<|aY ((wrap .i64 (c.1+1)),((c.2.1.1.1,d),c.2.1.2.1,c.2.1.2.2),(c.2.2++[M.1])) a6 (Nat.lt_succ_self _) h o o
  exact zx<|ze<|ze<|zq<|zt<|ah (c.2.1,c.2.2) g12 h o o
 refine zU 2 o<|zf ?_
 cases h
 exact pk [0,0] o<|aT o (.tmp o) (λ_ _ g=>holds_raw.2 ⟨rfl,by rw[(holds_raw.1 g).1];exact(holds_raw.1 g).2⟩) (λ_ _ g=>by obtain⟨rfl,_⟩:=holds_raw.1 g;exact List.Sublist.refl _)
theorem ov(f:Value)(c r)(h:fD c=some r):Fn PP 49 [tp f] [Res.cls gw f c] (λ_=>tb r.1) (λ_=>[Res.cls gw f r.2]):=by
 unfold fD at h
 refine enter Tryz.func49 o 9 o o λF=>?_
 refine rE λC H hp=>?_
 subst hp
 refine gR (x:=c) ?_
 refine zW o<|zs<|iT λV=>?_
 refine zr<|zm 3 o<|yl 0 f0 ik o o o tr o ?_
 obtain⟨M,h⟩:=cu h
 refine az (R':=Res.cls dS V c.1.2) 1 o (eO M)<|pk [1,0] o<|fw λR hp=>?_
 rw[hp]
 clear hp
 refine cB h λu W h=>rc [0] (iq _ _ _ W) kr o o o λ_=>zE o<|fH (x:=u.2) ?_
 refine az (R':=Res.clsif dS (.pointer (some ⟨R,0,none⟩)) u.2 c.1.1) 0 o (du M)<|nL o<|pk [1,0] o<|gR (x:=((c.1.1,u.2),c.2.1,c.2.2)) ?_
 cases h
 exact bm o (.tmp o) (.cons_cons _ .slnil)
theorem rH(f r)(h:ip f=some r):bw PP 106 [ts f] (.one (.int .u32) r):=by
 unfold ip at h
 refine enter Tryz.func106 o 20 o o λF=>?_
 refine zU 1 o<|zz<|q 1 [(0,ts f),(3,.one (.int .u64) 0)] [] o<|za<|bD h (λu=>[(3,.one (.int .u64) u)]) (λu=>[]) (λV h=>?_) λu h=>?_
 ·refine zW o<|zb<|ai [0,3,6,7] o<|bl (γ:=Unit) (λ(c:Int×Int) _=>[(0,ts f),(3,.one (.int .u64) c.1),(6,ti (List.length f:Int)),(7,ti c.2)]) (λ(c:Int×Int) _=>[]) (dZ f V) (0,0) () h o o ?_
  clear h
  intro M c gg h
  cases M with
  |zero=>cases h
  |succ M=>
  simp only[dZ]at h
  refine zW o<|zs<|rI h o (λhc h=>?_) λhc h=>?_
  ·refine zk<|zt<|zs<|zb<|zW o<|zr<|zm 4 o<|iE h λhc h=>y (eA af o o hc.1 hc.2 o) o ?_
   refine q 3 [(3,.one (.int .u64) (ior .u64 (ja .u64 c.1 8) (wrap .u64 (List.getD f (Int.toNat c.2) 0)))),(6,ti (List.length f:Int)),(7,ti c.2)] [0] o ?_
   obtain⟨R,e,h⟩:=aj h;rw[e]
   exact zn<|zi<|zt<|zr<|zA o<|aY (R,(wrap .i64 (c.2+1))) () (Nat.lt_succ_self _) h o o
  exact zx<|ze<|ze<|zq<|zt<|ah c.1 () h o o
 refine zU 3 o<|zf ?_
 cases h
 exact ax o (.tmp o)
theorem tO(c:Nat)(f r)(h:fE f=some r):Fn PP 51 [ptr c 0] [Res.var c 171 W63 f] (λ_=> .one (.int .u32) r.1) (λ_=>[Res.var c 171 W63 r.2]):=by
 unfold fE at h
 refine enter Tryz.func51 o 6 o o λF=>?_
 refine zU 1 o<|zZ 1 o<|cB h λV u h=>rc [0] (eH _ _ _ _ u) kr o o o λ_=>cB h λR M h=>au (rH _ _ M) kr o o<|zE o ?_
 cases h
 exact bm o (.tmp o) (.cons_cons _ .slnil)
theorem sL(c:Nat)(f r)(h:fS f=some r):Fn PP 52 [ptr c 0] [Res.var c 171 W63 f] (λ_=>ti r.1) (λ_=>[Res.var c 171 W63 r.2]):=by
 unfold fS at h
 refine enter Tryz.func52 o 19 o o λF=>?_
 refine zW o<|zs<|zU 3 o<|yl 0 f1 fW o o o tr o<|q 2 [(0,ptr c 0),(8,tb (f.2.1==0))] [] o ?_
 obtain⟨u,e,h⟩:=aj h;rw[e]
 refine aH 6 [(0,ptr c 0),(14,tb (u&&(f.1 !=[])))] [Res.var c 171 W63 f] (?_) ?_
 ·clear h
  cases u
  ·exact zA o<|ap () o o
  refine zm 3 o<|al dl o ?_
  exact yl 0 f0 ty9 o o o tr o<|zA o<|ap () o o
 refine za<|rI h o (λhc h=>zU 1 o<|zf<|zT<|by cases h;exact aT o (.tmp o) (λ_ _ g=>g) (λ_ _ _=>(.cons_cons _ .slnil))) λhc h=>zy<|zm 3 o<|yl 0 f1 fW o o o tr o<|zE o ?_
 cases h
 exact bm o (.tmp o) (.cons_cons _ .slnil)
theorem pQ(C r)(h:hJ C=some r):bw PP 9 [ts C] (.tup [⟨(.int .i64),r.1⟩,⟨Y30,r.2.1⟩,⟨(.int .i64),r.2.2⟩]):=by
 unfold hJ at h
 refine enter Tryz.func9 o 192 o o λF=>?_
 refine zU 1 o<|aB (t:=Y30) o gU o λV=>zm 1 o<|zZ 1 o<|cB h λr3 d0 h=>rc [] (iG _ _ d0) kr o o o λv4=>y (bc o Hf o o (.cons f0 o o (av aa) .nil)) o ?_
 refine bI o o λf=>zm 1 o<|zz<|aB (t:=W4) o gU o λM=>bH (.slice none 0 0) o 56 Y56 ?_
 refine zZ 3 o<|yl 2 f0 ik o o o tr o<|pk [3,0,0,0,0] o<|fw λZ hp=>?_
 subst hp
 refine cB h λG d1 h=>rc [0] (bV _ _ _ d1) kr o o o λ_=>zm 1 o<|zZ 3 o<|yl 3 f0 ik o o o tr o<|cB h λr9 d2 h=>rc [0] (iq _ _ _ d2) kr o o o λ_=>zm 2 o<|st 2 f0 ty3 o o o o tr<|za<|zs<|gc (S:=bG [aZ f 103 W59 ((.pointer (some ⟨Z,0,none⟩)),false,())]) kr ?_
 refine zH 3 [0,1,2] (ag (aq 3 o) ak) kr o o λs=>bq 3 (ptr Z 0) s o kr (cp (S:=λw=>bG [aZ f 103 W59 ((.pointer (some ⟨Z,0,none⟩)),false,())] w) (bz 0 o) 3 f0 o o o o (av aa) ik) λs=>zH 3 [5,6,7] s kr o o λs=>bq 8 (ptr Z 0) s o kr (cp (S:=λw=>bG [aZ f 103 W59 ((.pointer (some ⟨Z,0,none⟩)),false,())] w) (bz 0 o) 3 f0 o o o o (av aa) ik) λs=>zH 3 [10,11,12] s kr o o λs=>bq 13 (ptr Z 0) s o kr (cp (S:=λw=>bG [aZ f 103 W59 ((.pointer (some ⟨Z,0,none⟩)),false,())] w) (bz 0 o) 3 f0 o o o o (av aa) ik) λs=>aF 4 kr o<|cB h λb9 d3 h=>rc [0] (bV _ _ _ d3) kr o o o λ_=>za<|bi (ag (aq 3 o) ak) ?_
 refine ai [0,3,5,6,7,33,37,42] o<|aF 9 kr o<|cB h λc0 d4 h=>rc [0] (bV _ _ _ d4) kr o o o λ_=>za<|bi (ag (aq 3 o) ak) ?_
 refine ai [0,3,5,6,7,33,38,42] o<|aF 14 kr o<|cB h λa6 d5 h=>rc [0] (bV _ _ _ d5) kr o o o λ_=>za<|bi (ag (aq 3 o) ak) ?_
 refine ai [0,3,5,6,7,33,38,43] o<|zH 1 [15] (ag (aq 3 o) ak) kr o o λs=>aF 16 kr o<|st 2 f1 ty2 o o o o tr<|nL o<|za<|bi (ag (aq 3 o) ak) ?_
 refine ai [0,3,5,6,7,38,43] o<|zH 1 [17] (ag (aq 3 o) ak) kr o o λs=>aF 18 kr o<|st 2 f2 ty2 o o o o tr<|za<|bi (ag (aq 3 o) ak) ?_
 refine ai [0,3,5,6,7,43] o<|zH 1 [19] (ag (aq 3 o) ak) kr o o λs=>aF 20 kr o<|st 2 f3 ty2 o o o o tr<|nL o<|za<|bi (ag (aq 3 o) ak) ?_
 refine ai [0,3,5,6,7] o<|dU kr<|zt<|zU 1 o<|fH (x:=a6.2) ?_
 refine az (R':=Res.clsif dS (.pointer (some ⟨Z,0,none⟩)) a6.2 0) 0 o (du o)<|pk [3,0,0,0,0] o<|gR (x:=((0,a6.2),false,())) ?_
 refine cB h λJ d6 h=>rc [0] (ou _ _ _ d6) kr o o o λH=>q 1 [(0,ts C),(3,ptr V 0),(5,ptr f 0),(6,ptr M 0),(7,ti G.1),(48,.one W69 H),(49,ptr M 4)] [] o<|gE (t:=W4) (v:=W69) 3 f4 o o o o o o tx0 ?_
 refine nL o<|za<|bD h (λc=>[(0,ts C),(3,ptr V 0),(5,ptr f 0),(6,ptr M 0),(7,ti G.1)]) (λc=>[Res.var M 30 W1 (Dj c.1 H (.slice none 0 0)),Res.cls gw (.pointer (some ⟨f,0,none⟩)) c.2,Res.own H 52 Y52 J.1,Res.own (.slice none 0 0) 56 Y56 [],Res.var V 30 Y30 (0,0,0,0,[],[],0,0,0,(0,0,()),(0,0,()),(0,0,()),false,(List.replicate 2 (z32:List (Int))),z32,[],0,0,())]) (λi5 h=>?_) λc h=>?_
 ·refine zs<|iT λi6=>?_
  refine zr<|zm 3 o<|yl 0 f1 ty4 o o o tr o<|zA o<|rI h o (λhc h=>?_) λhc h=>?_
  ·refine zr<|zm 1 o<|gR (x:=J.2) ?_
   refine cB h λc1 d7 h=>rc [0] (ou _ _ _ d7) kr o o o λc2=>zm 1 o<|gE (t:=W1) (v:=W69) 4 f5 o o o o o o tx0 ?_
   refine za<|pk [1,3,0,0,0,0] o<|dw (v:=c2) (T0:=W0) (x0:=((wrap .i64 r9.1),b9.1,c0.1,a6.1,H,c2,0,0,0,(0,0,()),(0,0,()),(0,0,()),false,(List.replicate 2 (z32:List (Int))),z32,(.slice none 0 0),0,0,())) (t:=Y52) f5 o o ?_
   exact ah (((wrap .i64 r9.1),b9.1,c0.1,a6.1,(),c1.1,0,0,0,(0,0,()),(0,0,()),(0,0,()),false,(List.replicate 2 (z32:List (Int))),z32,(),0,0,()),c1.2) () h o o
  refine zk<|zt<|gR (x:=J.2) ?_
  exact pk [3,0,0,0,0] o<|ah (((wrap .i64 r9.1),b9.1,c0.1,a6.1,(),[],0,0,0,(0,0,()),(0,0,()),(0,0,()),false,(List.replicate 2 (z32:List (Int))),z32,(),0,0,()),J.2) () h o o
 refine zs<|pk [1,0,0,0,0] o<|iT λa1=>?_
 refine gc (S:=bG [aZ f 103 W59 (a1,c.2.2.1,c.2.2.2)]) kr ?_
 refine zH 3 [0,1,2] (ag (aq 0 o) ak) kr o o λs=>bq 3 (tp a1) s o kr (cp (S:=λw=>bG [aZ f 103 W59 (a1,c.2.2.1,c.2.2.2)] w) (bz 0 o) 0 f0 o o o o (av aa) ik) λs=>zH 3 [5,6,7] s kr o o λs=>bq 8 (tp a1) s o kr (cp (S:=λw=>bG [aZ f 103 W59 (a1,c.2.2.1,c.2.2.2)] w) (bz 0 o) 0 f0 o o o o (av aa) ik) λs=>zH 3 [10,11,12] s kr o o λs=>bq 13 (tp a1) s o kr (cp (S:=λw=>bG [aZ f 103 W59 (a1,c.2.2.1,c.2.2.2)] w) (bz 0 o) 0 f0 o o o o (av aa) ik) λs=>aF 4 kr o ?_
 obtain⟨c3,h⟩:=cu h
 refine az (R':=Res.cls dS a1 c.2.1.2) 1 o (eO c3)<|pk [1,0,0,0,0,0] o<|fw λd8 hp=>?_
 rw[hp]
 clear hp
 refine cB h λd9 e0 h=>rc [0] (bV _ _ _ e0) kr o o o λ_=>za<|bi (ag (aq 1 o) ak) ?_
 refine ai [0,3,5,6,7,62,66,71] o<|aF 9 kr o<|cB h λe1 e2 h=>rc [0] (bV _ _ _ e2) kr o o o λ_=>za<|bi (ag (aq 1 o) ak) ?_
 refine ai [0,3,5,6,7,62,67,71] o<|aF 14 kr o<|cB h λb8 e3 h=>rc [0] (bV _ _ _ e3) kr o o o λ_=>za<|bi (ag (aq 1 o) ak) ?_
 refine ai [0,3,5,6,7,62,67,72] o<|zH 1 [15] (ag (aq 1 o) ak) kr o o λs=>aF 16 kr o<|st 2 f6 ty2 o o o o tr<|nL o<|za<|bi (ag (aq 1 o) ak) ?_
 refine ai [0,3,5,6,7,67,72] o<|zH 1 [17] (ag (aq 1 o) ak) kr o o λs=>aF 18 kr o<|st 2 f7 ty2 o o o o tr<|za<|bi (ag (aq 1 o) ak) ?_
 refine ai [0,3,5,6,7,72] o<|zH 1 [19] (ag (aq 1 o) ak) kr o o λs=>aF 20 kr o<|st 2 f8 ty2 o o o o tr<|nL o<|za<|bi (ag (aq 1 o) ak) ?_
 refine ai [0,3,5,6,7] o<|dU kr<|zt<|bD h (λR=>[(0,ts C),(3,ptr V 0),(5,ptr f 0),(6,ptr M 0),(7,ti G.1)]) (λR=>[Res.cls gw (.pointer (some ⟨f,0,none⟩)) R.1,Res.var M 30 W1 (Dj R.2 H (.slice none 0 0)),Res.own H 52 Y52 J.1,Res.own (.slice none 0 0) 56 Y56 [],Res.var V 30 Y30 (0,0,0,0,[],[],0,0,0,(0,0,()),(0,0,()),(0,0,()),false,(List.replicate 2 (z32:List (Int))),z32,[],0,0,())]) (λi7 h=>?_) λR h=>?_
 ·refine zU 3 o<|bC (B:=8) af o Hw o o o (.cons o (.cons o (.cons o .nil))) o λi8=>?_
  refine y (ct af 0 o o o) o ?_
  refine zA o<|zb<|ai [0,3,5,6,7,79,80,81] o<|DV 4 ?_
  refine vl ?_
  refine zW o<|zs ?_
  refine iK (b:=true) o (λhc=>?_) (λhc=>?_)
  ·refine zk<|zt<|zs<|zb<|zu<|cT 0 o (of_decide_eq_true o) λi9 j0 j1 hv=>?_
   rw[hv]
   try clear hv
   refine y (dn af o o (of_decide_eq_true o) (of_decide_eq_true o) o vw) o ?_
   refine y (eC 0 0 .here o o (of_decide_eq_true o) o aa vw) o ?_
   refine zA o<|zr<|zm 3 o<|pk [1,0,0,0,0,0,0] o<|fH (x:=b8.2) ?_
   refine az (R':=Res.clsif dS (.pointer (some ⟨d8,0,none⟩)) b8.2 c.2.1.1) 0 o (du c3)<|pk [2,0,0,0,0,0,0] o<|gR (x:=((c.2.1.1,b8.2),c.2.2.1,c.2.2.2)) ?_
   refine cB h λe4 e5 h=>rc [0] (eI _ _ _ e5) kr o o o λ_=>zm 1 o<|cB h λe6 e7 h=>rc [0] (eI _ _ _ e7) kr o o o λ_=>zm 2 o<|st 2 ((g9 (.fst f0))) ty3 o o o o tr<|nL o<|zm 2 o<|st 2 ((g9 (.fst f1))) ty3 o o o o tr<|zn<|zi<|zt<|zr ?_
   refine zA o<|vl ?_
   refine zW o<|zs ?_
   refine iK (b:=true) o (λhc=>?_) (λhc=>?_)
   ·refine zk<|zt<|zs<|zb<|zu<|y (dn af o o (of_decide_eq_true o) (of_decide_eq_true o) o vw) o ?_
    refine y (eC 1 1 .here o o (of_decide_eq_true o) o aa vw) o ?_
    refine zA o<|zr<|zm 3 o<|cB h λe8 e9 h=>rc [0] (eI _ _ _ e9) kr o o o λ_=>zm 1 o<|cB h λf9 g0 h=>rc [0] (eI _ _ _ g0) kr o o o λ_=>zm 2 o<|st 2 ((g10 (.fst f0))) ty3 o o o o tr<|zm 2 o<|st 2 ((g10 (.fst f1))) ty3 o o o o tr<|nL o<|zn ?_
    refine zi<|zt<|zr<|zA o<|vl ?_
    refine zW o<|zs ?_
    refine iK (b:=true) o (λhc=>?_) (λhc=>?_)
    ·refine zk<|zt<|zs<|zb<|zu<|y (dn af o o (of_decide_eq_true o) (of_decide_eq_true o) o vw) o ?_
     refine y (eC 1 2 .here o o (of_decide_eq_true o) o aa vw) o ?_
     refine zA o<|zr<|zm 3 o<|cB h λg1 g2 h=>rc [0] (eI _ _ _ g2) kr o o o λ_=>zm 1 o<|cB h λc4 g3 h=>rc [0] (eI _ _ _ g3) kr o o o λ_=>zm 2 o<|st 2 ((g11 (.fst f0))) ty3 o o o o tr<|zm 2 o<|st 2 ((g11 (.fst f1))) ty3 o o o o tr<|nL o<|zn ?_
     refine zi<|zt<|zr<|zA o<|vl ?_
     refine zW o<|zs ?_
     refine iK (b:=false) o (λhc=>?_) (λhc=>?_)
     ·cases hc
     exact zx<|ze<|ze<|zq<|zt<|pk [0,1,1,1,1] o<|ah (c4.2,(c.1.1,c.1.2.1,c.1.2.2.1,c.1.2.2.2.1,(),c.1.2.2.2.2.2.1,d9.1,e1.1,b8.1,(e4.1,e6.1,c.1.2.2.2.2.2.2.2.2.2.1.2.2),(e8.1,f9.1,c.1.2.2.2.2.2.2.2.2.2.2.1.2.2),(g1.1,c4.1,c.1.2.2.2.2.2.2.2.2.2.2.2.1.2.2),c.1.2.2.2.2.2.2.2.2.2.2.2.2.1,c.1.2.2.2.2.2.2.2.2.2.2.2.2.2.1,c.1.2.2.2.2.2.2.2.2.2.2.2.2.2.2.1,(),c.1.2.2.2.2.2.2.2.2.2.2.2.2.2.2.2.2.1,c.1.2.2.2.2.2.2.2.2.2.2.2.2.2.2.2.2.2.1,c.1.2.2.2.2.2.2.2.2.2.2.2.2.2.2.2.2.2.2)) () h o o
    cases hc
   cases hc
  cases hc
 refine zU 1 o<|cB h λu g4 h=>rc [0] (ov _ _ _ g4) kr o o o λ_=>q 1 [(0,ts C),(3,ptr V 0),(5,ptr f 0),(6,ptr M 0),(7,ti G.1),(97,tb u.1),(98,ptr M 15)] [] o<|st 1 f12 ty4 o o o o tr<|za<|zs<|iT λa2=>?_
 refine gc (S:=bG [aZ f 103 W59 (a2,u.2.2.1,u.2.2.2)]) kr ?_
 refine zH 3 [0,1,2] (ag (aq 0 o) ak) kr o o λs=>bq 3 (tp a2) s o kr (cp (S:=λw=>bG [aZ f 103 W59 (a2,u.2.2.1,u.2.2.2)] w) (bz 0 o) 0 f0 o o o o (av aa) ik) λs=>zH 3 [5,6,7] s kr o o λs=>bq 8 (tp a2) s o kr (cp (S:=λw=>bG [aZ f 103 W59 (a2,u.2.2.1,u.2.2.2)] w) (bz 0 o) 0 f0 o o o o (av aa) ik) λs=>zH 3 [10,11,12] s kr o o λs=>bq 13 (tp a2) s o kr (cp (S:=λw=>bG [aZ f 103 W59 (a2,u.2.2.1,u.2.2.2)] w) (bz 0 o) 0 f0 o o o o (av aa) ik) λs=>zH 2 [15,18] s kr o o λs=>aF 4 kr o ?_
 obtain⟨c5,h⟩:=cu h
 refine az (R':=Res.cls dS a2 u.2.1.2) 1 o (eO c5)<|nL o<|pk [1,0,0,0,0,0] o<|fw λg5 hp=>?_
 rw[hp]
 clear hp
 refine cB h λa3 g6 h=>rc [0] (dg _ _ _ g6) kr o o o λ_=>za<|bi (ag (aq 1 o) ak) ?_
 refine ai [0,3,5,6,7,103,107,112,114,116] o<|aF 9 kr o<|cB h λa4 g7 h=>rc [0] (dg _ _ _ g7) kr o o o λ_=>za<|bi (ag (aq 1 o) ak) ?_
 refine ai [0,3,5,6,7,103,108,112,114,116] o<|aF 14 kr o<|cB h λa5 g8 h=>rc [0] (dg _ _ _ g8) kr o o o λ_=>za<|bi (ag (aq 1 o) ak) ?_
 refine ai [0,3,5,6,7,103,108,113,114,116] o<|iE h λhc h=>bq 16 (ptr M (16+0*32)) (ag (aq 1 o) ak) o kr (bO o o hc.1 hc.2 tJ bB) λs=>aF 17 kr o<|iV 2 ((g13 (.fst (.elem 0 .here)))) o o o pof (ab (ab (ab (ab (ab (ab (ab (ab (ab (ab (ab (ab (ab (av (aw pix aa))))))))))))))) bB<|za<|bi (ag (aq 1 o) ak) ?_
 refine ai [0,3,5,6,7,108,113,116] o<|iE h λhc h=>bq 19 (ptr M (16+1*32)) (ag (aq 1 o) ak) o kr (bO o o hc.1 hc.2 tJ bB) λs=>aF 20 kr o<|iV 2 ((g13 (.fst (.elem 1 .here)))) o o o pof (ab (ab (ab (ab (ab (ab (ab (ab (ab (ab (ab (ab (ab (av (aw pix aa))))))))))))))) bB<|nL o<|za<|bi (ag (aq 1 o) ak) ?_
 refine ai [0,3,5,6,7,113] o<|zH 1 [21] (ag (aq 1 o) ak) kr o o λs=>aF 22 kr o<|st 2 f14 bB o o o o tr<|za<|bi (ag (aq 1 o) ak) ?_
 refine ai [0,3,5,6,7] o<|dU kr<|zt<|jK h (γ:=Value) (λW a7=>[(0,ts C),(3,ptr V 0),(5,ptr f 0),(6,ptr M 0),(7,ti G.1)]) (λW a7=>[Res.cls gw (.pointer (some ⟨f,0,none⟩)) W.1,Res.var M 30 W1 (Dk R.2 H u.1 (List.set (List.set R.2.2.2.2.2.2.2.2.2.2.2.2.2.2.1 0 a3.1) 1 a4.1) a5.1 a7),Res.own H 52 Y52 J.1,Res.own a7 56 Y56 W.2,Res.var V 30 Y30 (0,0,0,0,[],[],0,0,0,(0,0,()),(0,0,()),(0,0,()),false,(List.replicate 2 (z32:List (Int))),z32,[],0,0,())]) (λh0 h=>?_) λW a7 h=>?_
 ·refine zU 3 o<|yl 1 f0 ik o o o tr o<|cB h λa8 h1 h=>rc [0] (iq _ _ _ h1) kr o o o λ_=>zA o<|zb<|fH (x:=a8.2) ?_
  refine az (R':=Res.clsif dS (.pointer (some ⟨g5,0,none⟩)) a8.2 u.2.1.1) 0 o (du c5)<|pk [1,0,0,0,0,0] o<|gR (x:=((u.2.1.1,a8.2),u.2.2.1,u.2.2.2)) ?_
  refine ai [0,3,5,6,7,124,125] o<|bl (γ:=Value) (λ(m:Int×((Int×Z13)×Bool×Unit)×(List Z55)) b1=>[(0,ts C),(3,ptr V 0),(5,ptr f 0),(6,ptr M 0),(7,ti G.1),(124,ti (wrap .i64 a8.1)),(125,ti m.1)]) (λ(m:Int×((Int×Z13)×Bool×Unit)×(List Z55)) b1=>[Res.cls gw (.pointer (some ⟨f,0,none⟩)) m.2.1,Res.var M 30 W1 (Dk R.2 H u.1 (List.set (List.set R.2.2.2.2.2.2.2.2.2.2.2.2.2.2.1 0 a3.1) 1 a4.1) a5.1 b1),Res.own H 52 Y52 J.1,Res.own b1 56 Y56 m.2.2,Res.var V 30 Y30 (0,0,0,0,[],[],0,0,0,(0,0,()),(0,0,()),(0,0,()),false,(List.replicate 2 (z32:List (Int))),z32,[],0,0,())]) (fg h0 a8) (0,((u.2.1.1,a8.2),u.2.2.1,u.2.2.2),[]) (.slice none 0 0) h o o ?_
  clear h
  intro c6 m b1 h
  cases c6 with
  |zero=>cases h
  |succ c6=>
  simp only[fg]at h
  refine zW o<|zs<|rI h o (λhc h=>?_) λhc h=>?_
  ·refine zk<|zt<|zs<|zb<|zU 1 o<|cB h λO h2 h=>rc [0] (ov _ _ _ h2) kr o o o λ_=>y (bc o xo o o (.cons f2 o o aa .nil)) o ?_
   refine aB (t:=Y56) o xo o λj2=>st 0 .here jg o o o o tr<|za<|zs<|pk [1,0,0,0,0,0] o<|iT λh3=>?_
   refine zr<|zm 3 o<|yl 0 f0 ik o o o tr o ?_
   obtain⟨c7,h⟩:=cu h
   refine az (R':=Res.cls dS h3 O.2.1.2) 1 o (eO c7)<|nL o<|pk [1,0,0,0,0,0,0] o<|fw λh4 hp=>?_
   rw[hp]
   clear hp
   refine cB h λh5 h6 h=>rc [0] (bV _ _ _ h6) kr o o o λ_=>zm 1 o<|st 2 f0 ty2 o o o o tr<|zZ 3 o<|yl 1 f0 ik o o o tr o<|cB h λb3 h7 h=>rc [0] (dg _ _ _ h7) kr o o o λ_=>zm 1 o<|st 2 f1 bB o o o o tr<|nL o<|za<|zr<|zm 1 o ?_
   refine yl 3 f15 tx1 o o o tr o<|yl 2 .here jg o o o tr o<|bC (B:=48) af o uV o o o (.cons o .nil) o λj3=>?_
   refine iE h λhc h=>aW (B:=48) af 6 o o (bM 0 o o) o uV o o hc o λh8=>?_
   refine pk [1,1,1,1,1,1,1] o<|zm 1 o<|st 3 f15 tx1 o o o o tr<|nL o<|zn<|zi<|zt<|zr<|zA o<|fH (x:=b3.2) ?_
   refine az (R':=Res.clsif dS (.pointer (some ⟨h4,0,none⟩)) b3.2 O.2.1.1) 0 o (du c7)<|pk [1,0,0,0,0,0,0] o<|gR (x:=((O.2.1.1,b3.2),O.2.2.1,O.2.2.2)) ?_
   exact pk [0,1,1,1,1] o<|aY ((wrap .i64 (m.1+1)),((O.2.1.1,b3.2),O.2.2.1,O.2.2.2),(m.2.2++[(h5.1,b3.1,O.1,())])) h8 (Nat.lt_succ_self _) h o o
  exact zx<|ze<|ze<|zq<|zt<|ah (m.2.1,m.2.2) b1 h o o
 refine zs<|iT λh9=>?_
 refine zr<|zm 3 o<|yl 0 f0 ik o o o tr o ?_
 obtain⟨i0,h⟩:=cu h
 refine az (R':=Res.cls dS h9 W.1.1.2) 1 o (eO i0)<|pk [1,0,0,0,0,0] o<|fw λa9 hp=>?_
 rw[hp]
 clear hp
 refine cB h λb4 i1 h=>rc [0] (tO _ _ _ i1) kr o o o λ_=>zm 2 o<|st 2 f16 ty3 o o o o tr<|nL o<|zZ 3 o<|yl 1 f0 ik o o o tr o<|cB h λb0 i2 h=>rc [0] (bV _ _ _ i2) kr o o o λ_=>zm 1 o<|st 2 f17 ty2 o o o o tr<|za<|zs<|zs ?_
 refine pk [4,2,0,0,0,0] o<|dw (v:=a7) (T0:=W1) (x0:=(uK R.2 H u.1 (List.set (List.set R.2.2.2.2.2.2.2.2.2.2.2.2.2.2.1 0 a3.1) 1 a4.1) a5.1 a7 (wrap .i64 b4.1) b0.1)) (t:=Y56) f15 o o ?_
 refine pk [3,0,0,0,0] o<|dw (v:=H) (T0:=W5) (x0:=(uK R.2 H u.1 (List.set (List.set R.2.2.2.2.2.2.2.2.2.2.2.2.2.2.1 0 a3.1) 1 a4.1) a5.1 W.2 (wrap .i64 b4.1) b0.1)) (t:=Y52) f4 o o ?_
 refine zr<|zm 1 o<|yl 0 .here bR o o o tr o<|cB h λN i3 h=>au (oW _ _ _ i3) kr o o<|zm 5 o<|zZ 3 o<|yl 2 f1 ty4 o o o tr o<|q 1 [(0,ts C),(3,ptr V 0),(5,ptr f 0),(6,ptr M 0),(7,ti G.1),(11,ts N.1),(12,ti N.2),(172,tb W.1.2.1)] [] o<|bL h 7 (λd=>[(0,ts C),(3,ptr V 0),(6,ptr M 0),(7,ti G.1),(11,ts N.1),(12,ti N.2),(179,tb d.1)]) (λd=>[Res.var M 30 Y30 (uK R.2 J.1 u.1 (List.set (List.set R.2.2.2.2.2.2.2.2.2.2.2.2.2.2.1 0 a3.1) 1 a4.1) a5.1 W.2 (wrap .i64 b4.1) b0.1),Res.var a9 171 W63 d.2,Res.var f 103 W59 ((.pointer (some ⟨a9,0,none⟩)),W.1.2.1,W.1.2.2),Res.var V 30 Y30 (0,0,0,0,[],[],0,0,0,(0,0,()),(0,0,()),(0,0,()),false,(List.replicate 2 (z32:List (Int))),z32,[],0,0,())]) (λj4 h=>?_) λd h=>?_
 ·rcases Bool.eq_false_or_eq_true W.1.2.1 with hh|hh
  ·rw[if_pos hh]at h
   refine pC 172 hh o ?_
   exact zN o<|zt<|ah (true,b0.2) () h o o
  rw[if_neg (ne_true_of_eq_false hh)]at h
  refine pC 172 hh o ?_
  refine zm 3 o<|al dl o ?_
  refine yl 2 f0 ik o o o tr o<|al dl o ?_
  exact cB h λc8 i4 h=>rc [1] (sL _ _ _ i4) kr o o o λ_=>zN o<|pk [1,0,0,0] o<|zt<|ah ((c8.1 !=0),c8.2) () h o o
 refine q 1 [(0,ts C),(3,ptr V 0),(6,ptr M 0),(7,ti G.1),(11,ts N.1),(12,ti N.2),(180,tb d.1)] [] o<|aH 3 [(0,ts C),(3,ptr V 0),(6,ptr M 0),(7,ti G.1),(11,ts N.1),(183,tb (d.1||(N.2 !=0)))] [Res.var M 30 Y30 (uK R.2 J.1 u.1 (List.set (List.set R.2.2.2.2.2.2.2.2.2.2.2.2.2.2.1 0 a3.1) 1 a4.1) a5.1 W.2 (wrap .i64 b4.1) b0.1),Res.var a9 171 W63 d.2,Res.var f 103 W59 ((.pointer (some ⟨a9,0,none⟩)),W.1.2.1,W.1.2.2),Res.var V 30 Y30 (0,0,0,0,[],[],0,0,0,(0,0,()),(0,0,()),(0,0,()),false,(List.replicate 2 (z32:List (Int))),z32,[],0,0,())] (?_) ?_
 ·clear h
  rcases Bool.eq_false_or_eq_true d.1 with hh|hh
  ·rw[hh]
   exact zA o<|ap () o o
  rw[hh]
  exact zA o<|ap () o o
 refine q 1 [(0,ts C),(3,ptr V 0),(6,ptr M 0),(7,ti G.1),(11,ts N.1),(184,tb (d.1||(N.2 !=0)))] [] o ?_
 obtain⟨c9,e,h⟩:=aj h;rw[e]
 refine aH 4 [(3,ptr V 0),(6,ptr M 0),(7,ti G.1),(188,tb (c9||(N.1 !=C)))] [Res.var M 30 Y30 (uK R.2 J.1 u.1 (List.set (List.set R.2.2.2.2.2.2.2.2.2.2.2.2.2.2.1 0 a3.1) 1 a4.1) a5.1 W.2 (wrap .i64 b4.1) b0.1),Res.var a9 171 W63 d.2,Res.var f 103 W59 ((.pointer (some ⟨a9,0,none⟩)),W.1.2.1,W.1.2.2),Res.var V 30 Y30 (0,0,0,0,[],[],0,0,0,(0,0,()),(0,0,()),(0,0,()),false,(List.replicate 2 (z32:List (Int))),z32,[],0,0,())] (?_) ?_
 ·clear h
  cases c9
  ·exact zA o<|ap () o o
  exact zA o<|ap () o o
 refine za<|rI h o (λhc h=>?_) λhc h=>?_
 ·refine zu<|y (bc o gU o o .nil) o ?_
  refine zm 1 o<|st 3 .here bR o o o o tr<|zE o<|zT ?_
  cases h
  exact aC (rs:=[.tmp 2,.cell 3 30,.tmp 4]) o (.cons (.tmp o) (.cons (.cell 3 .here o o o aa bR) (.cons (.tmp o) (.nil)))) o (λ_ vs g=>aG vs g) (λ_ _ _=>List.nil_sublist _)
 refine zk<|zt<|zs<|dA kr<|zF 2 [0,2] kr o o<|ae 1 kr o<|yl 0 .here bR o o o tr o<|zL [2,3,191] o<|ae 3 kr o<|st 3 .here bR o o o o tr<|zL [2,3] o<|zF 1 [4] kr o o<|aJ kr<|zt ?_
 refine zR ?_
 cases h
 exact aC (rs:=[.tmp 2,.cell 3 30,.tmp 4]) o (.cons (.tmp o) (.cons (.cell 3 .here o o o aa bR) (.cons (.tmp o) (.nil)))) o (λ_ vs g=>aG vs g) (λ_ _ _=>List.nil_sublist _)
theorem jh(u:Nat)(c f r)(h:dk c f=some r):Fn PP 107 [ptr u 0,ti f] [Res.var u 113 W66 c] (λ_=>ts r.1) (λ_=>[Res.var u 113 W66 r.2]):=by
 unfold dk at h
 refine enter Tryz.func107 o 41 o o λF=>?_
 refine zW o<|zs<|zU 3 o<|yl 0 f1 ty4 o o o tr o<|q 1 [(0,ptr u 0),(1,ti f),(10,tb c.2.1)] [] o<|aH 8 [(0,ptr u 0),(1,ti f),(18,tb (c.2.1||(decide ((List.length c.1:Int)<f))))] [Res.var u 113 W66 c] (?_) ?_
 ·clear h
  rcases Bool.eq_false_or_eq_true c.2.1 with hh|hh
  ·rw[hh]
   exact zA o<|ap () o o
  rw[hh]
  refine zm 3 o<|al dl o ?_
  exact yl 0 f0 ty9 o o o tr o<|zA o<|ap () o o
 refine za<|rI h o (λhc h=>?_) λhc h=>?_
 ·refine zU 3 o<|st 0 f1 ty4 o o o o tr<|zZ 1 o<|iE h λhc h=>yO (B:=1) af o el5 o zf5 o o o hc.1 hc.2 o λM=>?_
  refine y (nN af 0 o o o o o) o ?_
  refine zE o<|zT ?_
  cases h
  exact bm o (.tmp o) (.cons _ (.cons_cons _ .slnil))
 refine zy<|zm 3 o<|yl 0 f0 ty9 o o o tr o<|zm 1 o<|iE h λhc h=>y (gD (i:=(0:Int)) (j:=f) af o o o hc.1 hc.2.1 hc.2.2 o) o ?_
 refine q 1 [(0,ptr u 0),(1,ti f),(5,ts (List.drop 0 (List.take (Int.toNat f) c.1)))] [] o ?_
 obtain⟨V,e,h⟩:=aj h;rw[e]
 refine zZ 4 o<|yl 0 f0 ty9 o o o tr o<|zm 1 o<|iE h λhc h=>y (gD (i:=f) (j:=(List.length c.1:Int)) af o o o hc.1 hc.2.1 hc.2.2 o) o ?_
 refine zm 2 o<|st 0 f0 ty9 o o o o tr<|zz<|zE o ?_
 cases h
 exact bm o (.tmp o) (.cons_cons _ .slnil)
theorem aX(u:Nat)(R M r)(h:aA R M=some r):Fn PP 53 [ptr u 0,ti M] [Res.var u 113 W66 R] (λ_=>ti r.1) (λ_=>[Res.var u 113 W66 r.2]):=by
 unfold aA at h
 refine enter Tryz.func53 o 25 o o λF=>?_
 refine zU 1 o<|zZ 2 o<|cB h λf H h=>rc [0] (jh _ _ _ _ H) kr o o o λ_=>zm 1 o<|zz<|q 1 [(1,ti M),(5,ts f.1),(6,.one (.int .u64) 0)] [] o<|za<|bD h (λV=>[(6,.one (.int .u64) V)]) (λV=>[Res.var u 113 W66 f.2]) (λG h=>?_) λV h=>?_
 ·refine zW o<|zb<|ai [1,5,6,7] o<|bl (γ:=Unit) (λ(c:Int×Int) _=>[(1,ti M),(5,ts f.1),(6,.one (.int .u64) c.1),(7,ti c.2)]) (λ(c:Int×Int) _=>[Res.var u 113 W66 f.2]) (cY M f G) (0,0) () h o o ?_
  clear h
  intro W c gg h
  cases W with
  |zero=>cases h
  |succ W=>
  simp only[cY]at h
  refine zs<|zW o<|rI h o (λhc h=>?_) λhc h=>?_
  ·refine zk<|zt<|zs<|zb<|zr<|zm 4 o<|iE h λhc h=>y (eA af o o hc.1 hc.2 o) o ?_
   refine q 3 [(6,.one (.int .u64) (ior .u64 (ja .u64 c.1 8) (wrap .u64 (List.getD f.1 (Int.toNat c.2) 0)))),(7,ti c.2)] [1,5] o ?_
   obtain⟨C,e,h⟩:=aj h;rw[e]
   refine zn<|zi<|zt<|zr<|q 3 [(6,.one (.int .u64) C),(7,ti (wrap .i64 (c.2+1)))] [1,5] o ?_
   obtain⟨N,e,h⟩:=aj h;rw[e]
   exact za<|aY (C,N) () (Nat.lt_succ_self _) h o o
  exact zx<|ze<|ze<|zq<|zt<|ah c.1 () h o o
 refine zU 3 o<|zf ?_
 cases h
 exact bm o (.tmp o) (.cons_cons _ .slnil)
theorem iZ(f r)(h:fT f=some r):bw PP 150 [ts f] (.one (.int .u64) r):=by
 unfold fT at h
 refine enter Tryz.func150 o 19 o o λF=>?_
 refine zU 1 o<|zz<|q 1 [(0,ts f),(3,.one (.int .u64) 0)] [] o<|za<|bD h (λu=>[(3,.one (.int .u64) u)]) (λu=>[]) (λR h=>?_) λu h=>?_
 ·refine zW o<|zb<|ai [0,3,4] o<|bl (γ:=Unit) (λ(c:Int×Int) _=>[(0,ts f),(3,.one (.int .u64) c.1),(4,ti c.2)]) (λ(c:Int×Int) _=>[]) (eF f R) (0,0) () h o o ?_
  clear h
  intro M c gg h
  cases M with
  |zero=>cases h
  |succ M=>
  simp only[eF]at h
  refine zs<|zW o<|rI h o (λhc h=>?_) λhc h=>?_
  ·refine zk<|zt<|zs<|zb<|zr<|zm 4 o<|iE h λhc h=>y (eA af o o hc.1 hc.2 o) o ?_
   refine q 2 [(4,ti c.2),(17,.one (.int .u64) (wrap .u64 ((wrap .u64 (c.1*256))+(wrap .u64 (List.getD f (Int.toNat c.2) 0)))))] [0] o ?_
   obtain⟨V,e,h⟩:=aj h;rw[e]
   refine zN o<|zi<|zt<|zr<|q 3 [(3,.one (.int .u64) V),(4,ti (wrap .i64 (c.2+1)))] [0] o ?_
   obtain⟨W,e,h⟩:=aj h;rw[e]
   exact za<|aY (V,W) () (Nat.lt_succ_self _) h o o
  exact zx<|ze<|ze<|zq<|zt<|ah c.1 () h o o
 refine zU 2 o<|zf ?_
 cases h
 exact ax o (.tmp o)
theorem uk(c r)(h:jU c=some r):bw PP 149 [ts c] (ti r):=by
 unfold jU at h
 refine enter Tryz.func149 o 28 o o λF=>?_
 refine zW o<|zs<|zb<|zU 1 o<|iE h λhc h=>y (eA af o o hc.1 hc.2 o) o ?_
 refine zA o<|rI h o (λhc h=>zU 1 o<|zf<|zB<|zT<|by cases h;exact ax o (.tmp o)) λhc h=>zU 1 o<|iE h λhc h=>y (eA af o o hc.1 hc.2 o) o ?_
 refine zA o<|rI h o (λhc h=>zU 1 o<|zf<|zB<|zT<|by cases h;exact ax o (.tmp o)) λhc h=>zU 1 o<|iE h λhc h=>y (eA af o o hc.1 hc.2 o) o ?_
 refine zA o<|rI h o (λhc h=>zU 1 o<|zf<|zB<|zT<|by cases h;exact ax o (.tmp o)) λhc h=>zW o<|rI h o (λhc h=>zU 1 o<|zf<|zB<|zT<|by cases h;exact ax o (.tmp o)) λhc h=>zk<|zi<|zt<|zU 1 o<|iE h λhc h=>y (gD (i:=3) (j:=5) af o o o hc.1 hc.2.1 hc.2.2 o) o ?_
 refine cB h λf u h=>au (iZ _ _ u) kr o o<|q 2 [(3,ti (wrap .i64 f))] [] o ?_
 obtain⟨M,e,h⟩:=aj h;rw[e]
 refine za<|zs<|zW o<|rI h o (λhc h=>zU 1 o<|zf<|zT<|by cases h;exact ax o (.tmp o)) λhc h=>zy<|zE o ?_
 cases h
 exact ax o (.tmp o)
theorem oD(f r)(h:iB f=some r):bw PP 151 [ts f] (.one W73 r):=by
 unfold iB at h
 refine enter Tryz.func151 o 21 o o λF=>?_
 refine zu<|aB (t:=W73) o lu o λu=>zz<|aB (t:=W73) o lu o λM=>za<|bD h (λV=>[(2,ptr u 0),(3,ptr M 0)]) (λV=>[Res.var M 26 W73 V,Res.var u 26 W73 z32]) (λC h=>?_) λV h=>?_
 ·refine zW o<|zb<|ai [0,2,3,4] o<|bl (γ:=Unit) (λ(c:Int×List (Int)) _=>[(0,ts f),(2,ptr u 0),(3,ptr M 0),(4,ti c.1)]) (λ(c:Int×List (Int)) _=>[Res.var M 26 W73 c.2,Res.var u 26 W73 z32]) (fJ f C) (0,z32) () h o o ?_
  clear h
  intro R c gg h
  cases R with
  |zero=>cases h
  |succ R=>
  simp only[fJ]at h
  refine zs<|zu<|q 5 [(0,ts f),(2,ptr u 0),(3,ptr M 0),(4,ti c.1),(9,tb (decide (c.1<(List.length f:Int))))] [] o ?_
  obtain⟨W,e,h⟩:=aj h;rw[e]
  refine aH 3 [(0,ts f),(2,ptr u 0),(3,ptr M 0),(4,ti c.1),(12,tb (W&&(decide (c.1<32))))] [Res.var M 26 W73 c.2,Res.var u 26 W73 z32] (?_) ?_
  ·clear h
   cases W
   ·exact zA o<|ap () o o
   exact zA o<|ap () o o
  refine za<|rI h o (λhc h=>?_) λhc h=>?_
  ·refine zk<|zt<|zs<|zb<|zr<|zm 3 o<|iE h λhc h=>y (eA af o o hc.1 hc.2 o) o ?_
   refine iE h λhc h=>y (bO o o hc.1 hc.2 nl ty5) o ?_
   refine iV 0 (.elem (Int.toNat c.1) .here) o o o pof (aw pix aa) ty5<|zn<|zi<|zt<|zr<|q 3 [(0,ts f),(2,ptr u 0),(3,ptr M 0),(4,ti (wrap .i64 (c.1+1)))] [] o ?_
   obtain⟨H,e,h⟩:=aj h;rw[e]
   exact za<|aY (H,(List.set c.2 (Int.toNat c.1) (List.getD f (Int.toNat c.1) 0))) () (Nat.lt_succ_self _) h o o
  exact zx<|ze<|ze<|zq<|zt<|ah c.2 () h o o
 refine zu<|yl 0 .here bB o o o tr o<|st 1 .here bB o o o o tr<|zf ?_
 cases h
 exact aT o (.cell 1 .here o o o aa bB) (λ_ _ g=>g) (λ_ _ _=>List.nil_sublist _)
theorem ul(c r)(h:gJ c=some r):bw PP 108 [ts c] (.tup [⟨Y52,r.1⟩,⟨(.int .i64),r.2.1⟩,⟨(.int .i64),r.2.2⟩]):=by
 unfold gJ at h
 refine enter Tryz.func108 o 68 o o λF=>?_
 refine zu<|aB (t:=Y52) o ii o λu=>zm 2 o<|zz<|y (bc o ii o o .nil) o ?_
 refine aB (t:=Y52) o ii o λM=>st 0 .here br o o o o tr<|za<|zs<|zW o<|rI h o (λhc h=>zu<|yl 0 .here br o o o tr o<|st 1 .here br o o o o tr<|zE o<|zT<|by cases h;exact aC (rs:=[.cell 2 52,.tmp 3,.tmp 4]) o (.cons (.cell 1 .here o o o aa br) (.cons (.tmp o) (.cons (.tmp o) (.nil)))) o (λ_ vs g=>aG vs g) (λ_ _ _=>List.nil_sublist _)) λhc h=>zy<|zm 1 o<|cB h λf d h=>au (uk _ _ d) kr o o<|zA o<|zs<|zW o<|rI h o (λhc h=>zu<|yl 0 .here br o o o tr o<|st 1 .here br o o o o tr<|zE o<|zT<|by cases h;exact aC (rs:=[.cell 2 52,.tmp 3,.tmp 4]) o (.cons (.cell 1 .here o o o aa br) (.cons (.tmp o) (.cons (.tmp o) (.nil)))) o (λ_ vs g=>aG vs g) (λ_ _ _=>List.nil_sublist _)) λhc h=>?_
 refine zk<|zt<|zs<|zu<|q 3 [(0,ts c),(2,ptr u 0),(5,ptr M 0),(6,ti f),(20,tb (f==0))] [] o ?_
 obtain⟨H,e,h⟩:=aj h;rw[e]
 refine aH 5 [(0,ts c),(2,ptr u 0),(5,ptr M 0),(6,ti f),(25,tb (H||(decide ((List.length c:Int)<f))))] [Res.var M 52 Y52 (0,0,0,z32,[],()),Res.var u 52 Y52 (0,0,0,z32,[],())] (?_) ?_
 ·clear h
  cases H
  ·exact zA o<|ap () o o
  exact zA o<|ap () o o
 refine za<|rI h o (λhc h=>zu<|yl 0 .here br o o o tr o<|st 1 .here br o o o o tr<|zE o<|zT<|by cases h;exact aC (rs:=[.cell 2 52,.tmp 3,.tmp 4]) o (.cons (.cell 1 .here o o o aa br) (.cons (.tmp o) (.cons (.tmp o) (.nil)))) o (λ_ vs g=>aG vs g) (λ_ _ _=>List.nil_sublist _)) λhc h=>zk<|zt<|zs ?_
 obtain⟨G,h⟩:=cu h
 obtain⟨W,h⟩:=cu h
 refine cB h λV N h=>gc (S:=bG []) kr ?_
 refine zw (γ:=Nat) (λ(R:Nat)=>[(0,ts c),(2,ptr u 0),(5,ptr M 0),(6,ti f),(7,ptr R 0)]) (λ(R:Nat)=>[Res.var R 52 Y52 ((wrap .i64 (List.getD c 0 0)),(wrap .i64 V),0,z32,[],()),Res.var M 52 Y52 (0,0,0,z32,[],()),Res.var u 52 Y52 (0,0,0,z32,[],())]) (λR=>?_) (λJ=>?_)
 ·refine zt<|bD h (λC=>[(2,ptr u 0),(5,ptr M 0),(6,ti f),(7,ptr R 0)]) (λC=>[Res.var R 52 Y52 C,Res.var M 52 Y52 (0,0,0,z32,[],()),Res.var u 52 Y52 (0,0,0,z32,[],())]) (λa6 h=>?_) λC h=>?_
  ·refine zU 1 o<|yl 0 f0 ty3 o o o tr o<|za<|zb<|zW o<|rI h o (λhc h=>?_) λhc h=>?_
   ·refine zU 1 o<|iE h λhc h=>y (gD (i:=3) (j:=11) af o o o hc.1 hc.2.1 hc.2.2 o) o ?_
    refine cB h λm O h=>au (iZ _ _ O) kr o o<|zA o<|zs<|zW o<|rI h o (λhc h=>zu<|yl 1 .here br o o o tr o<|st 2 .here br o o o o tr<|zE o<|zT<|zB<|zT<|by cases h;exact aC (rs:=[.cell 2 52,.tmp 3,.tmp 4]) o (.cons (.cell 2 .here o o o aa br) (.cons (.tmp o) (.cons (.tmp o) (.nil)))) o (λ_ vs g=>aG vs g) (λ_ _ _=>List.nil_sublist _)) λhc h=>zy<|zm 3 o<|st 0 f2 ty2 o o o o tr<|za<|zr<|zm 1 o<|iE h λhc h=>y (gD (i:=11) (j:=43) af o o o hc.1 hc.2.1 hc.2.2 o) o ?_
    exact cB h λw Z h=>au (oD _ _ Z) kr o o<|zm 1 o<|st 0 f3 bB o o o o tr<|nL o<|zn<|zi<|zt<|ah ((wrap .i64 (List.getD c 0 0)),(wrap .i64 V),(wrap .i64 m),w,[],()) () h o o
   refine zW o<|rI h o (λhc h=>?_) λhc h=>?_
   ·refine zr<|zm 1 o<|iE h λhc h=>y (gD (i:=3) (j:=35) af o o o hc.1 hc.2.1 hc.2.2 o) o ?_
    exact cB h λa1 a2 h=>au (oD _ _ a2) kr o o<|zm 1 o<|st 0 f3 bB o o o o tr<|zn<|zi<|zt<|ah ((wrap .i64 (List.getD c 0 0)),(wrap .i64 V),0,a1,[],()) () h o o
   refine zr<|zm 2 o<|iE h λhc h=>y (gD (i:=5) (j:=f) af o o o hc.1 hc.2.1 hc.2.2 o) o ?_
   exact zm 1 o<|st 0 f4 ty9 o o o o tr<|zn<|zi<|zt<|ah ((wrap .i64 (List.getD c 0 0)),(wrap .i64 V),0,z32,(List.drop 5 (List.take (Int.toNat f) c)),()) () h o o
  refine zs<|zu<|yl 0 .here br o o o tr o<|cB h λa7 a3 h=>au (om _ _ a3) kr o o<|zA o<|rI h o (λhc h=>zu<|yl 1 .here br o o o tr o<|st 2 .here br o o o o tr<|zE o<|zT<|by cases h;exact aC (rs:=[.cell 2 52,.tmp 3,.tmp 4]) o (.cons (.cell 2 .here o o o aa br) (.cons (.tmp o) (.cons (.tmp o) (.nil)))) o (λ_ vs g=>aG vs g) (λ_ _ _=>List.nil_sublist _)) λhc h=>zy<|yl 0 .here br o o o tr o<|zm 1 o<|st 2 .here br o o o o tr<|zE o ?_
  cases h
  exact aC (rs:=[.cell 2 52,.tmp 3,.tmp 4]) o (.cons (.cell 2 .here o o o aa br) (.cons (.tmp o) (.cons (.tmp o) (.nil)))) o (λ_ vs g=>aG vs g) (λ_ _ _=>List.nil_sublist _)
 refine zH 1 [0] ak kr o o λs=>bq 1 (.one (.int .u8) (List.getD c 0 0)) s o kr (eA af o o G.1 G.2 o) λs=>zH 2 [2,3] s kr o o λs=>bq 4 (ts (List.drop 1 (List.take 3 c))) s o kr (gD (i:=1) (j:=3) af o o o W.1 W.2.1 W.2.2 o) λs=>?_
 refine tj (i:=5) (j:=8) kr o o ?_ ?_
 ·refine au (iZ _ _ N) kr o o<|za<|bi ak ?_
  refine ai [0,2,5,6,29,32] o<|zH 1 [6] ak kr o o λs=>bq 7 (.one Y52 ((wrap .i64 (List.getD c 0 0)),(wrap .i64 V),0,z32,[],())) s o kr (bc o ii o o (.cons f0 o o aa (.cons f1 o o aa .nil))) λs=>aF 8 kr o<|aB (t:=Y52) o ii o λa4=>za<|bi ak ?_
  refine ai [0,2,5,6,7,34] o<|aF 9 kr o<|st 0 .here br o o o o tr<|za<|bi ak ?_
  exact ai [0,2,5,6,7] o<|dU kr<|ai [0,2,5,6,7] o<|J a4
 refine aB (t:=Y52) o ii o λa5=>za<|bi ak ?_
 refine ai [0,2,5,6,7,29,31] o<|aF 5 kr o<|au (iZ _ _ N) kr o o<|za<|bi ak ?_
 refine ai [0,2,5,6,7,29,32] o<|zH 1 [6] ak kr o o λs=>bq 7 (.one Y52 ((wrap .i64 (List.getD c 0 0)),(wrap .i64 V),0,z32,[],())) s o kr (bc o ii o o (.cons f0 o o aa (.cons f1 o o aa .nil))) λs=>aF 9 kr o<|st 0 .here br o o o o tr<|za<|bi ak ?_
 exact ai [0,2,5,6,7] o<|dU kr<|ai [0,2,5,6,7] o<|J a5
theorem km(f:Nat)(V r)(h:cS V=some r):Fn PP 54 [ptr f 0] [Res.var f 113 W66 V] (λv=> .one W69 v) (λv=>[Res.var f 113 W66 r.2,Res.own v 52 Y52 r.1]):=by
 unfold cS at h
 refine enter Tryz.func54 o 45 o o λF=>?_
 refine zU 1 o<|zZ 1 o<|cB h λu H h=>rc [0] (aX _ _ _ _ H) kr o o o λ_=>zm 1 o<|zz<|q 1 [(0,ptr f 0),(3,ti u.1),(4,.one W69 (.slice none 0 0))] [] o<|bH (.slice none 0 0) o 52 Y52 ?_
 refine za<|jK h (γ:=Value) (λM g5=>[(4,.one W69 g5)]) (λM g5=>[Res.own g5 52 Y52 M.1,Res.var f 113 W66 M.2]) (λG h=>?_) λM g5 h=>?_
 ·refine zW o<|zb<|ai [0,3,4,5] o<|bl (γ:=Value) (λ(c:Int×ge×(List Z51)) g10=>[(0,ptr f 0),(3,ti u.1),(4,.one W69 g10),(5,ti c.1)]) (λ(c:Int×ge×(List Z51)) g10=>[Res.own g10 52 Y52 c.2.2,Res.var f 113 W66 c.2.1]) (bY u G) (0,u.2,[]) (.slice none 0 0) h o o ?_
  clear h
  intro R c g10 h
  cases R with
  |zero=>cases h
  |succ R=>
  simp only[bY]at h
  refine zs<|zu<|q 4 [(4,.one W69 g10),(5,ti c.1),(14,tb (decide (c.1<u.1)))] [0,3] o ?_
  obtain⟨W,e,h⟩:=aj h;rw[e]
  refine aH 6 [(0,ptr f 0),(3,ti u.1),(4,.one W69 g10),(5,ti c.1),(20,tb (W&&(!c.2.1.2.1)))] [Res.own g10 52 Y52 c.2.2,Res.var f 113 W66 c.2.1] (?_) ?_
  ·clear h
   cases W
   ·exact zA o<|ap () o o
   refine zm 3 o<|al dl o ?_
   exact yl 1 f1 ty4 o o o tr o<|zA o<|ap () o o
  refine za<|rI h o (λhc h=>?_) λhc h=>?_
  ·refine zk<|zt<|zs<|zb<|zU 3 o<|yl 1 f0 ty9 o o o tr o<|cB h λN J h=>au (ul _ _ J) kr o o<|zm 4 o<|aB (t:=Y52) o ii o λw=>st 0 .here br o o o o tr<|zA o<|zs<|zW o ?_
   refine rI h o (λhc h=>?_) λhc h=>?_
   ·refine zU 3 o<|st 2 f1 ty4 o o o o tr<|zz<|zE o<|zT<|zB<|zT<|zT<|zB<|zT<|bH (.slice none 0 0) o 52 Y52 ?_
    cases h
    exact pk [0,2] o<|pk [1,0] o<|aT o (.tmp o) (λ_ _ g=>holds_raw.2 ⟨rfl,by rw[(holds_raw.1 g).1];exact(holds_raw.1 g).2⟩) (λ_ _ g=>by obtain⟨rfl,_⟩:=holds_raw.1 g;exact List.Sublist.refl _)
   refine zy<|zm 2 o<|cB h λd m h=>rc [2] (jh _ _ _ _ m) kr o o o λ_=>za<|zr<|zm 1 o<|yl 1 .here br o o o tr o<|bC (B:=72) af o jB o o o (.cons o .nil) o λZ=>?_
   refine iE h λhc h=>aW (B:=72) af 3 o o (bM 0 o o) o jB o o hc o λC=>?_
   refine pk [1,1,1] o<|zN o<|zi<|zt<|zr<|q 3 [(0,ptr f 0),(3,ti u.1),(4,.one W69 C),(5,ti (wrap .i64 (c.1+1)))] [] o ?_
   obtain⟨O,e,h⟩:=aj h;rw[e]
   exact za<|pk [0,1] o<|pk [1,0] o<|aY (O,d.2,(c.2.2++[N.1])) C (Nat.lt_succ_self _) h o o
  exact zx<|ze<|ze<|zq<|zt<|ah (c.2.2,c.2.1) g10 h o o
 refine zU 2 o<|zf ?_
 cases h
 exact pk [1,0] o<|aT o (.tmp o) (λ_ _ g=>holds_raw.2 ⟨rfl,by rw[(holds_raw.1 g).1];exact(holds_raw.1 g).2⟩) (λ_ _ g=>by obtain⟨rfl,_⟩:=holds_raw.1 g;exact List.Sublist.refl _)
theorem iH(c:Nat)(f r)(h:cF f=some r):Fn PP 55 [ptr c 0] [Res.var c 113 W66 f] (λ_=> .one Y24 r.1) (λ_=>[Res.var c 113 W66 r.2]):=by
 unfold cF at h
 refine enter Tryz.func55 o 12 o o λF=>?_
 refine zu<|aB (t:=Y24) o Er o λV=>zZ 1 o<|cB h λR u h=>rc [1] (aX _ _ _ _ u) kr o o o λ_=>zm 1 o<|zZ 1 o<|cB h λW M h=>rc [0] (aX _ _ _ _ M) kr o o o λ_=>zm 1 o<|zZ 2 o<|y (bc o Er o o (.cons f0 o o aa (.cons f1 o o aa .nil))) o ?_
 refine st 1 .here eM o o o o tr<|zf ?_
 cases h
 exact aT o (.cell 1 .here o o o aa eM) (λ_ _ g=>g) (λ_ _ _=>(.cons_cons _ (.cons _ .slnil)))
theorem gG(u:Nat)(W r)(h:cA W=some r):Fn PP 56 [ptr u 0] [Res.var u 113 W66 W] (λ_=> .one W73 r.1) (λ_=>[Res.var u 113 W66 r.2]):=by
 unfold cA at h
 refine enter Tryz.func56 o 18 o o λF=>?_
 refine zu<|aB (t:=W73) o lu o λM=>zZ 1 o<|cB h λf H h=>rc [1] (jh _ _ _ _ H) kr o o o λ_=>q 1 [(2,ptr M 0),(3,ts f.1)] [] o<|zz<|aB (t:=W73) o lu o λV=>za<|bD h (λR=>[(2,ptr M 0),(4,ptr V 0)]) (λR=>[Res.var V 26 W73 R,Res.var u 113 W66 f.2,Res.var M 26 W73 z32]) (λG h=>?_) λR h=>?_
 ·refine zW o<|zb<|ai [2,3,4,5] o<|bl (γ:=Unit) (λ(c:Int×List (Int)) _=>[(2,ptr M 0),(3,ts f.1),(4,ptr V 0),(5,ti c.1)]) (λ(c:Int×List (Int)) _=>[Res.var V 26 W73 c.2,Res.var u 113 W66 f.2,Res.var M 26 W73 z32]) (di f G) (0,z32) () h o o ?_
  clear h
  intro C c gg h
  cases C with
  |zero=>cases h
  |succ C=>
  simp only[di]at h
  refine zs<|zW o<|rI h o (λhc h=>?_) λhc h=>?_
  ·refine zk<|zt<|zs<|zb<|zr<|zm 3 o<|iE h λhc h=>y (eA af o o hc.1 hc.2 o) o ?_
   refine iE h λhc h=>y (bO o o hc.1 hc.2 nl ty5) o ?_
   refine iV 0 (.elem (Int.toNat c.1) .here) o o o pof (aw pix aa) ty5<|zn<|zi<|zt<|zr<|q 3 [(4,ptr V 0),(5,ti (wrap .i64 (c.1+1)))] [2,3] o ?_
   obtain⟨N,e,h⟩:=aj h;rw[e]
   exact za<|aY (N,(List.set c.2 (Int.toNat c.1) (List.getD f.1 (Int.toNat c.1) 0))) () (Nat.lt_succ_self _) h o o
  exact zx<|ze<|ze<|zq<|zt<|ah c.2 () h o o
 refine zu<|yl 0 .here bB o o o tr o<|st 2 .here bB o o o o tr<|zf ?_
 cases h
 exact aT o (.cell 2 .here o o o aa bB) (λ_ _ g=>g) (λ_ _ _=>(.cons _ (.cons_cons _ (.cons _ .slnil))))
theorem pG(f:Nat)(V r)(h:dG V=some r):Fn PP 57 [ptr f 0] [Res.var f 113 W66 V] (λv=> .one W69 v) (λv=>[Res.var f 113 W66 r.2,Res.own v 56 Y56 r.1]):=by
 unfold dG at h
 refine enter Tryz.func57 o 36 o o λF=>?_
 refine zU 1 o<|zZ 1 o<|cB h λu G h=>rc [0] (aX _ _ _ _ G) kr o o o λ_=>zm 1 o<|zz<|q 1 [(0,ptr f 0),(3,ti u.1),(4,.one W69 (.slice none 0 0))] [] o<|bH (.slice none 0 0) o 56 Y56 ?_
 refine za<|jK h (γ:=Value) (λM g5=>[(4,.one W69 g5)]) (λM g5=>[Res.own g5 56 Y56 M.1,Res.var f 113 W66 M.2]) (λN h=>?_) λM g5 h=>?_
 ·refine zW o<|zb<|ai [0,3,4,5] o<|bl (γ:=Value) (λ(c:Int×ge×(List Z55)) g10=>[(0,ptr f 0),(3,ti u.1),(4,.one W69 g10),(5,ti c.1)]) (λ(c:Int×ge×(List Z55)) g10=>[Res.own g10 56 Y56 c.2.2,Res.var f 113 W66 c.2.1]) (cg u N) (0,u.2,[]) (.slice none 0 0) h o o ?_
  clear h
  intro R c g10 h
  cases R with
  |zero=>cases h
  |succ R=>
  simp only[cg]at h
  refine zs<|zu<|q 4 [(4,.one W69 g10),(5,ti c.1),(13,tb (decide (c.1<u.1)))] [0,3] o ?_
  obtain⟨W,e,h⟩:=aj h;rw[e]
  refine aH 6 [(0,ptr f 0),(3,ti u.1),(4,.one W69 g10),(5,ti c.1),(19,tb (W&&(!c.2.1.2.1)))] [Res.own g10 56 Y56 c.2.2,Res.var f 113 W66 c.2.1] (?_) ?_
  ·clear h
   cases W
   ·exact zA o<|ap () o o
   refine zm 3 o<|al dl o ?_
   exact yl 1 f1 ty4 o o o tr o<|zA o<|ap () o o
  refine za<|rI h o (λhc h=>?_) λhc h=>?_
  ·refine zk<|zt<|zs<|zb<|zU 1 o<|cB h λJ d h=>rc [1] (aX _ _ _ _ d) kr o o o λ_=>q 2 [(0,ptr f 0),(3,ti u.1),(4,.one W69 g10),(5,ti c.1),(6,tb (J.1==1))] [] o ?_
   obtain⟨m,e,h⟩:=aj h;rw[e]
   refine zZ 1 o<|cB h λO w h=>rc [0] (aX _ _ _ _ w) kr o o o λ_=>zA o<|zr<|zm 3 o<|cB h λC Z h=>rc [0] (gG _ _ _ Z) kr o o o λ_=>zm 1 o<|y (bc o xo o o (.cons f0 o o aa (.cons f1 o o aa (.cons f2 o o aa .nil)))) o ?_
   refine bC (B:=48) af o uV o o o (.cons o .nil) o λa2=>?_
   refine iE h λhc h=>aW (B:=48) af 2 o o (bM 0 o o) o uV o o hc o λH=>?_
   refine pk [1,1] o<|zN o<|zi<|zt<|zr<|q 3 [(4,.one W69 H),(5,ti (wrap .i64 (c.1+1)))] [0,3] o ?_
   obtain⟨a1,e,h⟩:=aj h;rw[e]
   exact za<|pk [1,0] o<|aY (a1,C.2,(c.2.2++[(O.1,C.1,m,())])) H (Nat.lt_succ_self _) h o o
  exact zx<|ze<|ze<|zq<|zt<|ah (c.2.2,c.2.1) g10 h o o
 refine zU 2 o<|zf ?_
 cases h
 exact pk [1,0] o<|aT o (.tmp o) (λ_ _ g=>holds_raw.2 ⟨rfl,by rw[(holds_raw.1 g).1];exact(holds_raw.1 g).2⟩) (λ_ _ g=>by obtain⟨rfl,_⟩:=holds_raw.1 g;exact List.Sublist.refl _)
theorem um(V r)(h:fU V=some r):bw PP 10 [ts V] (.tup [⟨(.int .i64),r.1⟩,⟨Y30,r.2.1⟩,⟨(.int .i64),r.2.2⟩]):=by
 unfold fU at h
 refine enter Tryz.func10 o 104 o o λF=>?_
 refine zU 1 o<|aB (t:=Y30) o gU o λu=>zm 1 o<|zZ 1 o<|y (bc o Hg o o (.cons f0 o o aa .nil)) o ?_
 refine bI o o λb3=>zm 1 o<|zz<|aB (t:=Y30) o gU o λM=>zZ 1 o<|cB h λR b6 h=>rc [1] (aX _ _ _ _ b6) kr o o o λ_=>zm 1 o<|zZ 1 o<|cB h λW b7 h=>rc [0] (aX _ _ _ _ b7) kr o o o λ_=>zm 1 o<|st 1 f0 ty3 o o o o tr<|zZ 1 o ?_
 refine cB h λC b8 h=>rc [0] (aX _ _ _ _ b8) kr o o o λ_=>zm 1 o<|st 1 f1 ty2 o o o o tr<|nL o<|zZ 1 o<|cB h λH b9 h=>rc [0] (aX _ _ _ _ b9) kr o o o λ_=>zm 1 o<|st 1 f2 ty2 o o o o tr<|zZ 1 o<|cB h λG c0 h=>rc [0] (aX _ _ _ _ c0) kr o o o λ_=>zm 1 o ?_
 refine st 1 f3 ty2 o o o o tr<|nL o<|zZ 1 o<|cB h λa5 c1 h=>rc [0] (km _ _ _ c1) kr o o o λb1=>zm 1 o<|gE (t:=Y30) (v:=W69) 2 f4 o o o o o o tx0 ?_
 refine zZ 1 o<|cB h λa6 c2 h=>rc [0] (km _ _ _ c2) kr o o o λa8=>zm 1 o<|gE (t:=W5) (v:=W69) 3 f5 o o o o o o tx0 ?_
 refine nL o<|zZ 1 o<|cB h λN c3 h=>rc [0] (aX _ _ _ _ c3) kr o o o λ_=>zm 1 o<|st 3 f6 ty2 o o o o tr<|zZ 1 o<|cB h λJ c4 h=>rc [0] (aX _ _ _ _ c4) kr o o o λ_=>zm 1 o<|st 3 f7 ty2 o o o o tr<|nL o<|zZ 1 o<|cB h λd c5 h=>?_
 refine rc [0] (aX _ _ _ _ c5) kr o o o λ_=>zm 1 o<|st 3 f8 ty2 o o o o tr<|zZ 1 o<|cB h λm c6 h=>rc [0] (iH _ _ _ c6) kr o o o λ_=>zm 1 o<|st 3 f9 eM o o o o tr<|nL o<|zZ 1 o<|cB h λO c7 h=>rc [0] (iH _ _ _ c7) kr o o o λ_=>zm 1 o<|st 3 f10 eM o o o o tr ?_
 refine zZ 1 o<|cB h λw c8 h=>rc [0] (iH _ _ _ c8) kr o o o λ_=>zm 1 o<|st 3 f11 eM o o o o tr<|nL o<|zZ 1 o<|cB h λZ c9 h=>rc [0] (aX _ _ _ _ c9) kr o o o λ_=>zm 2 o<|st 3 f12 ty4 o o o o tr<|zZ 1 o<|cB h λa1 d0 h=>rc [0] (gG _ _ _ d0) kr o o o λ_=>?_
 refine zm 1 o<|iE h λhc h=>y (bO o o hc.1 hc.2 tJ bB) o ?_
 refine iV 3 ((g13 (.fst (.elem 0 .here)))) o o o pof (ab (ab (ab (ab (ab (ab (ab (ab (ab (ab (ab (ab (ab (av (aw pix aa))))))))))))))) bB<|nL o<|zZ 1 o<|cB h λa2 d1 h=>rc [0] (gG _ _ _ d1) kr o o o λ_=>zm 1 o<|iE h λhc h=>y (bO o o hc.1 hc.2 tJ bB) o ?_
 refine iV 3 ((g13 (.fst (.elem 1 .here)))) o o o pof (ab (ab (ab (ab (ab (ab (ab (ab (ab (ab (ab (ab (ab (av (aw pix aa))))))))))))))) bB<|zZ 1 o<|cB h λa3 d2 h=>rc [0] (gG _ _ _ d2) kr o o o λ_=>zm 1 o<|st 3 f14 bB o o o o tr<|nL o<|zZ 1 o<|cB h λa9 d3 h=>rc [0] (pG _ _ _ d3) kr o o o λa7=>zm 1 o<|gE (t:=(.pair (.int .i64) (.pair (.int .i64) (.pair (.int .i64) (.pair (.int .i64) (.pair W69 (.pair W69 W29))))))) (v:=W69) 4 f15 o o o o o o tx1 ?_
 refine zZ 1 o<|cB h λa4 d4 h=>rc [0] (aX _ _ _ _ d4) kr o o o λ_=>zm 1 o<|st 4 f16 ty3 o o o o tr<|nL o<|zZ 1 o<|cB h λc d5 h=>rc [0] (aX _ _ _ _ d5) kr o o o λ_=>zm 1 o<|st 4 f17 ty2 o o o o tr<|za<|zs<|pk [3,3,0,0,0,0] o ?_
 refine dw (v:=b1) (T0:=W0) (x0:=(W.1,C.1,H.1,G.1,b1,a8,N.1,J.1,d.1,m.1,O.1,w.1,(Z.1==1),(List.set (List.set (List.replicate 2 (z32:List (Int))) 0 a1.1) 1 a2.1),a3.1,a7,a4.1,c.1,())) (t:=Y52) f4 o o ?_
 refine pk [3,0,0,0,0] o<|dw (v:=a8) (T0:=W2) (x0:=(W.1,C.1,H.1,G.1,a5.1,a8,N.1,J.1,d.1,m.1,O.1,w.1,(Z.1==1),(List.set (List.set (List.replicate 2 (z32:List (Int))) 0 a1.1) 1 a2.1),a3.1,a7,a4.1,c.1,())) (t:=Y52) f5 o o ?_
 refine pk [2,0,0,0] o<|dw (v:=a7) (T0:=W4) (x0:=(W.1,C.1,H.1,G.1,a5.1,a6.1,N.1,J.1,d.1,m.1,O.1,w.1,(Z.1==1),(List.set (List.set (List.replicate 2 (z32:List (Int))) 0 a1.1) 1 a2.1),a3.1,a7,a4.1,c.1,())) (t:=Y56) f15 o o ?_
 refine zr<|zm 1 o<|yl 0 .here bR o o o tr o<|cB h λf d6 h=>au (oq _ _ _ d6) kr o o<|zA o<|zs<|zU 3 o<|yl 1 f1 ty4 o o o tr o<|q 1 [(0,ts V),(3,ptr u 0),(5,ptr b3 0),(6,ptr M 0),(7,ti R.1),(8,ts f.1),(9,ti f.2),(85,tb c.2.2.1)] [] o<|aH 6 [(0,ts V),(3,ptr u 0),(6,ptr M 0),(7,ti R.1),(8,ts f.1),(9,ti f.2),(91,tb (c.2.2.1||(c.2.1 !=[])))] [Res.var M 30 Y30 (W.1,C.1,H.1,G.1,a5.1,a6.1,N.1,J.1,d.1,m.1,O.1,w.1,(Z.1==1),(List.set (List.set (List.replicate 2 (z32:List (Int))) 0 a1.1) 1 a2.1),a3.1,a9.1,a4.1,c.1,()),Res.var b3 113 W66 c.2,Res.var u 30 Y30 (0,0,0,0,[],[],0,0,0,(0,0,()),(0,0,()),(0,0,()),false,(List.replicate 2 (z32:List (Int))),z32,[],0,0,())] (?_) ?_
 ·clear h
  rcases Bool.eq_false_or_eq_true c.2.2.1 with hh|hh
  ·rw[hh]
   exact zA o<|ap () o o
  rw[hh]
  refine zm 3 o<|al dl o ?_
  exact yl 1 f0 ty9 o o o tr o<|zA o<|ap () o o
 refine q 1 [(0,ts V),(3,ptr u 0),(6,ptr M 0),(7,ti R.1),(8,ts f.1),(9,ti f.2),(92,tb (c.2.2.1||(c.2.1 !=[])))] [] o ?_
 obtain⟨b0,e,h⟩:=aj h;rw[e]
 refine aH 3 [(0,ts V),(3,ptr u 0),(6,ptr M 0),(7,ti R.1),(8,ts f.1),(95,tb (b0||(f.2 !=0)))] [Res.var M 30 Y30 (W.1,C.1,H.1,G.1,a5.1,a6.1,N.1,J.1,d.1,m.1,O.1,w.1,(Z.1==1),(List.set (List.set (List.replicate 2 (z32:List (Int))) 0 a1.1) 1 a2.1),a3.1,a9.1,a4.1,c.1,()),Res.var b3 113 W66 c.2,Res.var u 30 Y30 (0,0,0,0,[],[],0,0,0,(0,0,()),(0,0,()),(0,0,()),false,(List.replicate 2 (z32:List (Int))),z32,[],0,0,())] (?_) ?_
 ·clear h
  cases b0
  ·exact zA o<|ap () o o
  exact zA o<|ap () o o
 refine q 1 [(0,ts V),(3,ptr u 0),(6,ptr M 0),(7,ti R.1),(8,ts f.1),(96,tb (b0||(f.2 !=0)))] [] o ?_
 obtain⟨b5,e,h⟩:=aj h;rw[e]
 refine aH 4 [(3,ptr u 0),(6,ptr M 0),(7,ti R.1),(100,tb (b5||(f.1 !=V)))] [Res.var M 30 Y30 (W.1,C.1,H.1,G.1,a5.1,a6.1,N.1,J.1,d.1,m.1,O.1,w.1,(Z.1==1),(List.set (List.set (List.replicate 2 (z32:List (Int))) 0 a1.1) 1 a2.1),a3.1,a9.1,a4.1,c.1,()),Res.var b3 113 W66 c.2,Res.var u 30 Y30 (0,0,0,0,[],[],0,0,0,(0,0,()),(0,0,()),(0,0,()),false,(List.replicate 2 (z32:List (Int))),z32,[],0,0,())] (?_) ?_
 ·clear h
  cases b5
  ·exact zA o<|ap () o o
  exact zA o<|ap () o o
 refine za<|rI h o (λhc h=>?_) λhc h=>?_
 ·refine zu<|y (bc o gU o o .nil) o ?_
  refine zm 1 o<|st 2 .here bR o o o o tr<|zE o<|zT ?_
  cases h
  exact aC (rs:=[.tmp 2,.cell 3 30,.tmp 4]) o (.cons (.tmp o) (.cons (.cell 2 .here o o o aa bR) (.cons (.tmp o) (.nil)))) o (λ_ vs g=>aG vs g) (λ_ _ _=>List.nil_sublist _)
 refine zk<|zt<|zs<|dA kr<|zF 2 [0,2] kr o o<|ae 1 kr o<|yl 0 .here bR o o o tr o<|zL [2,3,103] o<|ae 3 kr o<|st 2 .here bR o o o o tr<|zL [2,3] o<|zF 1 [4] kr o o<|aJ kr<|zt ?_
 refine zR ?_
 cases h
 exact aC (rs:=[.tmp 2,.cell 3 30,.tmp 4]) o (.cons (.tmp o) (.cons (.cell 2 .here o o o aa bR) (.cons (.tmp o) (.nil)))) o (λ_ vs g=>aG vs g) (λ_ _ _=>List.nil_sublist _)
theorem oE(c u r)(h:iC c u=some r):bw PP 58 [.one W84 c,.one W84 u] (tb r):=by
 unfold iC at h
 refine enter Tryz.func58 o 26 o o λF=>?_
 refine zW o<|zs<|zW o<|rI h o (λhc h=>zU 1 o<|zf<|zT<|by cases h;exact ax o (.tmp o)) λhc h=>zk<|zt<|bD h (λM=>[]) (λM=>[]) (λR h=>?_) λM h=>?_
 ·refine zW o<|zb<|ai [0,1,5] o<|bl (γ:=Unit) (λ(f:Int) _=>[(0,.one W84 c),(1,.one W84 u),(5,ti f)]) (λ(f:Int) _=>[]) (fK c u R) 0 () h o o ?_
  clear h
  intro V f gg h
  cases V with
  |zero=>cases h
  |succ V=>
  simp only[fK]at h
  refine zs<|zW o<|rI h o (λhc h=>?_) λhc h=>?_
  ·refine zk<|zt<|zs<|zb<|zs<|ef kr kr ?_
   refine ay af 2 [0,1,5,17,18] (E':=[(0,.one W84 c),(1,.one W84 u),(5,ti f),(17,.one W84 c),(18,ti f)]) o ?_
   refine iE h λhc h=>q_y (eo af o o hc.1 hc.2 o br) o ?_
   refine q_y (de o br) o ?_
   refine ay af 2 [0,1,5,20,21,22] (E':=[(0,.one W84 c),(1,.one W84 u),(5,ti f),(20,.one Y52 (List.getD c (Int.toNat f) (0,0,0,z32,[],()))),(21,.one W84 u),(22,ti f)]) o ?_
   refine iE h λhc h=>q_y (eo af o o hc.1 hc.2 o br) o ?_
   refine q_y (de o br) o ?_
   refine q_y (o4 20 o o o o br o Es Et) o ?_
   refine eK ?_
   refine zt<|rI h o (λhc h=>zU 1 o<|zf<|zB<|zT<|zT<|zB<|zT<|by cases h;exact ax o (.tmp o)) λhc h=>zk<|zi<|zt<|zr<|q 3 [(0,.one W84 c),(1,.one W84 u),(5,ti (wrap .i64 (f+1)))] [] o ?_
   obtain⟨W,e,h⟩:=aj h;rw[e]
   exact za<|aY W () (Nat.lt_succ_self _) h o o
  exact zx<|ze<|ze<|zq<|zt<|ah () () h o o
 refine zU 1 o<|zf ?_
 cases h
 exact ax o (.tmp o)
end Sx
