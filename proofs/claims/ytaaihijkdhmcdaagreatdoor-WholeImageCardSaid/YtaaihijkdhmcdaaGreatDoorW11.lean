/- WholeImage, part 12 of 38: contracts and lemmas of its proof. Conditions: none. -/
import Derived.Test.YtaaihijkdhmcdaaGreatDoorW09
import Derived.Test.YtaaihijkdhmcdaaGreatDoorW10
import Derived.Test.YtaaihijkdhmcdaaGreatDoorW07
import Derived.Test.YtaaihijkdhmcdaaGreatDoorW06
import Derived.Test.YtaaihijkdhmcdaaGreatDoorW01
import Derived.Laws.IdiomStrings
import Derived.Laws.BytesArg
import Derived.OwnWalk
import Derived.MapKept
set_option linter.unusedVariables false
set_option linter.unusedSimpArgs false
set_option maxRecDepth 100000
namespace Go.Proofs.YtaaihijkdhmcdaaGreatDoor
section
open Go Go.RowKit
theorem body_tmp3 {P:Program}{fn:Func}{R:Value→World→Prop}{e:Env}{w:World}(u v x:Tmp){t:Tag (bodyR P fn R,Exit.ret)}(h:fn.results=#[.tmp u,.tmp v,.tmp x])(hR:R (.tuple #[e u,e v,e x]) w):goE (bodyR P fn R) .ret t e w:=by
 intro tmps ht;exact ⟨_,results_tmp3 h tmps P w,by rw [ht,ht,ht];exact hR⟩
def RowW (w:World)(b:Nat)(l:List (BitVec 64)):Prop:=∃ C,Blk w b C 42∧∀ i,i<l.length→C[i]?=some (.int .u64 (uv (l.getD i 0#64)))
structure PoolAt (w:World) (b p:Nat) (s:HM.Shape) (T H:List (BitVec 64)) (tb tc hb hc:Nat):Prop where
 blk:Blk w b #[.pointer (some ⟨p,0,none⟩),.int .i64 s.lines,.int .i64 s.slabs,.int .i64 s.table,.int .i64 s.data,.slice (some ⟨tb,0,none⟩) T.length tc,.slice (some ⟨hb,0,none⟩) T.length hc] 155
 tk:RowW w tb T
 hd:RowW w hb H
 len:H.length=T.length
 ne1:b≠tb
 ne2:b≠hb
 ne3:tb≠hb
section
variable {w w':World} {b p:Nat} {s:HM.Shape} {T H l:List (BitVec 64)} {G F F':Nat→Prop} {tb tc hb hc:Nat}
theorem RowW.mod {g:Nat}(h:RowW w g l)(hm:Mod F w w')(hF:¬ F g):RowW w' g l:=by
 obtain ⟨C,hB,hC⟩:=h;exact ⟨C,hB.mod hm hF,hC⟩
theorem RowW.lt {g:Nat}(h:RowW w g l):g<w.heap.size:=by obtain ⟨C,hB,_⟩:=h;exact hB.lt
theorem RowW.cell {g:Nat}(h:RowW w g l){i:Nat}(hi:i<l.length):w.cell? ⟨g,i,none⟩=some (.int .u64 (uv (l.getD i 0#64))):=by
 obtain ⟨C,hB,hC⟩:=h;rw [hB.cell,hC i hi]
theorem PoolAt.mod (h:PoolAt w b p s T H tb tc hb hc)(hm:Mod F w w')(hF:∀ k,(k=b∨k=tb∨k=hb)→¬ F k):PoolAt w' b p s T H tb tc hb hc :=
 ⟨h.blk.mod hm (hF b (.inl rfl)),h.tk.mod hm (hF tb (.inr (.inl rfl))),h.hd.mod hm (hF hb (.inr (.inr rfl))),h.len,h.ne1,h.ne2,h.ne3⟩
theorem PoolAt.next (h:PoolAt w b p s T H tb tc hb hc)(hb':Below w.heap.size w w'):PoolAt w' b p s T H tb tc hb hc:=h.mod (Mod.of (F:=fun _=>False) hb') (fun _ _ h=>h)
set_option maxHeartbeats 1000000
theorem none_calls (w:World)(h:PoolAt w b p s T H tb tc hb hc):Ret Tryz.prog 61 #[.pointer (some ⟨b,0,none⟩)] w fun v w'=>v=.bool false∧w'=w:=by
 refine ret_of (args:=[_]) _ Tryz.func61 rfl Tryz.ntmps61 (by simp) ?_;simp -implicitDefEqProofs [go_sem,h.blk.cell];refine body_tmp 2 rfl ?_;simp -implicitDefEqProofs [go_sem]
theorem entry_calls (i:Nat)(w:World)(h:PoolAt w b p s T H tb tc hb hc)(hs:s.table=128)(hi:i≤1000):Ret Tryz.prog 82 #[.pointer (some ⟨b,0,none⟩),.int .i64 (i:Int)] w fun v w'=>v=.int .i64 ((128+8*i:Nat):Int)∧w'=w:=by
 have k1:=IntWalk.i64_in (8*(i:Int)) (by omega);have k2:=IntWalk.i64_in (128+8*(i:Int)) (by omega);refine ret_of (args:=[_,_]) _ Tryz.func82 rfl Tryz.ntmps82 (by simp) ?_;simp -implicitDefEqProofs [go_sem,h.blk.cell,hs,k1,k2];refine body_tmp 4 rfl ?_;simp -implicitDefEqProofs [go_sem]
theorem both_calls (i:Nat)(w:World)(h:PoolAt w b p s T H tb tc hb hc)(hi:i<T.length):Ret Tryz.prog 172 #[.pointer (some ⟨b,0,none⟩),.int .i64 (i:Int)] w fun v w'=>v=.int .u64 (uv (T.getD i 0#64 ||| H.getD i 0#64))∧Below w.heap.size w w':=by
 have hi':(i:Int)<T.length:=by omega
 have g1:=h.tk.cell hi;have g2:=h.hd.cell (i:=i) (by rw [h.len];exact hi);refine ret_of (args:=[_,_]) _ Tryz.func172 rfl Tryz.ntmps172 (by simp) ?_;simp -implicitDefEqProofs [go_sem];refine drawE_still mixed (by decide +kernel) ?_;have hD:PoolAt w.drew b p s T H tb tc hb hc:=h.next (Below.refl _ _).drew
 generalize T.getD i 0#64=x at *;generalize H.getD i 0#64=y at *;simp -implicitDefEqProofs [go_sem,h.blk.cell,hi,hi',g1,g2];unfold endE;simp -implicitDefEqProofs [go_sem];refine body_tmp 4 rfl ?_;simp -implicitDefEqProofs [go_sem];exact (Below.refl _ _).drew
def placeI (s:HM.Shape)(i:Nat)(c:Int)(q:Nat):Int:=s.data+1024*(i:Int)+64*linesI c*(q:Int)
theorem linesI_le (c:Int):0≤linesI c∧linesI c≤4:=by unfold linesI;split<;>(try split)<;>omega
theorem place_calls (i:Nat)(c:Int)(q:Nat)(w:World)(h:PoolAt w b p s T H tb tc hb hc)(hs:0≤s.data∧s.data≤1000000)(hi:i≤1000)(hq:q≤1000) :
  Ret Tryz.prog 63 #[.pointer (some ⟨b,0,none⟩),.int .i64 (i:Int),.int .i64 c,.int .i64 (q:Int)] w fun v w'=>v=.int .i64 (placeI s i c q)∧Below w.heap.size w w':=by
 have hl:=linesI_le c;obtain ⟨L,hL⟩:∃ L:Nat,linesI c=L:=⟨(linesI c).toNat,by omega⟩;have k1:=IntWalk.i64_in (1024*(i:Int)) (by omega);have k2:=IntWalk.i64_in (s.data+1024*(i:Int)) (by omega);have k3:=IntWalk.i64_in (64*(L:Int)) (by omega);have hm:L*q≤4*1000:=Nat.mul_le_mul (by omega) hq;have hm':(L:Int)*q≤4000:=by exact_mod_cast hm
 have hm0:0≤(L:Int)*q:=by exact_mod_cast Nat.zero_le (L*q)
 have e4:64*(L:Int)*q=64*((L:Int)*q):=Int.mul_assoc _ _ _;have k4:=IntWalk.i64_in (64*(L:Int)*q) (by omega);have k5:=IntWalk.i64_in (s.data+1024*(i:Int)+64*(L:Int)*q) (by omega);refine ret_of (args:=[_,_,_,_]) _ Tryz.func63 rfl Tryz.ntmps63 (by simp) ?_;simp -implicitDefEqProofs [go_sem];refine drawE_still mixed (by decide +kernel) ?_;have hD:PoolAt w.drew b p s T H tb tc hb hc:=h.next (Below.refl _ _).drew
 simp -implicitDefEqProofs [go_sem,h.blk.cell,k1,k2];refine onStill_call (.int .i64 (linesI c)) (lines_calls c w.drew) ?_;rw [hL];simp -implicitDefEqProofs [go_sem,k1,k2,k3,k4,k5];unfold endE;simp -implicitDefEqProofs [go_sem];refine body_tmp 8 rfl ?_;simp -implicitDefEqProofs [go_sem,placeI,hL];exact (Below.refl _ _).drew
def findP (s:HM.Shape)(n:Nat)(B:Nat→BitVec 64)(off:Int):Option (Nat × Nat) :=
 if off<s.data∨s.data+1024*(n:Int)≤off then none
 else if linesI (WM.classM (B ((off-s.data).toNat/1024)))=0∨((off-s.data).toNat%1024)%(64*(linesI (WM.classM (B ((off-s.data).toNat/1024)))).toNat)≠0 then none
 else some ((off-s.data).toNat/1024,((off-s.data).toNat%1024)/(64*(linesI (WM.classM (B ((off-s.data).toNat/1024)))).toNat))
def bF (T H:List (BitVec 64))(i:Nat):BitVec 64:=T.getD i 0#64 ||| H.getD i 0#64
theorem find_calls (off:Int)(w0:World)(h:PoolAt w0 b p s T H tb tc hb hc)(hs:0≤s.data∧s.data≤1000000)(hn:T.length≤64)(ho:I64 off) :
  Ret Tryz.prog 137 #[.pointer (some ⟨b,0,none⟩),.int .i64 off] w0 fun v w' =>
   ((findP s T.length (bF T H) off=none∧v=.tuple #[.int .i64 0,.int .i64 0,.bool false])∨(∃ i q:Nat,findP s T.length (bF T H) off=some (i,q)∧v=.tuple #[.int .i64 (i:Int),.int .i64 (q:Int),.bool true]))∧Below w0.heap.size w0 w':=by
 have bel0:=Below.refl w0.heap.size w0;have k1:=IntWalk.i64_in (1024*(T.length:Int)) (by omega);have k2:=IntWalk.i64_in (s.data+1024*(T.length:Int)) (by omega);refine ret_of (args:=[_,_]) _ Tryz.func137 rfl Tryz.ntmps137 (by simp) ?_;simp -implicitDefEqProofs [go_sem];refine drawE_still mixed (by decide +kernel) ?_;have hD:PoolAt w0.drew b p s T H tb tc hb hc:=h.next (Below.refl _ _).drew
 by_cases h1:off<s.data
 ·simp -implicitDefEqProofs [go_sem,h.blk.cell,h1];unfold endE;simp -implicitDefEqProofs [go_sem];refine body_tmp3 4 5 6 rfl ?_;simp -implicitDefEqProofs [go_sem];exact ⟨by unfold findP;rw [if_pos (.inl h1)],bel0.drew⟩
 by_cases h2:s.data+1024*(T.length:Int)≤off
 ·simp -implicitDefEqProofs [go_sem,h.blk.cell,h1,h2,k1,k2];unfold endE;simp -implicitDefEqProofs [go_sem];refine body_tmp3 4 5 6 rfl ?_;simp -implicitDefEqProofs [go_sem];exact ⟨by unfold findP;rw [if_pos (.inr h2)],bel0.drew⟩
 ·simp -implicitDefEqProofs [go_sem,h.blk.cell,h1,h2,k1,k2];unfold endE;simp -implicitDefEqProofs [go_sem];have hD0:=hD;have bel1:=bel0.drew;generalize World.drew w0=w1 at *;obtain ⟨d,hd⟩:=Int.eq_ofNat_of_zero_le (by omega:0≤off-s.data);obtain ⟨i,hi⟩:∃ i,i=d/1024:=⟨_,rfl⟩;obtain ⟨r,hr⟩:∃ r,r=d%1024:=⟨_,rfl⟩;have kd:=IntWalk.i64_in (d:Int) (by omega);have q1:(d:Int).tdiv 1024=(i:Int):=by rw [Int.tdiv_eq_ediv_of_nonneg (by omega)];omega
  have q2:(d:Int).tmod 1024=(r:Int):=by rw [Int.tmod_eq_emod_of_nonneg (by omega)];omega
  have q3:(d:Int)/1024=(i:Int):=by omega
  have q4:(d:Int)%1024=(r:Int):=by omega
  have ki:=IntWalk.i64_in (i:Int) (by omega);have kr:=IntWalk.i64_in (r:Int) (by omega);have hil:i<T.length:=by omega
  have bd:=(Below.refl w1.heap.size w1).drew;refine drawE_still mixed (by decide +kernel) ?_;simp -implicitDefEqProofs [go_sem,hD.blk.cell,hd,kd,q1,q2,q3,q4,ki,kr];unfold endE;simp -implicitDefEqProofs [go_sem];have hD2:=hD.next bd
  have bel2:=bel1.drew;generalize World.drew w1=w2 at *;refine callE_of (both_calls i w2 hD2 hil) ?_;rintro v w3 ⟨rfl,b3⟩;have bel3:=btr bel2 b3;have eB:T.getD i 0#64 ||| H.getD i 0#64=bF T H i:=rfl
  rw [eB];simp -implicitDefEqProofs [go_sem];refine callE_of (class_calls (bF T H i) w3) ?_;rintro v w4 ⟨rfl,b4⟩;have bel4:=btr bel3 b4;simp -implicitDefEqProofs [go_sem];refine callE_of (lines_calls (WM.classM (bF T H i)) w4) ?_;rintro v w5 ⟨rfl,rfl⟩;have hl:=linesI_le (WM.classM (bF T H i));have hfind:findP s T.length (bF T H) off=if linesI (WM.classM (bF T H i))=0∨r%(64*(linesI (WM.classM (bF T H i))).toNat)≠0 then none else some (i,r/(64*(linesI (WM.classM (bF T H i))).toNat)):=by
   unfold findP;have e1:(off-s.data).toNat=d:=by omega
   rw [if_neg (by omega),e1,← hi,← hr]
  obtain ⟨L,hL⟩:∃ L:Nat,linesI (WM.classM (bF T H i))=L:=⟨(linesI (WM.classM (bF T H i))).toNat,by omega⟩;rw [hL,Int.toNat_natCast] at hfind;rw [hL];have kL:=IntWalk.i64_in (64*(L:Int)) (by omega);by_cases hz:L=0
  ·subst hz;have w0z:IntKind.i64.wrap 0=0:=by decide
   simp -implicitDefEqProofs [go_sem,w0z];refine body_tmp3 4 5 6 rfl ?_;simp -implicitDefEqProofs [go_sem];exact ⟨by rw [hfind,if_pos (.inl rfl)],bel4⟩
  ·have hz1:((64*(L:Int))==0)=false:=by rw [beq_eq_false_iff_ne];omega
   have hz2:¬ 64*(L:Int)=0:=by omega
   have hz3:¬ (L:Int)=0:=by omega
   obtain ⟨m,hm⟩:∃ m,m=r%(64*L):=⟨_,rfl⟩;obtain ⟨q,hq⟩:∃ q,q=r/(64*L):=⟨_,rfl⟩;have e64:64*(L:Int)=((64*L:Nat):Int):=by omega
   have m1:(r:Int).tmod (64*(L:Int))=(m:Int):=by rw [e64,Int.tmod_eq_emod_of_nonneg (by omega),hm];push_cast;rfl
   have m2:(r:Int)%(64*(L:Int))=(m:Int):=by rw [e64,hm];push_cast;rfl
   have m3:(r:Int).tdiv (64*(L:Int))=(q:Int):=by rw [e64,Int.tdiv_eq_ediv_of_nonneg (by omega),hq];push_cast;rfl
   have m4:(r:Int)/(64*(L:Int))=(q:Int):=by rw [e64,hq];push_cast;rfl
   have hmle:m≤r:=by rw [hm];exact Nat.mod_le _ _
   have hqle:q≤r:=by rw [hq];exact Nat.div_le_self _ _
   have km:=IntWalk.i64_in (m:Int) (by omega);have kq:=IntWalk.i64_in (q:Int) (by omega);by_cases hmz:m=0
   ·have hmz1:((m:Int) != 0)=false:=by rw [bne_eq_false_iff_eq];omega
    have hmz2:(m:Int)=0:=by omega
    simp -implicitDefEqProofs [go_sem,kL,hz1,hz2,hz3,m1,m2,km,hmz1,hmz2];refine drawE_still mixed (by decide +kernel) ?_;simp -implicitDefEqProofs [go_sem,kL,hz1,hz2,hz3,m3,m4,kq];unfold endE;simp -implicitDefEqProofs [go_sem];refine body_tmp3 4 5 6 rfl ?_;simp -implicitDefEqProofs [go_sem];exact ⟨⟨i,q,by rw [hfind,if_neg (by rw [← hm];omega),← hq],rfl,rfl⟩,bel4.drew⟩
   ·have hmz1:((m:Int) != 0)=true:=by rw [bne_iff_ne];omega
    have hmz2:¬ (m:Int)=0:=by omega
    simp -implicitDefEqProofs [go_sem,kL,hz1,hz2,hz3,m1,m2,km,hmz1,hmz2];refine body_tmp3 4 5 6 rfl ?_;simp -implicitDefEqProofs [go_sem];exact ⟨by rw [hfind,if_pos (.inr (by rw [← hm];exact hmz))],bel4⟩
end
end
section
open Go Go.RowKit
theorem method_ptr {P:Program}{t elem:TypeId}{a:Addr}{name:String}{f:FuncId}(n:Nat)(w:World)
  (hm:((P.info? t).bind fun i=>(i.methods.find? (·.name==name)).map fun m=>(m.path,m.func))=some (#[],some (f,true))) (hu:P.underlying t=some (.pointer elem)) :
  (method (n+1) t (.pointer (some a)) name).run P w=.ok (f,.pointer (some a)) w:=by
 obtain ⟨i,hi,hm1⟩:=Option.bind_eq_some_iff.1 hm;obtain ⟨m,hf,hm2⟩:=Option.map_eq_some_iff.1 hm1;simp only [Prod.mk.injEq] at hm2;unfold method;simp [typeInfo,hi,hf,hm2.1,hm2.2,follow,receiverAt,run_underlying hu,Place.get]
theorem wrapNil (ts:Array TypeId)(t:TypeId)(a:Addr)(s m:String):Builtin.ssaWrapNilChk_ ts t #[.pointer (some a),strVal s,strVal m]=pure (.pointer (some a)):=rfl
theorem method_val {P:Program}{t elem:TypeId}{a:Addr}{name:String}{f:FuncId}{u:Value}(n:Nat)(w:World)
  (hm:((P.info? t).bind fun i=>(i.methods.find? (·.name==name)).map fun m=>(m.path,m.func))=some (#[],some (f,false))) (hu:P.underlying t=some (.pointer elem)) (hl:(loadVar elem a).run P w=.ok u w) :
  (method (n+1) t (.pointer (some a)) name).run P w=.ok (f,u) w:=by
 obtain ⟨i,hi,hm1⟩:=Option.bind_eq_some_iff.1 hm;obtain ⟨m,hf,hm2⟩:=Option.map_eq_some_iff.1 hm1;simp only [Prod.mk.injEq] at hm2;unfold method;simp [typeInfo,hi,hf,hm2.1,hm2.2,follow,receiverAt,run_underlying hu,Place.get,wrapNil,asAddr,hl]
section
variable (n:Nat) (w:World) (o:Nat)
theorem inv_push:(method (n+1) 331 (.pointer (some ⟨o,0,none⟩)) "Push").run Tryz.prog w=.ok (266,.pointer (some ⟨o,0,none⟩)) w:=method_ptr n w (by kernel_rfl) Tryz.underlying331
theorem inv_pop:(method (n+1) 331 (.pointer (some ⟨o,0,none⟩)) "Pop").run Tryz.prog w=.ok (265,.pointer (some ⟨o,0,none⟩)) w:=method_ptr n w (by kernel_rfl) Tryz.underlying331
theorem ld_order {a:Option Addr}{m c:Nat}(h:w.cell? ⟨o,0,none⟩=some (.slice a m c)):(loadVar 339 ⟨o,0,none⟩).run Tryz.prog w=.ok (.slice a m c) w:=by
 have hu:Tryz.prog.underlying 339=_:=Tryz.underlying339;simp [go_sem,loadVar,isAgg,run_underlying hu,h]
theorem inv_len {a:Option Addr}{m c:Nat}(h:w.cell? ⟨o,0,none⟩=some (.slice a m c)):(method (n+1) 331 (.pointer (some ⟨o,0,none⟩)) "Len").run Tryz.prog w=.ok (218,.slice a m c) w:=method_val n w (by kernel_rfl) Tryz.underlying331 (ld_order w o h)
theorem inv_less {a:Option Addr}{m c:Nat}(h:w.cell? ⟨o,0,none⟩=some (.slice a m c)):(method (n+1) 331 (.pointer (some ⟨o,0,none⟩)) "Less").run Tryz.prog w=.ok (264,.slice a m c) w:=method_val n w (by kernel_rfl) Tryz.underlying331 (ld_order w o h)
theorem inv_swap {a:Option Addr}{m c:Nat}(h:w.cell? ⟨o,0,none⟩=some (.slice a m c)):(method (n+1) 331 (.pointer (some ⟨o,0,none⟩)) "Swap").run Tryz.prog w=.ok (267,.slice a m c) w:=method_val n w (by kernel_rfl) Tryz.underlying331 (ld_order w o h)
end
section
variable {w w':World} {o:Nat} {l:List Nat} {K F F':Nat→Prop}
theorem OrdB.cells {a:Option Addr}{c:Nat}(hown:w.ownsRow 0 3 1 (.slice a l.length c) l.length (nats l)){i:Nat}(hi:i<l.length):∃ g C,a=some ⟨g,0,none⟩∧Blk w g C 3∧(∀ j,j<l.length→C[j]?=some (.int .i64 ((l.getD j 0:Nat):Int)))∧C.size=c:=by
 obtain ⟨hl,⟨hv,h0⟩|⟨g,cap2,cur,hv,hg,hblk,hcap,hmx,hsz,htake⟩⟩:=hown
 ·omega
 ·simp only [Value.slice.injEq] at hv;obtain ⟨rfl,_,rfl⟩:=hv;refine ⟨g,cur,rfl,hblk,fun j hj=>?_,by omega⟩;have h1:=congrArg (fun z:List Value=>z[j]?) htake;simp only [List.getElem?_take,Array.getElem?_toList] at h1;rw [if_pos (by omega)] at h1;rw [h1];simp [nats,hj]
theorem owns_rebuild {a:Option Addr}{n c g:Nat}{l l':List Nat}{C C':Array Value}(hown:w.ownsRow 0 3 1 (.slice a n c) n (nats l))(hn:0<n)(ha:a=some ⟨g,0,none⟩)(hB:Blk w g C 3)(hB':Blk w' g C' 3)(hs:C'.size=C.size)(hl:l'.length=n)
  (hC':∀ k,k<n→C'[k]?=some (.int .i64 ((l'.getD k 0:Nat):Int))):w'.ownsRow 0 3 1 (.slice a n c) n (nats l'):=by
 obtain ⟨hln,⟨hv,h0⟩|⟨g2,cap2,cur,hv,hg,hblk,hcap,hmx,hsz,htake⟩⟩:=hown
 ·omega
 ·simp only [Value.slice.injEq] at hv;obtain ⟨h1,_,rfl⟩:=hv;rw [ha] at h1;simp only [Option.some.injEq,Addr.mk.injEq,and_true] at h1;subst h1;have hblk':Blk w g cur 3:=hblk;have hcur:cur=C:=by
   unfold Blk at hB hblk';rw [hblk'] at hB;simpa using hB
  refine ⟨by simp [nats,hl],Or.inr ⟨g,c,C',by rw [ha],hg,hB',hcap,hmx,by rw [hs,← hcur];exact hsz,?_⟩⟩;apply List.ext_getElem?;intro k;rw [List.getElem?_take];by_cases hk:k<n
  ·rw [if_pos (by omega),Array.getElem?_toList,hC' k hk];simp [nats,show k<l'.length by omega]
  ·rw [if_neg (by omega),List.getElem?_eq_none (by rw [nats_length];omega)]
set_option maxHeartbeats 1000000
theorem oLen_calls (a:Option Addr)(m c:Nat)(w:World):Ret Tryz.prog 218 #[.slice a m c] w fun v w'=>v=.int .i64 (m:Int)∧w'=w:=by
 refine ret_of (args:=[_]) _ Tryz.func218 rfl Tryz.ntmps218 (by simp) ?_;simp -implicitDefEqProofs [go_sem];refine body_tmp 2 rfl ?_;simp -implicitDefEqProofs [go_sem]
theorem oLess_calls (a:Option Addr)(c i j:Nat)(w:World)(hown:w.ownsRow 0 3 1 (.slice a l.length c) l.length (nats l))(hi:i<l.length)(hj:j<l.length) :
  Ret Tryz.prog 264 #[.slice a l.length c,.int .i64 (i:Int),.int .i64 (j:Int)] w fun v w'=>v=.bool (decide (l.getD i 0<l.getD j 0))∧Below w.heap.size w w':=by
 obtain ⟨g,C,rfl,hB,hC,_⟩:=OrdB.cells hown hi;have c1:=hB.cell i;have c2:=hB.cell j;rw [hC i hi] at c1;rw [hC j hj] at c2;have i1:(i:Int)<l.length:=by omega
 have j1:(j:Int)<l.length:=by omega
 generalize l.getD i 0=x at *;generalize l.getD j 0=y at *;refine ret_of (args:=[_,_,_]) _ Tryz.func264 rfl Tryz.ntmps264 (by simp) ?_;simp -implicitDefEqProofs [go_sem];refine drawE_still mixed (by decide +kernel) ?_;simp -implicitDefEqProofs [go_sem,c1,c2,i1,j1,hi,hj];unfold endE;simp -implicitDefEqProofs [go_sem];refine body_tmp 6 rfl ?_;simp -implicitDefEqProofs [go_sem];exact (Below.refl _ _).drew
theorem oSwap_calls (a:Option Addr)(c i j:Nat)(w:World)(hown:w.ownsRow 0 3 1 (.slice a l.length c) l.length (nats l))(hi:i<l.length)(hj:j<l.length) :
  Ret Tryz.prog 267 #[.slice a l.length c,.int .i64 (i:Int),.int .i64 (j:Int)] w fun v w'=>v=.tuple #[]∧w'.ownsRow 0 3 1 (.slice a l.length c) l.length (nats (HP.swapL l i j))∧Mod (fun k=>Value.ownBlock (.slice a l.length c)=some k) w w':=by
 obtain ⟨g,C,rfl,hB,hC,hCs⟩:=OrdB.cells hown hi;refine ret_of (args:=[_,_,_]) _ Tryz.func267 rfl Tryz.ntmps267 (by simp) ?_;have c1:=hB.cell i;have c2:=hB.cell j;rw [hC i hi] at c1;rw [hC j hj] at c2;have i1:(i:Int)<l.length:=by omega
 have j1:(j:Int)<l.length:=by omega
 have hBd:Blk w.drew g C 3:=hB;have s1:=hBd.set i (.int .i64 ((l.getD j 0:Nat):Int));have s2:=s1.set j (.int .i64 ((l.getD i 0:Nat):Int));have d1:=s1.cell j;have th:=hBd.thaw;have th1:=s1.thaw;have hget:∀ k,k<l.length→((C.setIfInBounds i (.int .i64 ((l.getD j 0:Nat):Int))).setIfInBounds j (.int .i64 ((l.getD i 0:Nat):Int)))[k]?=some (.int .i64 (((HP.swapL l i j).getD k 0:Nat):Int)):=fun k hk=>by
  have hCk:∀ k,k<l.length→k<C.size:=fun k hk=>by
   rcases Nat.lt_or_ge k C.size with h|h
   ·exact h
   ·have:=hC k hk;rw [Array.getElem?_eq_none h] at this;cases this
  rw [HP.swapL_get hi hj,Array.getElem?_setIfInBounds,Array.getElem?_setIfInBounds];by_cases h1:k=j
  ·subst h1;rw [if_pos rfl,if_pos (by simpa using hCk _ hj),if_pos rfl]
  ·rw [if_neg (fun e=>h1 e.symm),if_neg h1];by_cases h2:k=i
   ·subst h2;rw [if_pos rfl,if_pos (hCk _ hi),if_pos rfl]
   ·rw [if_neg (fun e=>h2 e.symm),if_neg h2];exact hC k hk
 have hownF:=owns_rebuild (l':=HP.swapL l i j) hown (by omega) rfl hB s2 (by simp) (by rw [HP.swapL_len]) hget;have hmF:=((Mod.refl (fun k=>Value.ownBlock (.slice (some ⟨g,0,none⟩) l.length c)=some k) w).drew.setCell (a:=⟨g,i,none⟩) (.inl rfl) (.int .i64 ((l.getD j 0:Nat):Int))).setCell (a:=⟨g,j,none⟩) (.inl rfl) (.int .i64 ((l.getD i 0:Nat):Int));have hCi:=hC i hi;have hCj:=hC j hj;obtain ⟨u,hu⟩:∃ u,(C.setIfInBounds i (.int .i64 ((l.getD j 0:Nat):Int)))[j]?=some u:=by
  have hjC:j<C.size:=by
   rcases Nat.lt_or_ge j C.size with h|h
   ·exact h
   ·have:=hC j hj;rw [Array.getElem?_eq_none h] at this;cases this
  exact ⟨_,Array.getElem?_eq_getElem (by simpa using hjC)⟩
 rw [hu] at d1;have tj:=th1 j;clear hget;generalize l.getD i 0=x at *;generalize l.getD j 0=y at *;refine drawE_mix [.pure 0,.pure 1,.pure 2,.pure 3,.pure 4,.pure 5,.pure 6,.pure 8,.pure 9,.pure 10,.take 7,.run 11 [7],.pure 12,.run 13 [],.pure 14,.run 15 []] mixed (by decide +kernel) (by simp only [wo];rfl) ?_;generalize World.drew w=w1 at *;simp -implicitDefEqProofs [go_sem,i1,j1,hi,hj]
 refine onTake_of (fun w'=>Below w1.heap.size w1 w') (.int .i64 (y:Int)) (Below.refl _ _) (fun w' hw=>by simp -implicitDefEqProofs [go_sem,(hBd.next hw).cell,hCj]) ?_;simp -implicitDefEqProofs [go_sem,i1,j1,hi,hj,hBd.cell,hCi,hCj,hBd.thaw,tj,d1];refine body_end (body_none rfl ?_);exact ⟨rfl,hownF,hmF⟩
end
structure OrdC (w:World) (o:Nat) (a:Option Addr) (n c:Nat) (l:List Nat):Prop where
 blk:Blk w o #[.slice a n c] 339
 own:w.ownsRow 0 3 1 (.slice a n c) n (nats l)
 ne:Value.ownBlock (.slice a n c)≠some o
 len:l.length=n
def OrdK (o:Nat)(a:Option Addr)(n c:Nat)(k:Nat):Prop:=k=o∨Value.ownBlock (.slice a n c)=some k
section
variable {w w':World} {o:Nat} {a:Option Addr} {n c:Nat} {l:List Nat} {F F':Nat→Prop}
theorem OrdC.mod (h:OrdC w o a n c l)(hm:Mod F w w')(hF:∀ k,OrdK o a n c k→¬ F k):OrdC w' o a n c l :=
 ⟨h.blk.mod hm (hF o (.inl rfl)),ownsRow_mod h.own hm (fun g hg=>hF g (.inr hg)),h.ne,h.len⟩
theorem OrdC.next (h:OrdC w o a n c l)(hb:Below w.heap.size w w'):OrdC w' o a n c l:=h.mod (Mod.of (F:=fun _=>False) hb) (fun _ _ h=>h)
theorem OrdC.lt (h:OrdC w o a n c l):∀ k,OrdK o a n c k→k<w.heap.size:=by
 rintro k (rfl|hk)
 ·exact h.blk.lt
 ·exact (h.own.lt k hk).2
set_option maxHeartbeats 1000000
theorem less_o (i j:Nat)(h:OrdC w o a n c l)(hi:i<n)(hj:j<n) :
  Ret Tryz.prog 264 #[.slice a n c,.int .i64 (i:Int),.int .i64 (j:Int)] w fun v w'=>v=.bool (decide (l.getD i 0<l.getD j 0))∧Below w.heap.size w w':=by
 have hl:=h.len;subst hl;exact oLess_calls a c i j w h.own hi hj
theorem swap_o (i j:Nat)(h:OrdC w o a n c l)(hi:i<n)(hj:j<n) :
  Ret Tryz.prog 267 #[.slice a n c,.int .i64 (i:Int),.int .i64 (j:Int)] w fun v w'=>v=.tuple #[]∧OrdC w' o a n c (HP.swapL l i j)∧Mod (OrdK o a n c) w w':=by
 have hl:=h.len;subst hl;refine (oSwap_calls a c i j w h.own hi hj).mono ?_;rintro v w' ⟨rfl,hown,hm⟩;exact ⟨rfl,⟨h.blk.mod hm h.ne,hown,h.ne,HP.swapL_len _ _ _⟩,hm.mono (fun k hk _=>.inr hk)⟩
theorem up_calls (j:Nat)(h:OrdC w o a n c l)(hj:j<n)(hn:n≤1000)(hstop:j=0∨l.getD ((j-1)/2) 0≤l.getD j 0) :
  Ret Tryz.prog 145 #[.iface 331 (.pointer (some ⟨o,0,none⟩)),.int .i64 (j:Int)] w fun v w'=>v=.tuple #[]∧Below w.heap.size w w':=by
 refine ret_of (args:=[_,_]) _ Tryz.func145 rfl Tryz.ntmps145 (by simp) ?_;simp -implicitDefEqProofs [go_sem];refine wpE_rounds 1 ?_;have kj:=IntWalk.i64_in ((j:Int)-1) (by omega);by_cases h0:j=0
 ·subst h0;have k1:IntKind.i64.wrap (-1)=-1:=by decide
  have k2:IntKind.i64.wrap ((-1:Int).tdiv 2)=0:=by decide
  have k3:(-1:Int).tdiv 2=0:=by decide
  have k4:IntKind.i64.wrap 0=0:=by decide
  simp -implicitDefEqProofs [go_sem,k1,k2,k3,k4];refine body_end (body_none rfl ?_);exact ⟨rfl,Below.refl _ _⟩
 ·obtain ⟨q,hq⟩:∃ q,q=(j-1)/2:=⟨_,rfl⟩;have t1:((j:Int)-1).tdiv 2=(q:Int):=by rw [Int.tdiv_eq_ediv_of_nonneg (by omega)];omega
  have t2:((j:Int)-1)/2=(q:Int):=by omega
  have kq:=IntWalk.i64_in (q:Int) (by omega);have hne:((q:Int)==(j:Int))=false:=by rw [beq_eq_false_iff_ne];omega
  have hne':¬ (q:Int)=(j:Int):=by omega
  have hne2:¬ q=j:=by omega
  simp -implicitDefEqProofs [go_sem,kj,t1,t2,kq,hne,hne',hne2,inv_less _ w o (h.blk.cell 0)];refine callE_of (less_o j q h hj (by omega)) ?_;rintro v w1 ⟨rfl,b1⟩;have hls:decide (l.getD j 0<l.getD q 0)=false:=decide_eq_false (by rcases hstop with h|h;omega;rw [← hq] at h;omega);rw [hls];simp -implicitDefEqProofs [go_sem];refine body_end (body_none rfl ?_);exact ⟨rfl,b1⟩
theorem down_calls (m:Nat)(h:OrdC w o a n c l)(hm:m<n)(hn:n≤1000)(hex:HP.HeapEx l m 0) :
  Ret Tryz.prog 225 #[.iface 331 (.pointer (some ⟨o,0,none⟩)),.int .i64 0,.int .i64 (m:Int)] w fun v w'=>∃ b l',v=.bool b∧OrdC w' o a n c l'∧HP.Down l l' m∧Mod (OrdK o a n c) w w':=by
 refine ret_of (args:=[_,_,_]) _ Tryz.func225 rfl Tryz.ntmps225 (by simp) ?_;simp -implicitDefEqProofs [go_sem];refine wpE_loop (fun e' w'=>∃ (i:Nat) (l':List Nat),(i<m∨i=0)∧e' 0=.iface 331 (.pointer (some ⟨o,0,none⟩))∧e' 1=.int .i64 0∧e' 2=.int .i64 m∧e' 7=.int .i64 i ∧
  OrdC w' o a n c l'∧l'.Perm l∧HP.HeapEx l' m i∧(∀ k,m≤k→l'.getD k 0=l.getD k 0)∧Mod (OrdK o a n c) w w') (fun e' _=>m-(intOf (e' 7)).toNat) ?_ ?_
 ·refine ⟨0,l,.inr rfl,?_⟩;simp -implicitDefEqProofs [go_sem];exact ⟨h,hex,Mod.refl _ _⟩
 ·rintro e' w1 ⟨i,l1,hi,g0,g1,g2,g7,h1,hp,hx,hr,hM⟩;have hl1:=h1.len;have k1:=IntWalk.i64_in (2*(i:Int)) (by omega);have k2:=IntWalk.i64_in (2*(i:Int)+1) (by omega);have k3:=IntWalk.i64_in (2*(i:Int)+1+1) (by omega);have e1:2*(i:Int)+1=((2*i+1:Nat):Int):=by omega
  have e2:2*(i:Int)+1+1=((2*i+2:Nat):Int):=by omega
  have n0:¬ 2*(i:Int)+1<0:=by omega
  have fin:∀ (w2:World),OrdC w2 o a n c l1→Mod (OrdK o a n c) w w2→HP.Heap l1 m→∃ l',OrdC w2 o a n c l'∧HP.Down l l' m∧Mod (OrdK o a n c) w w2:=fun w2 h2 hM2 hh=>⟨l1,h2,⟨hp,hh,hr⟩,hM2⟩
  by_cases hj1:m≤2*i+1
  ·have hj1':(m:Int)≤2*(i:Int)+1:=by omega
   simp -implicitDefEqProofs [go_sem,g0,g1,g2,g7,k1,k2,hj1',hj1];refine body_tmp 6 rfl ?_;simp -implicitDefEqProofs [go_sem];exact fin w1 h1 hM (HP.ex_end hx (fun k hk hkm hpar=>by omega))
  ·have hj1':¬ (m:Int)≤2*(i:Int)+1:=by omega
   by_cases hj2:2*i+2<m
   ·have hj2':2*(i:Int)+1+1<m:=by omega
    have hj2'':2*(i:Int)+2<m:=by omega
    simp -implicitDefEqProofs [go_sem,g0,g1,g2,g7,k1,k2,k3,hj1',hj2',hj2'',n0,inv_less _ w1 o (h1.blk.cell 0)];rw [e2,e1];refine callE_of (less_o (2*i+2) (2*i+1) h1 (by omega) (by omega)) ?_;rintro v w2 ⟨rfl,b2⟩;have h2:=h1.next b2
    have hM2:=hM.trans (Mod.of (F:=OrdK o a n c) b2) (fun k hk _=>hk);by_cases hlt:l1.getD (2*i+2) 0<l1.getD (2*i+1) 0
    ·rw [decide_eq_true hlt];obtain ⟨jj,hjj⟩:∃ jj,jj=2*i+2:=⟨_,rfl⟩;have ej:2*(i:Int)+2=(jj:Int):=by omega
     have hmin:∀ k,0<k→k<m→(k-1)/2=i→l1.getD jj 0≤l1.getD k 0:=fun k hk hkm hpar=>by
      rcases (show k=2*i+1∨k=2*i+2 by omega) with h|h
      ·rw [h,hjj];omega
      ·rw [h,hjj];exact Nat.le_refl _
     simp -implicitDefEqProofs [go_sem,g0,g1,g2,g7,k1,k2,k3,inv_less _ w2 o (h2.blk.cell 0)];rw [ej];refine callE_of (less_o jj i h2 (by omega) (by omega)) ?_;rintro v w3 ⟨rfl,b3⟩;have h3:=h2.next b3
     have hM3:=hM2.trans (Mod.of (F:=OrdK o a n c) b3) (fun k hk _=>hk);by_cases hl2:l1.getD jj 0<l1.getD i 0
     ·rw [decide_eq_true hl2];simp -implicitDefEqProofs [go_sem,g0,g1,g2,g7,ej,inv_swap _ w3 o (h3.blk.cell 0)];refine callE_of (swap_o i jj h3 (by omega) (by omega)) ?_;rintro v w4 ⟨rfl,h4,m4⟩;simp -implicitDefEqProofs [go_sem,g0,g1,g2,g7];refine goE_round ⟨jj,HP.swapL l1 i jj,.inl (by omega),?_,?_,?_,?_,h4,(HP.swapL_perm (by omega) (by omega)).trans hp,HP.ex_swap hx (by omega) (by omega) (by omega) (by omega) (by omega) hl2 hmin,fun k hk=>?_,hM3.trans m4 (fun k hk _=>hk)⟩ ?_
      ·simp -implicitDefEqProofs [go_sem,g0]
      ·simp -implicitDefEqProofs [go_sem,g1]
      ·simp -implicitDefEqProofs [go_sem,g2]
      ·simp -implicitDefEqProofs [go_sem]
      ·rw [HP.swapL_get (by omega) (by omega),if_neg (by omega),if_neg (by omega)];exact hr k hk
      ·simp -implicitDefEqProofs [go_sem,intOf,g7];omega
     ·rw [decide_eq_false hl2];simp -implicitDefEqProofs [go_sem,g0,g1,g2,g7];refine body_tmp 6 rfl ?_;simp -implicitDefEqProofs [go_sem];exact fin w3 h3 hM3 (HP.ex_end hx (fun k hk hkm hpar=>Nat.le_trans (by omega) (hmin k hk hkm hpar)))
    ·rw [decide_eq_false hlt];obtain ⟨jj,hjj⟩:∃ jj,jj=2*i+1:=⟨_,rfl⟩;have ej:2*(i:Int)+1=(jj:Int):=by omega
     have hmin:∀ k,0<k→k<m→(k-1)/2=i→l1.getD jj 0≤l1.getD k 0:=fun k hk hkm hpar=>by
      rcases (show k=2*i+1∨k=2*i+2 by omega) with h|h
      ·rw [h,hjj];exact Nat.le_refl _
      ·rw [h,hjj];omega
     simp -implicitDefEqProofs [go_sem,g0,g1,g2,g7,k1,k2,k3,inv_less _ w2 o (h2.blk.cell 0)];rw [ej];refine callE_of (less_o jj i h2 (by omega) (by omega)) ?_;rintro v w3 ⟨rfl,b3⟩;have h3:=h2.next b3
     have hM3:=hM2.trans (Mod.of (F:=OrdK o a n c) b3) (fun k hk _=>hk);by_cases hl2:l1.getD jj 0<l1.getD i 0
     ·rw [decide_eq_true hl2];simp -implicitDefEqProofs [go_sem,g0,g1,g2,g7,ej,inv_swap _ w3 o (h3.blk.cell 0)];refine callE_of (swap_o i jj h3 (by omega) (by omega)) ?_;rintro v w4 ⟨rfl,h4,m4⟩;simp -implicitDefEqProofs [go_sem,g0,g1,g2,g7];refine goE_round ⟨jj,HP.swapL l1 i jj,.inl (by omega),?_,?_,?_,?_,h4,(HP.swapL_perm (by omega) (by omega)).trans hp,HP.ex_swap hx (by omega) (by omega) (by omega) (by omega) (by omega) hl2 hmin,fun k hk=>?_,hM3.trans m4 (fun k hk _=>hk)⟩ ?_
      ·simp -implicitDefEqProofs [go_sem,g0]
      ·simp -implicitDefEqProofs [go_sem,g1]
      ·simp -implicitDefEqProofs [go_sem,g2]
      ·simp -implicitDefEqProofs [go_sem]
      ·rw [HP.swapL_get (by omega) (by omega),if_neg (by omega),if_neg (by omega)];exact hr k hk
      ·simp -implicitDefEqProofs [go_sem,intOf,g7];omega
     ·rw [decide_eq_false hl2];simp -implicitDefEqProofs [go_sem,g0,g1,g2,g7];refine body_tmp 6 rfl ?_;simp -implicitDefEqProofs [go_sem];exact fin w3 h3 hM3 (HP.ex_end hx (fun k hk hkm hpar=>Nat.le_trans (by omega) (hmin k hk hkm hpar)))
   ·have hj2':¬ 2*(i:Int)+1+1<m:=by omega
    have hj2'':¬ 2*(i:Int)+2<m:=by omega
    obtain ⟨jj,hjj⟩:∃ jj,jj=2*i+1:=⟨_,rfl⟩;have ej:2*(i:Int)+1=(jj:Int):=by omega
    have hmin:∀ k,0<k→k<m→(k-1)/2=i→l1.getD jj 0≤l1.getD k 0:=fun k hk hkm hpar=>by
     rw [show k=2*i+1 by omega,hjj];exact Nat.le_refl _
    have h2:=h1;have hM2:=hM;obtain ⟨w2,hw2⟩:∃ w2,w2=w1:=⟨_,rfl⟩;rw [← hw2] at h2 hM2;simp -implicitDefEqProofs [go_sem,g0,g1,g2,g7,k1,k2,k3,hj1',hj2',hj2'',n0,inv_less _ w1 o (h1.blk.cell 0)];rw [← hw2];rw [ej];refine callE_of (less_o jj i h2 (by omega) (by omega)) ?_;rintro v w3 ⟨rfl,b3⟩;have h3:=h2.next b3
    have hM3:=hM2.trans (Mod.of (F:=OrdK o a n c) b3) (fun k hk _=>hk);by_cases hl2:l1.getD jj 0<l1.getD i 0
    ·rw [decide_eq_true hl2];simp -implicitDefEqProofs [go_sem,g0,g1,g2,g7,ej,inv_swap _ w3 o (h3.blk.cell 0)];refine callE_of (swap_o i jj h3 (by omega) (by omega)) ?_;rintro v w4 ⟨rfl,h4,m4⟩;simp -implicitDefEqProofs [go_sem,g0,g1,g2,g7];refine goE_round ⟨jj,HP.swapL l1 i jj,.inl (by omega),?_,?_,?_,?_,h4,(HP.swapL_perm (by omega) (by omega)).trans hp,HP.ex_swap hx (by omega) (by omega) (by omega) (by omega) (by omega) hl2 hmin,fun k hk=>?_,hM3.trans m4 (fun k hk _=>hk)⟩ ?_
     ·simp -implicitDefEqProofs [go_sem,g0]
     ·simp -implicitDefEqProofs [go_sem,g1]
     ·simp -implicitDefEqProofs [go_sem,g2]
     ·simp -implicitDefEqProofs [go_sem]
     ·rw [HP.swapL_get (by omega) (by omega),if_neg (by omega),if_neg (by omega)];exact hr k hk
     ·simp -implicitDefEqProofs [go_sem,intOf,g7];omega
    ·rw [decide_eq_false hl2];simp -implicitDefEqProofs [go_sem,g0,g1,g2,g7];refine body_tmp 6 rfl ?_;simp -implicitDefEqProofs [go_sem];exact fin w3 h3 hM3 (HP.ex_end hx (fun k hk hkm hpar=>Nat.le_trans (by omega) (hmin k hk hkm hpar)))
end
end
section
open Go Go.RowKit
theorem intI:∃ i z,Tryz.prog.info? 3=some i∧i.zero=some z∧i.size=1∧i.bytes=8∧z.cells.size=1:=by
 have h:(Tryz.prog.info? 3).map (fun i=>(i.zero.map (fun z=>z.cells.size),i.size,i.bytes))=some (some 1,1,8):=by kernel_rfl
 obtain ⟨i,hi,h2⟩:=Option.map_eq_some_iff.1 h;simp only [Prod.mk.injEq] at h2;obtain ⟨z,hz,h3⟩:=Option.map_eq_some_iff.1 h2.1;exact ⟨i,z,hi,hz,h2.2.1,h2.2.2,h3⟩
theorem push_int {w:World}{a:Option Addr}{len c:Nat}{xs:List Value}(hown:w.ownsRow 0 3 1 (.slice a len c) len xs)(hl:len≤1000000)(u:Value)(hu:u.oneCell'=true) :
  ∃ g c2 w2,(appendB #[339,339] 339 #[.slice a len c,.slice (some ⟨w.heap.size,0,none⟩) 1 1]).run Tryz.prog (w.alloc (.cells #[u] 3))=.ok (.slice (some ⟨g,0,none⟩) (len+1) c2) w2 ∧
   w2.ownsRow 0 3 1 (.slice (some ⟨g,0,none⟩) (len+1) c2) (len+1) (xs++[u])∧w.heap.size<w2.heap.size ∧
   Turn w (fun b=>Value.ownBlock (.slice a len c)=some b) w2 (fun b=>b=g):=by
 have ha:(w.alloc (.cells #[u] 3)).heap.size=w.heap.size+1:=by simp
 obtain ⟨ti,tz,hti,htz,hts,htb,htc⟩:=intI;obtain ⟨g,c2,w2,hr2,hown2,hgr,hwhere⟩:=run_append_where (P:=Tryz.prog) (w:=w.alloc (.cells #[u] 3)) 0 (t:=339) (ty:=339) Tryz.underlying339 hti htz hts htb htc (by decide) (hown.alloc (.cells #[u] 3)) ⟨w.heap.size,0,none⟩ (m:=1) (c:=1) (news:=[u]) rfl
  (fun j u' hu'=>by rw [Addr.add_lit,Nat.zero_add,(Blk.new _ _ _).cell];simpa using hu') (by intro u' hu';simp at hu';subst hu';exact hu) (by decide) (by omega) (by omega) (by omega)
 have hsz:=hgr.size;refine ⟨g,c2,w2,hr2,hown2,by omega,⟨?_,fun b hb=>?_⟩⟩
 ·exact ((Mod.refl (fun b=>Value.ownBlock (.slice a len c)=some b) w).alloc _).trans (mod_of_grown hgr) (fun b hb _=>hb)
 ·subst hb
  rcases hwhere with h|h
  ·exact .inl h
  ·exact .inr (by omega)
theorem run_tAssert (v:Value)(w:World):(Instr.typeAssert (.iface 3 v) 20 3 true).run Tryz.prog w=.ok (.tuple #[v,.bool true]) w:=by
 have hu:Tryz.prog.underlying 3=_:=Tryz.underlying3;simp [Instr.typeAssert,run_underlying hu]
section
variable {w w':World} {o:Nat} {a:Option Addr} {n c:Nat} {l:List Nat} {F F':Nat→Prop}
set_option maxHeartbeats 1000000
theorem oPush_calls (x:Nat)(h:OrdC w o a n c l)(hn:n≤1000) :
  Ret Tryz.prog 266 #[.pointer (some ⟨o,0,none⟩),.iface 3 (.int .i64 (x:Int))] w fun v w'=>v=.tuple #[]∧∃ a' c',OrdC w' o a' (n+1) c' (l++[x])∧Turn w (OrdK o a n c) w' (OrdK o a' (n+1) c'):=by
 obtain ⟨g,c2,w2,hr,hown,hsz,ht⟩:=push_int h.own (by omega) (.int .i64 (x:Int)) rfl;have hlt:=h.own.lt;refine ret_of (args:=[_,_]) _ Tryz.func266 rfl Tryz.ntmps266 (by simp) ?_;have hB2:=h.blk.mod ht.mod h.ne;have s2:=hB2.set 0 (.slice (some ⟨g,0,none⟩) (n+1) c2);have hgo:g≠o:=fun e=>by
  rcases ht.new g rfl with h1|h1
  ·rw [e] at h1;exact h.ne h1
  ·have:=h.blk.lt;omega
 have m2:=(Mod.refl (fun k=>k=o) w2).setCell (a:=⟨o,0,none⟩) (.inl rfl) (.slice (some ⟨g,0,none⟩) (n+1) c2);simp -implicitDefEqProofs [go_sem,h.blk.cell,run_tAssert,hr,hB2.cell,hB2.thaw];refine body_end (body_none rfl ?_);refine ⟨rfl,some ⟨g,0,none⟩,c2,⟨by simpa using s2,?_,by simp [Value.ownBlock,hgo],by simp [h.len]⟩,⟨?_,fun k hk=>?_⟩⟩
 ·have:=ownsRow_mod hown m2 (fun k hk e=>by simp [Value.ownBlock] at hk;exact hgo (hk.trans e));rw [nats_append];exact this
 ·exact (ht.mod.mono (G:=OrdK o a n c) (fun k hk _=>.inr hk)).trans m2 (fun k hk _=>.inl hk)
 ·rcases hk with hk|hk
  ·exact .inl (.inl hk)
  ·have e:k=g:=by simp [Value.ownBlock] at hk;exact hk.symm
   rcases ht.new k e with h1|h1
   ·exact .inl (.inr h1)
   ·exact .inr h1
theorem owns_less {xs:List Nat}{m:Nat}(hown:w.ownsRow 0 3 1 (.slice a (m+1) c) (m+1) (nats xs)):w.ownsRow 0 3 1 (.slice a m c) m (nats (xs.take m)):=by
 obtain ⟨hl,⟨hv,h0⟩|⟨g,cap2,cur,hv,hg,hblk,hcap,hmx,hsz,htake⟩⟩:=hown
 ·omega
 ·simp only [Value.slice.injEq] at hv;obtain ⟨rfl,_,rfl⟩:=hv;rw [nats_length] at hl;refine ⟨by rw [nats_length];simp;omega,Or.inr ⟨g,c,cur,rfl,hg,hblk,by omega,hmx,hsz,?_⟩⟩;have h1:=congrArg (fun z:List Value=>z.take m) htake;simp only [List.take_take] at h1;rw [show min m ((m+1)*1)=m*1 by omega] at h1;rw [h1];simp [nats,List.map_take]
theorem oPop_calls (m:Nat)(h:OrdC w o a (m+1) c l)(hn:m≤1000) :
  Ret Tryz.prog 265 #[.pointer (some ⟨o,0,none⟩)] w fun v w'=>v=.iface 3 (.int .i64 ((l.getD m 0:Nat):Int))∧OrdC w' o a m c (l.take m)∧Mod (OrdK o a (m+1) c) w w':=by
 have hl:=h.len;obtain ⟨g,C,rfl,hB,hC,hCs⟩:=OrdB.cells (l:=l) (i:=m) (by rw [hl];exact h.own) (by omega);have cm:=hB.cell m;rw [hC m (by omega)] at cm;have k1:=IntWalk.i64_in (m:Int) (by omega);have hcap:m+1≤c:=by
  obtain ⟨_,⟨hv,h0⟩|⟨g,cap2,cur,hv,hg,hblk,hcap,_⟩⟩:=h.own
  ·omega
  ·simp only [Value.slice.injEq] at hv;omega
 have s2:=h.blk.set 0 (.slice (some ⟨g,0,none⟩) m c);have m2:=(Mod.refl (fun k=>k=o) w).setCell (a:=⟨o,0,none⟩) (.inl rfl) (.slice (some ⟨g,0,none⟩) m c);have hown2:=ownsRow_mod (owns_less h.own) m2 (fun k hk e=>h.ne (e▸hk));have i1:(m:Int)<(m:Int)+1:=by omega
 have i2:(m:Int)≤c:=by omega
 generalize l.getD m 0=x at *;refine ret_of (args:=[_]) _ Tryz.func265 rfl Tryz.ntmps265 (by simp) ?_;simp -implicitDefEqProofs [go_sem,h.blk.cell,h.blk.thaw,k1,cm,i1,i2];refine body_tmp 2 rfl ?_;simp -implicitDefEqProofs [go_sem];refine ⟨⟨by simpa using s2,hown2,?_,by simp [hl]⟩,m2.mono (fun k hk _=>.inl hk)⟩;have:=h.ne;simpa [Value.ownBlock] using this
theorem heapPush_calls (x:Nat)(h:OrdC w o a n c l)(hn:n≤900)(hmx:∀ y∈l,y≤x) :
  Ret Tryz.prog 113 #[.iface 331 (.pointer (some ⟨o,0,none⟩)),.iface 3 (.int .i64 (x:Int))] w fun v w'=>v=.tuple #[]∧∃ a' c',OrdC w' o a' (n+1) c' (l++[x])∧Turn w (OrdK o a n c) w' (OrdK o a' (n+1) c'):=by
 have hl:=h.len;refine ret_of (args:=[_,_]) _ Tryz.func113 rfl Tryz.ntmps113 (by simp) ?_;simp -implicitDefEqProofs [go_sem,inv_push];refine callE_of (oPush_calls x h (by omega)) ?_;rintro v w1 ⟨rfl,a1,c1,h1,t1⟩;simp -implicitDefEqProofs [go_sem,inv_len _ w1 o (h1.blk.cell 0)];refine callE_of (oLen_calls a1 (n+1) c1 w1) ?_;rintro v w2 ⟨rfl,rfl⟩;have k1:=IntWalk.i64_in (n:Int) (by omega);have e1:((n+1:Nat):Int)-1=(n:Int):=by omega
 simp -implicitDefEqProofs [go_sem,e1,k1];refine callE_of (up_calls n h1 (by omega) (by omega) ?_) ?_
 ·by_cases h0:n=0
  ·exact .inl h0
  ·right;have hg:(l++[x]).getD n 0=x:=by rw [List.getD_eq_getElem?_getD,List.getElem?_append_right (by omega),hl];simp
   have hp:(n-1)/2<l.length:=by omega
   have hg2:(l++[x]).getD ((n-1)/2) 0=l[(n-1)/2]:=by
    rw [List.getD_eq_getElem?_getD,List.getElem?_append_left hp];simp [hp]
   rw [hg,hg2];exact hmx _ (List.getElem_mem hp)
 ·rintro v w3 ⟨rfl,b3⟩;simp -implicitDefEqProofs [go_sem];refine body_end (body_none rfl ?_);exact ⟨rfl,a1,c1,h1.next b3,t1.trans (.of b3)⟩
theorem heapPop_calls (m:Nat)(h:OrdC w o a (m+1) c l)(hn:m≤900)(hh:HP.Heap l (m+1)) :
  Ret Tryz.prog 219 #[.iface 331 (.pointer (some ⟨o,0,none⟩))] w fun v w'=>v=.iface 3 (.int .i64 ((l.getD 0 0:Nat):Int))∧∃ l',OrdC w' o a m c l'∧HP.Heap l' m∧(l.getD 0 0::l').Perm l∧(∀ y∈l,l.getD 0 0≤y)∧Mod (OrdK o a (m+1) c) w w':=by
 have hl:=h.len;have k1:=IntWalk.i64_in (m:Int) (by omega);have e1:((m+1:Nat):Int)-1=(m:Int):=by omega
 refine ret_of (args:=[_]) _ Tryz.func219 rfl Tryz.ntmps219 (by simp) ?_;simp -implicitDefEqProofs [go_sem,inv_len _ w o (h.blk.cell 0)];refine callE_of (oLen_calls a (m+1) c w) ?_;rintro v w1 ⟨rfl,rfl⟩;simp -implicitDefEqProofs [go_sem,e1,k1,inv_swap _ w1 o (h.blk.cell 0)];refine callE_of (swap_o 0 m h (by omega) (by omega)) ?_;rintro v w2 ⟨rfl,h2,m2⟩;simp -implicitDefEqProofs [go_sem];refine callE_of (down_calls m h2 (by omega) (by omega) (HP.heap_ex hh (by omega))) ?_
 rintro v w3 ⟨b,l3,rfl,h3,hd,m3⟩;have hl3:=HP.pop_law hl hh hd;simp -implicitDefEqProofs [go_sem,inv_pop];refine callE_of (oPop_calls m h3 (by omega)) ?_;rintro v w4 ⟨rfl,h4,m4⟩;simp -implicitDefEqProofs [go_sem];refine body_tmp 2 rfl ?_;simp -implicitDefEqProofs [go_sem];obtain ⟨q1,q2,q3,q4,_⟩:=hl3;simp only [List.getD_eq_getElem?_getD] at q1 q3 q4;exact ⟨by rw [q1],l3.take m,h4,q2,q3,q4,(m2.trans m3 (fun k hk _=>hk)).trans m4 (fun k hk _=>hk)⟩
end
end
section
open Go Go.RowKit
def setO (w:World)(r:Nat)(o:Obj):World:={ w with heap:=w.heap.setIfInBounds r o }
theorem setO_size (w:World)(r:Nat)(o:Obj):(setO w r o).heap.size=w.heap.size:=by simp [setO]
theorem setO_at {w:World}{r:Nat}{o:Obj}(h:r<w.heap.size):(setO w r o).heap[r]?=some o:=by simp [setO,h]
theorem setO_other {w:World}{r k:Nat}{o:Obj}(h:k≠r):(setO w r o).heap[k]?=w.heap[k]?:=by
 simp only [setO,Array.getElem?_setIfInBounds];rw [if_neg (fun e=>h e.symm)]
theorem Mod.setO {F:Nat→Prop}{w w':World}(h:Mod F w w'){r:Nat}(hr:F r∨w.heap.size≤r)(o:Obj):Mod F w (setO w' r o) :=
 ⟨h.os,h.tape,h.output,by rw [setO_size];exact h.size,fun k hk hF=>by
  rw [setO_other (by rintro rfl;rcases hr with h|h;exact hF h;omega)];exact h.block k hk hF⟩
theorem ck_succ (e:Bool)(n:Nat)(x:Int)(w:World):(Instr.checkKey e (n+1) 3 (.int .i64 x)).run Tryz.prog w=.ok () w:=by
 have hi:Tryz.prog.underlying 3=_:=Tryz.underlying3;unfold Instr.checkKey;simp [run_underlying hi]
theorem ck_all (e:Bool)(x:Int)(w:World):(Instr.checkKey e 10000 3 (.int .i64 x)).run Tryz.prog w=.ok () w:=ck_succ e 9999 x w
section
variable {w:World} {mb:Nat} {es:Array MapEntry} {clock:Nat}
theorem map_put (x:Int)(v:Value)(h:w.heap[mb]?=some (.map es clock))(hf:Instr.findNow (.int .i64) (.int .i64 x) es.toList 0=some none) :
  (Instr.mapUpdate 326 (.map (some mb)) (.int .i64 x) v).run Tryz.prog w=.ok () (setO w mb (.map (es.push ⟨.int .i64 x,v,clock⟩) (clock+1))):=by
 have hu:Tryz.prog.underlying 326=_:=Tryz.underlying326;have hi:Tryz.prog.underlying 3=_:=Tryz.underlying3;have hg:(getObj mb).run Tryz.prog w=.ok (.map es clock) w:=by simp [getObj,Sem.run,h]
 have hs:∀ o,(setObj mb o).run Tryz.prog w=.ok () (setO w mb o):=fun o=>by simp [setObj,Sem.run,h,setO]
 unfold Instr.mapUpdate;simp only [Sem.run_bind,run_underlying hu,Result.andThen_ok,hg,ck_all,Instr.findKey,run_underlying hi,hf,Sem.run_pure,hs]
theorem map_get (x:Int)(v:Value)(i:Nat)(h:w.heap[mb]?=some (.map es clock))(hf:Instr.findNow (.int .i64) (.int .i64 x) es.toList 0=some (some (i,v))) :
  (Instr.lookup 326 (.map (some mb)) (.int .i64 x) false).run Tryz.prog w=.ok v w:=by
 have hu:Tryz.prog.underlying 326=_:=Tryz.underlying326;have hi:Tryz.prog.underlying 3=_:=Tryz.underlying3;have hg:(getObj mb).run Tryz.prog w=.ok (.map es clock) w:=by simp [getObj,Sem.run,h]
 unfold Instr.lookup;simp only [Sem.run_bind,run_underlying hu,Result.andThen_ok,hg,Sem.run_pure,ck_all,Instr.findKey,run_underlying hi,hf];rfl
end
section
variable {w w':World} {b p:Nat} {s:HM.Shape} {T H l:List (BitVec 64)} {tb tc hb hc:Nat}
set_option maxHeartbeats 4000000
theorem fits_calls (i:Nat)(c:Int)(w0:World)(h:PoolAt w0 b p s T H tb tc hb hc)(hi:i<T.length)(hT:Tabs w0) :
  Ret Tryz.prog 207 #[.agg #[.pointer (some ⟨b,0,none⟩),.int .i64 c],.int .i64 (i:Int)] w0 fun v w'=>v=.bool (decide (0≤WM.nextM (bF T H i) c))∧Below w0.heap.size w0 w':=by
 have bel0:=Below.refl w0.heap.size w0;refine ret_of (args:=[_,_]) _ Tryz.func207 rfl Tryz.ntmps207 (by simp) ?_;simp -implicitDefEqProofs [go_sem];generalize hw1:World.alloc w0 _=w1 at *;obtain ⟨hB1,b1,sz1,bel1⟩:=newF hw1 bel0;have h1:=h.next b1
 have hT1:=hT.next b1
 refine drawE_mix [.pure 0,.pure 2,.pure 4,.take 1,.take 5,.run 3 [5],.run 6 [],.pure 7,.pure 8] mixed (by decide +kernel) (by simp only [wo];rfl) ?_;have bd:Below w1.heap.size w1 w1.drew:=(Below.refl _ _).drew;have bel2:=bel1.drew;replace h1:=h1.next bd
 replace hT1:=hT1.next bd
 replace hB1:=hB1.next bd
 generalize World.drew w1=w2 at *;simp -implicitDefEqProofs [go_sem];refine onTake_of (fun w'=>Below w2.heap.size w2 w') (.pointer (some ⟨b,0,none⟩)) (Below.refl _ _) (fun w' hw=>by simp -implicitDefEqProofs [go_sem,(hB1.next hw).cell]) ?_;simp -implicitDefEqProofs [go_sem];refine onTake_of (fun w'=>Below w2.heap.size w2 w') (.int .i64 c) (Below.refl _ _) (fun w' hw=>by simp -implicitDefEqProofs [go_sem,(hB1.next hw).cell]) ?_;simp -implicitDefEqProofs [go_sem]
 refine callE_of (both_calls i w2 h1 hi) ?_;rintro v w3 ⟨rfl,b3⟩;refine ⟨.inr (by simp -implicitDefEqProofs [go_sem];exact b3),?_⟩;have eB:T.getD i 0#64 ||| H.getD i 0#64=bF T H i:=rfl
 rw [eB];simp -implicitDefEqProofs [go_sem];refine callE_of (slabNext_calls (bF T H i) c w3 (hT1.next b3)) ?_;rintro v w4 ⟨rfl,b4⟩;refine ⟨.inr (by simp -implicitDefEqProofs [go_sem]),?_⟩;simp -implicitDefEqProofs [go_sem];refine body_tmp 4 rfl ?_;simp -implicitDefEqProofs [go_sem];have bel3:=btr bel2 b3;exact btr bel3 b4
theorem map_made (w:World):(Instr.makeMap 326 none).run Tryz.prog w=.ok (.map (some w.heap.size)) (w.alloc (.map #[] 0)):=by
 simp [Instr.makeMap]
theorem map_facts {w w':World}(h:w.alloc (.map #[] 0)=w'):w'.heap[w.heap.size]?=some (.map #[] 0)∧Below w.heap.size w w'∧w'.heap.size=w.heap.size+1:=by
 subst h;refine ⟨by show (w.heap.push _)[w.heap.size]?=_;rw [Array.getElem?_push_size],(Below.refl _ _).alloc (Nat.le_refl _) _,by simp⟩
theorem heap_next {w w':World}{k:Nat}{x:Obj}(h:w.heap[k]?=some x)(hb:Below w.heap.size w w'):w'.heap[k]?=some x :=
 (hb.block k (Array.getElem?_eq_some_iff.1 h).1).trans h
theorem map_put2 {w:World}{mb:Nat}{es:Array MapEntry}{clock:Nat}(x:Int)(v:Value)(es':Array MapEntry)(h:w.heap[mb]?=some (.map es clock))(hf:Instr.findNow (.int .i64) (.int .i64 x) es.toList 0=some none)(he:es.push ⟨.int .i64 x,v,clock⟩=es') :
  ∃ w',(Instr.mapUpdate 326 (.map (some mb)) (.int .i64 x) v).run Tryz.prog w=.ok () w'∧w'.heap[mb]?=some (.map es' (clock+1))∧Mod (fun k=>k=mb) w w'∧w'.heap.size=w.heap.size:=by
 subst he;exact ⟨_,map_put x v h hf,setO_at (Array.getElem?_eq_some_iff.1 h).1,(Mod.refl (fun k=>k=mb) w).setO (.inl rfl) _,setO_size _ _ _⟩
structure Three (w:World) (N:Nat) (mb:Nat) (o:Nat→Nat) (a:Nat→Option Addr) (n c:Nat→Nat) (L:Nat→List Nat):Prop where
 map:∃ ck,w.heap[mb]?=some (.map #[⟨.int .i64 0,.pointer (some ⟨o 0,0,none⟩),0⟩,⟨.int .i64 1,.pointer (some ⟨o 1,0,none⟩),1⟩,⟨.int .i64 2,.pointer (some ⟨o 2,0,none⟩),2⟩] ck)
 ord:∀ k,k<3→OrdC w (o k) (a k) (n k) (c k) (L k)
 apart:∀ j k,j<3→k<3→j≠k→∀ x,OrdK (o j) (a j) (n j) (c j) x→¬ OrdK (o k) (a k) (n k) (c k) x
 ge:∀ k,k<3→∀ x,OrdK (o k) (a k) (n k) (c k) x→N≤x∧x≠mb
 mge:N≤mb
def updF {α:Type}(f:Nat→α)(k:Nat)(v:α):Nat→α:=fun j=>if j=k then v else f j
theorem updF_same {α:Type}(f:Nat→α)(k:Nat)(v:α):updF f k v k=v:=by simp [updF]
theorem updF_ne {α:Type}(f:Nat→α)(k:Nat)(v:α){j:Nat}(h:j≠k):updF f k v j=f j:=by simp [updF,h]
theorem Three.push {N mb k:Nat}{o:Nat→Nat}{a:Nat→Option Addr}{n c:Nat→Nat}{L:Nat→List Nat}{a1:Option Addr}{n1 c1:Nat}{L1:List Nat}(h:Three w N mb o a n c L)(hk:k<3)(hN:N≤w.heap.size)
  (h1:OrdC w' (o k) a1 n1 c1 L1) (ht:Turn w (OrdK (o k) (a k) (n k) (c k)) w' (OrdK (o k) a1 n1 c1)):Three w' N mb o (updF a k a1) (updF n k n1) (updF c k c1) (updF L k L1):=by
 have hmlt:mb<w.heap.size:=by obtain ⟨ck,hm⟩:=h.map;exact (Array.getElem?_eq_some_iff.1 hm).1
 have hold:∀ j,j<3→j≠k→∀ x,OrdK (o j) (a j) (n j) (c j) x→¬ OrdK (o k) a1 n1 c1 x:=fun j hj hjk x hx hx2=>by
  rcases ht.new x hx2 with h2|h2
  ·exact h.apart j k hj hk hjk x hx h2
  ·have:=(h.ord j hj).lt x hx;omega
 have hnew:∀ x,OrdK (o k) a1 n1 c1 x→N≤x∧x≠mb:=fun x hx=>by
  rcases ht.new x hx with h2|h2
  ·exact h.ge k hk x h2
  ·exact ⟨by omega,by omega⟩
 refine ⟨?_,fun j hj=>?_,fun i j hi hj hij x hx hx2=>?_,fun j hj x hx=>?_,h.mge⟩
 ·obtain ⟨ck,hm⟩:=h.map;exact ⟨ck,(ht.mod.block mb hmlt (fun hf=>(h.ge k hk mb hf).2 rfl)).trans hm⟩
 ·by_cases e:j=k
  ·subst e;simp only [updF_same];exact h1
  ·simp only [updF_ne _ _ _ e];exact (h.ord j hj).mod ht.mod (fun x hx=>h.apart j k hj hk e x hx)
 ·by_cases e1:i=k
  ·subst e1;simp only [updF_same] at hx;simp only [updF_ne _ _ _ (fun e=>hij e.symm)] at hx2;exact hold j hj (fun e=>hij e.symm) x hx2 hx
  ·simp only [updF_ne _ _ _ e1] at hx;by_cases e2:j=k
   ·subst e2;simp only [updF_same] at hx2;exact hold i hi e1 x hx hx2
   ·simp only [updF_ne _ _ _ e2] at hx2;exact h.apart i j hi hj hij x hx hx2
 ·by_cases e:j=k
  ·subst e;simp only [updF_same] at hx;exact hnew x hx
  ·simp only [updF_ne _ _ _ e] at hx;exact h.ge j hj x hx
theorem Three.next {N mb:Nat}{o:Nat→Nat}{a:Nat→Option Addr}{n c:Nat→Nat}{L:Nat→List Nat}(h:Three w N mb o a n c L)(hb:Below w.heap.size w w'):Three w' N mb o a n c L :=
 ⟨by obtain ⟨ck,hm⟩:=h.map;exact ⟨ck,heap_next hm hb⟩,fun k hk=>(h.ord k hk).next hb,h.apart,h.ge,h.mge⟩
theorem Three.get {N mb k:Nat}{o:Nat→Nat}{a:Nat→Option Addr}{n c:Nat→Nat}{L:Nat→List Nat}(h:Three w N mb o a n c L)(hk:k<3) :
  (Instr.lookup 326 (.map (some mb)) (.int .i64 (k:Int)) false).run Tryz.prog w=.ok (.pointer (some ⟨o k,0,none⟩)) w:=by
 obtain ⟨ck,hm⟩:=h.map
 rcases (show k=0∨k=1∨k=2 by omega) with rfl|rfl|rfl
 ·exact map_get _ _ 0 hm rfl
 ·exact map_get _ _ 1 hm rfl
 ·exact map_get _ _ 2 hm rfl
theorem class_three (x:BitVec 64):∃ k:Nat,WM.classM x=(k:Int)∧k<3:=by
 rw [WM.cR_class];refine ⟨WM.cR x,rfl,?_⟩;by_cases h:WM.rB x=true
 ·by_cases h0:WM.cR x=0
  ·omega
  ·have:=(WM.norm_of h h0).cls;omega
 ·have:WM.cR x=0:=by unfold WM.cR;rw [if_neg h]
  omega
def clsL (B:Nat→BitVec 64)(i k:Nat):List Nat:=(List.range i).filter fun j=>decide (WM.classM (B j)=(k:Int))
theorem clsL_succ (B:Nat→BitVec 64)(i:Nat){k:Nat}(hk:WM.classM (B i)=(k:Int)):clsL B (i+1)=updF (clsL B i) k (clsL B i k++[i]):=by
 funext j
 unfold clsL;rw [List.range_succ,List.filter_append];by_cases e:j=k
 ·subst e;simp [updF,hk]
 ·simp [updF,e,hk];omega
theorem clsL_lt {B:Nat→BitVec 64}{i k y:Nat}(h:y∈clsL B i k):y<i:=by
 unfold clsL at h;exact List.mem_range.1 (List.mem_filter.1 h).1
theorem clsL_len (B:Nat→BitVec 64)(i k:Nat):(clsL B i k).length≤i:=by
 unfold clsL;exact Nat.le_trans (List.length_filter_le _ _) (by simp)
theorem sorted_calls (w0:World)(h:PoolAt w0 b p s T H tb tc hb hc)(hn:T.length≤64) :
  Ret Tryz.prog 206 #[.pointer (some ⟨b,0,none⟩)] w0 fun v w'=>v=.map (some w0.heap.size)∧Below w0.heap.size w0 w'∧∃ o a n c,Three w' w0.heap.size w0.heap.size o a n c (clsL (bF T H) T.length):=by
 have bel0:=Below.refl w0.heap.size w0;refine ret_of (args:=[_]) _ Tryz.func206 rfl Tryz.ntmps206 (by simp) ?_;simp -implicitDefEqProofs [go_sem,map_made];generalize hw1:World.alloc w0 _=w1 at *;obtain ⟨hM1,b1,sz1⟩:=map_facts hw1;have bel1:=bel0.trans b1;generalize hw2:World.alloc w1 _=w2 at *;obtain ⟨hB2,b2,sz2,bel2⟩:=newF hw2 bel1;generalize hw3:World.alloc w2 _=w3 at *;obtain ⟨hB3,b3,sz3,bel3⟩:=newF hw3 bel2;replace hB2:=hB2.next b3
 have hM3:=heap_next (heap_next hM1 b2) b3;obtain ⟨w4,hp4,hM4,m4,sz4⟩:=map_put2 0 (.pointer (some ⟨w0.heap.size+1+1,0,none⟩)) #[⟨.int .i64 0,.pointer (some ⟨w0.heap.size+1+1,0,none⟩),0⟩] hM3 rfl rfl;have bel4:=(Mod.below (B:=w0.heap.size) m4 bel3.size (fun k hk=>by omega));replace bel4:=bel3.trans bel4;have sz4':w4.heap.size=w0.heap.size+3:=by omega
 replace hB2:=hB2.mod m4 (by omega);replace hB3:=hB3.mod m4 (by omega);simp -implicitDefEqProofs [go_sem,hp4,sz4'];generalize hw5:World.alloc w4 _=w5 at *;obtain ⟨hB5,b5,sz5,bel5⟩:=newF hw5 bel4;replace hB2:=hB2.next b5
 replace hB3:=hB3.next b5
 generalize hw6:World.alloc w5 _=w6 at *;obtain ⟨hB6,b6,sz6,bel6⟩:=newF hw6 bel5;replace hB2:=hB2.next b6
 replace hB3:=hB3.next b6
 replace hB5:=hB5.next b6
 have hM6:=heap_next (heap_next hM4 b5) b6;obtain ⟨w7,hp7,hM7,m7,sz7⟩:=map_put2 1 (.pointer (some ⟨w0.heap.size+3+1,0,none⟩)) #[⟨.int .i64 0,.pointer (some ⟨w0.heap.size+1+1,0,none⟩),0⟩,⟨.int .i64 1,.pointer (some ⟨w0.heap.size+3+1,0,none⟩),1⟩] hM6 rfl rfl;have bel7:=bel6.trans (Mod.below (B:=w0.heap.size) m7 bel6.size (fun k hk=>by omega));have sz7':w7.heap.size=w0.heap.size+5:=by omega
 replace hB2:=hB2.mod m7 (by omega);replace hB3:=hB3.mod m7 (by omega);replace hB5:=hB5.mod m7 (by omega);replace hB6:=hB6.mod m7 (by omega);simp -implicitDefEqProofs [go_sem,hp7,sz7'];generalize hw8:World.alloc w7 _=w8 at *;obtain ⟨hB8,b8,sz8,bel8⟩:=newF hw8 bel7;replace hB2:=hB2.next b8
 replace hB3:=hB3.next b8
 replace hB5:=hB5.next b8
 replace hB6:=hB6.next b8
 generalize hw9:World.alloc w8 _=w9 at *;obtain ⟨hB9,b9,sz9,bel9⟩:=newF hw9 bel8;replace hB2:=hB2.next b9
 replace hB3:=hB3.next b9
 replace hB5:=hB5.next b9
 replace hB6:=hB6.next b9
 replace hB8:=hB8.next b9
 have hM9:=heap_next (heap_next hM7 b8) b9;obtain ⟨w10,hp10,hM10,m10,sz10⟩:=map_put2 2 (.pointer (some ⟨w0.heap.size+5+1,0,none⟩)) #[⟨.int .i64 0,.pointer (some ⟨w0.heap.size+1+1,0,none⟩),0⟩,⟨.int .i64 1,.pointer (some ⟨w0.heap.size+3+1,0,none⟩),1⟩,⟨.int .i64 2,.pointer (some ⟨w0.heap.size+5+1,0,none⟩),2⟩] hM9 rfl rfl;have bel10:=bel9.trans (Mod.below (B:=w0.heap.size) m10 bel9.size (fun k hk=>by omega));replace hB2:=hB2.mod m10 (by omega);replace hB3:=hB3.mod m10 (by omega)
 replace hB5:=hB5.mod m10 (by omega);replace hB6:=hB6.mod m10 (by omega);replace hB8:=hB8.mod m10 (by omega);replace hB9:=hB9.mod m10 (by omega);have hown:∀ {g:Nat},Blk w10 g #[] 3→w10.ownsRow 0 3 1 (.slice (some ⟨g,0,none⟩) 0 0) 0 (nats []):=fun {g} hg=>⟨rfl,Or.inr ⟨g,0,#[],rfl,Nat.zero_le _,hg,Nat.le_refl _,by decide,rfl,rfl⟩⟩
 have h3:Three w10 w0.heap.size w0.heap.size (fun k=>w0.heap.size+2+2*k) (fun k=>some ⟨w0.heap.size+1+2*k,0,none⟩) (fun _=>0) (fun _=>0) (fun _=>[]):=by
  rw [show w1.heap.size=w0.heap.size+1 by omega] at hB2;rw [show w2.heap.size=w0.heap.size+1+1 by omega] at hB3;rw [show w4.heap.size=w0.heap.size+3 by omega] at hB5;rw [show w5.heap.size=w0.heap.size+3+1 by omega] at hB6;rw [show w7.heap.size=w0.heap.size+5 by omega] at hB8;rw [show w8.heap.size=w0.heap.size+5+1 by omega] at hB9;refine ⟨⟨_,hM10⟩,fun k hk=>?_,fun j k hj hk hjk x hx hx2=>?_,fun k hk x hx=>?_,Nat.le_refl _⟩
  ·rcases (show k=0∨k=1∨k=2 by omega) with rfl|rfl|rfl
   ·exact ⟨hB3,hown hB2,by simp [Value.ownBlock],rfl⟩
   ·exact ⟨hB6,hown hB5,by simp [Value.ownBlock],rfl⟩
   ·exact ⟨hB9,hown hB8,by simp [Value.ownBlock],rfl⟩
  ·unfold OrdK at hx hx2;simp [Value.ownBlock] at hx hx2;omega
  ·unfold OrdK at hx;simp [Value.ownBlock] at hx;omega
 have h10:=h.next bel10
 simp -implicitDefEqProofs [go_sem,hp10,h10.blk.cell];refine wpE_loop (fun e' w'=>∃ (i:Nat) (a:Nat→Option Addr) (n c:Nat→Nat),i≤T.length∧e' 0=.pointer (some ⟨b,0,none⟩)∧e' 3=.map (some w0.heap.size)∧e' 17=.int .i64 T.length∧e' 18=.int .i64 i ∧
  Three w' w0.heap.size w0.heap.size (fun k=>w0.heap.size+2+2*k) a n c (clsL (bF T H) i)∧Below w0.heap.size w0 w') (fun e' _=>T.length-(intOf (e' 18)).toNat) ?_ ?_
 ·refine ⟨0,_,_,_,by omega,?_,?_,?_,?_,h3,bel10⟩<;>simp -implicitDefEqProofs [go_sem]
 ·rintro e' w11 ⟨i,a,n,c,hi,g0,g3,g17,g18,h3,bel11⟩;by_cases hlt:i<T.length
  ·have hlt':(i:Int)<T.length:=by omega
   have kw:=IntWalk.i64_in ((i:Int)+1) (by omega);have hp:=h.next bel11
   simp -implicitDefEqProofs [go_sem,g0,g3,g17,g18,hlt,hlt'];refine callE_of (both_calls i w11 hp hlt) ?_;rintro v w12 ⟨rfl,b12⟩;have eB:T.getD i 0#64 ||| H.getD i 0#64=bF T H i:=rfl
   rw [eB];simp -implicitDefEqProofs [go_sem];refine callE_of (class_calls (bF T H i) w12) ?_;rintro v w13 ⟨rfl,b13⟩;obtain ⟨k,hk,hk3⟩:=class_three (bF T H i);have h313:=(h3.next b12).next b13
   have bel13:=(btr bel11 b12).trans (b13.mono (btr bel11 b12).size);rw [hk];have hord:=h313.ord k hk3;have hlen:=hord.len;have hcl:=clsL_len (bF T H) i k;have hpush:=heapPush_calls i hord (by omega) (fun y hy=>Nat.le_of_lt (clsL_lt hy));simp -implicitDefEqProofs [go_sem,h313.get hk3,g3,g18];refine callE_of hpush ?_;rintro v w14 ⟨rfl,a1,c1,h14,t14⟩;have h314:=h313.push hk3 bel13.size h14 t14;have hL:=clsL_succ (bF T H) i hk;have hng:updF n k (n k+1)=updF n k (n k+1):=rfl;rw [← hL] at h314
   have bel14:=bel13.trans (Mod.below (B:=w0.heap.size) t14.mod bel13.size (fun x hx=>(h313.ge k hk3 x hx).1));simp -implicitDefEqProofs [go_sem,g0,g3,g17,g18,kw];refine goE_round ⟨i+1,_,_,_,by omega,?_,?_,?_,?_,h314,bel14⟩ ?_
   ·simp -implicitDefEqProofs [go_sem,g0]
   ·simp -implicitDefEqProofs [go_sem,g3]
   ·simp -implicitDefEqProofs [go_sem,g17]
   ·simp -implicitDefEqProofs [go_sem]
   ·simp -implicitDefEqProofs [go_sem,intOf,g18];omega
  ·have hlt':¬ (i:Int)<T.length:=by omega
   have hi':i=T.length:=by omega
   rw [hi'] at h3;simp -implicitDefEqProofs [go_sem,g0,g3,g17,g18,hlt'];refine body_tmp 2 rfl ?_;simp -implicitDefEqProofs [go_sem];exact ⟨bel11,_,_,_,_,h3⟩
end
end
section
open Go Go.RowKit
theorem pop_head {l l' S:List Nat}{x:Nat}(hs:(x::S).Pairwise (· < ·))(hp:l.Perm (x::S))(h1:(l.getD 0 0::l').Perm l)(hmin:∀ y∈l,l.getD 0 0≤y):l.getD 0 0=x∧l'.Perm S:=by
 have hx:x∈l:=hp.mem_iff.2 List.mem_cons_self;have h0:l.getD 0 0∈x::S:=hp.mem_iff.1 (h1.mem_iff.1 List.mem_cons_self);have hle:x≤l.getD 0 0:=by
  rcases List.mem_cons.1 h0 with h|h
  ·exact Nat.le_of_eq h.symm
  ·exact Nat.le_of_lt ((List.pairwise_cons.1 hs).1 _ h)
 have e:l.getD 0 0=x:=Nat.le_antisymm (hmin x hx) hle;refine ⟨e,?_⟩;rw [e] at h1;exact (h1.trans hp).cons_inv
def fnd (B:Nat→BitVec 64)(cls:Int)(S:List Nat):Option Nat:=S.find? fun i=>decide (0≤WM.nextM (B i) cls)
def firstV:Option Nat→Value
 | some i=>.tuple #[.int .i64 (i:Int),.bool true]
 | none=>.tuple #[.int .i64 0,.bool false]
theorem fnd_nil (B:Nat→BitVec 64)(cls:Int):fnd B cls []=none:=rfl
theorem fnd_yes {B:Nat→BitVec 64}{cls:Int}{x:Nat}{S:List Nat}(h:0≤WM.nextM (B x) cls):fnd B cls (x::S)=some x:=by unfold fnd;rw [List.find?_cons_of_pos (by simpa using h)]
theorem fnd_no {B:Nat→BitVec 64}{cls:Int}{x:Nat}{S:List Nat}(h:¬ 0≤WM.nextM (B x) cls):fnd B cls (x::S)=fnd B cls S:=by unfold fnd;rw [List.find?_cons_of_neg (by simpa using h)]
def lenAt (w:World)(o:Nat):Nat:=match w.cell? ⟨o,0,none⟩ with|some (.slice _ m _)=>m|_=>0
theorem OrdC.lenAt {w:World}{o n c:Nat}{a:Option Addr}{l:List Nat}(h:OrdC w o a n c l):lenAt w o=n:=by unfold Go.Proofs.YtaaihijkdhmcdaaGreatDoor.lenAt;rw [h.blk.cell 0];rfl
section
variable {b p:Nat} {s:HM.Shape} {T H:List (BitVec 64)} {tb tc hb hc:Nat}
set_option maxHeartbeats 4000000
theorem first_calls (w0 w:World)(o:Nat)(a:Option Addr)(n c:Nat)(l S:List Nat)(cls:Int)(fv:Value)(h:PoolAt w0 b p s T H tb tc hb hc)(hT:Tabs w0)(hbel:Below w0.heap.size w0 w)
  (ho:OrdC w o a n c l) (hn:n≤64) (hge:∀ k,OrdK o a n c k→w0.heap.size≤k) (hh:HP.Heap l n) (hp:l.Perm S) (hs:S.Pairwise (· < ·)) (hS:∀ i∈S,i<T.length)
  (hfv:fv=.func (.func 207) #[.agg #[.pointer (some ⟨b,0,none⟩),.int .i64 cls]] #[]) :
  Ret Tryz.prog 208 #[.pointer (some ⟨o,0,none⟩),fv] w fun v w' =>
   v=firstV (fnd (bF T H) cls S)∧Mod (OrdK o a n c) w w':=by
 refine ret_of (args:=[_,_]) _ Tryz.func208 rfl Tryz.ntmps208 (by simp) ?_;simp -implicitDefEqProofs [go_sem];refine wpE_loop (fun e' w'=>∃ (m:Nat) (l' S':List Nat),e' 0=.pointer (some ⟨o,0,none⟩)∧e' 1=fv∧OrdC w' o a m c l'∧m≤n∧HP.Heap l' m∧l'.Perm S'∧S'.Pairwise (· < ·)∧(∀ i∈S',i<T.length) ∧
  fnd (bF T H) cls S=fnd (bF T H) cls S'∧Mod (OrdK o a n c) w w') (fun _ w'=>lenAt w' o) ?_ ?_
 ·refine ⟨n,l,S,?_,?_,ho,Nat.le_refl _,hh,hp,hs,hS,rfl,Mod.refl _ _⟩<;>simp -implicitDefEqProofs [go_sem]
 ·rintro e' w1 ⟨m,l1,S1,g0,g1,h1,hmn,hh1,hp1,hs1,hS1,hf1,hM1⟩;have hK:∀ m',OrdK o a m' c=OrdK o a n c:=fun m'=>by
   funext k;unfold OrdK;cases a<;>rfl
  have bel1:Below w0.heap.size w0 w1:=hbel.trans (Mod.below hM1 hbel.size hge);have hl1:=h1.len;have hmu:=h1.lenAt;simp -implicitDefEqProofs [go_sem,g0,g1,h1.blk.cell];refine callE_of (oLen_calls a m c w1) ?_;rintro v w2 ⟨rfl,rfl⟩;by_cases h0:m=0
  ·subst h0;have hS0:S1=[]:=by
    have:=hp1.length_eq;exact List.eq_nil_of_length_eq_zero (by omega)
   simp -implicitDefEqProofs [go_sem,g0,g1];refine body_tmp2 4 5 rfl ?_;simp -implicitDefEqProofs [go_sem];exact ⟨by rw [hf1,hS0,fnd_nil];rfl,hM1⟩
  ·obtain ⟨m2,rfl⟩:∃ m2,m=m2+1:=⟨m-1,by omega⟩;have hpos:(0:Int)<(m2:Int)+1:=by omega
   simp -implicitDefEqProofs [go_sem,g0,g1,hpos];refine callE_of (heapPop_calls m2 h1 (by omega) hh1) ?_;rintro v w3 ⟨rfl,l3,h3,hh3,hp3,hmin3,m3⟩;obtain ⟨x,S2,rfl⟩:∃ x S2,S1=x::S2:=by
    cases S1 with
    | nil=>have h5:=hp1.length_eq;rw [List.length_nil] at h5;omega
    | cons x S2=>exact ⟨x,S2,rfl⟩
   obtain ⟨ex,hp4⟩:=pop_head hs1 hp1 hp3 hmin3;rw [ex];have hM3:=hM1.trans m3 (fun k hk _=>by rw [hK] at hk;exact hk);have bel3:Below w0.heap.size w0 w3:=hbel.trans (Mod.below hM3 hbel.size hge);have hxT:=hS1 x List.mem_cons_self;have hfit:=fits_calls x cls w3 (h.next bel3) hxT (hT.next bel3);subst hfv;simp -implicitDefEqProofs [go_sem,g0,g1,run_tAssert];refine callE_of hfit ?_;rintro v w4 ⟨rfl,b4⟩;have h4:=h3.next b4
   have hM4:=hM3.trans (Mod.of (F:=OrdK o a n c) b4) (fun k hk _=>hk);by_cases hfx:0≤WM.nextM (bF T H x) cls
   ·rw [decide_eq_true hfx];simp -implicitDefEqProofs [go_sem,g0,g1];refine body_tmp2 4 5 rfl ?_;simp -implicitDefEqProofs [go_sem];exact ⟨by rw [hf1,fnd_yes hfx];rfl,hM4⟩
   ·rw [decide_eq_false hfx];simp -implicitDefEqProofs [go_sem,g0,g1];refine goE_round ⟨m2,l3,S2,?_,?_,h4,by omega,hh3,hp4,(List.pairwise_cons.1 hs1).2,fun i hi=>hS1 i (List.mem_cons_of_mem _ hi),by rw [hf1,fnd_no hfx],hM4⟩ ?_
    ·simp -implicitDefEqProofs [go_sem,g0]
    ·simp -implicitDefEqProofs [go_sem,g1]
    ·show lenAt w4 o<lenAt _ o;rw [h4.lenAt,hmu];omega
end
end
section
open Go Go.RowKit
theorem sorted_heap {l:List Nat}(h:l.Pairwise (· < ·)):HP.Heap l l.length:=fun i hi hin=>by
 have h2:(i-1)/2<l.length:=by omega
 have e1:l.getD ((i-1)/2) 0=l[(i-1)/2]:=by simp [List.getD,h2]
 have e2:l.getD i 0=l[i]:=by simp [List.getD,hin]
 rw [e1,e2];exact Nat.le_of_lt (List.pairwise_iff_getElem.1 h _ _ h2 hin (by omega))
theorem clsL_sorted (B:Nat→BitVec 64)(n k:Nat):(clsL B n k).Pairwise (· < ·):=List.Pairwise.filter _ List.pairwise_lt_range
def pickP (B:Nat→BitVec 64)(n c:Nat):Option Nat :=
 match fnd B c (clsL B n c) with
 | some i=>some i
 | none=>fnd B c (clsL B n 0)
theorem pickP_some {B:Nat→BitVec 64}{n c i:Nat}(h:fnd B c (clsL B n c)=some i):pickP B n c=some i:=by unfold pickP;rw [h]
theorem pickP_none {B:Nat→BitVec 64}{n c:Nat}(h:fnd B c (clsL B n c)=none):pickP B n c=fnd B c (clsL B n 0):=by unfold pickP;rw [h]
theorem fnd_mem {B:Nat→BitVec 64}{cls:Int}{S:List Nat}{i:Nat}(h:fnd B cls S=some i):i∈S∧0≤WM.nextM (B i) cls:=⟨List.mem_of_find?_eq_some h,by simpa using List.find?_some h⟩
theorem pickP_of {B:Nat→BitVec 64}{n c i:Nat}(h:pickP B n c=some i):i<n∧0≤WM.nextM (B i) c:=by
 cases e:fnd B c (clsL B n c) with
 | some j =>
  rw [pickP_some e] at h;cases h;exact ⟨clsL_lt (fnd_mem e).1,(fnd_mem e).2⟩
 | none =>
  rw [pickP_none e] at h;exact ⟨clsL_lt (fnd_mem h).1,(fnd_mem h).2⟩
theorem Three.getM {w w':World}{N mb j k:Nat}{o:Nat→Nat}{a:Nat→Option Addr}{n c:Nat→Nat}{L:Nat→List Nat}(h:Three w N mb o a n c L)(hj:j<3)(hk:k<3)
  (hm:Mod (OrdK (o j) (a j) (n j) (c j)) w w'):(Instr.lookup 326 (.map (some mb)) (.int .i64 (k:Int)) false).run Tryz.prog w'=.ok (.pointer (some ⟨o k,0,none⟩)) w':=by
 obtain ⟨ck,hp⟩:=h.map;have hlt:mb<w.heap.size:=(Array.getElem?_eq_some_iff.1 hp).1;have hp':=(hm.block mb hlt (fun hf=>(h.ge j hj mb hf).2 rfl)).trans hp
 rcases (show k=0∨k=1∨k=2 by omega) with rfl|rfl|rfl
 ·exact map_get _ _ 0 hp' rfl
 ·exact map_get _ _ 1 hp' rfl
 ·exact map_get _ _ 2 hp' rfl
section
variable {b p:Nat} {s:HM.Shape} {T H:List (BitVec 64)} {tb tc hb hc:Nat}
theorem RowW.thaw {w:World}{g:Nat}{l:List (BitVec 64)}(h:RowW w g l)(i:Nat):w.frozen? ⟨g,i,none⟩=false:=by obtain ⟨C,hB,hC⟩:=h;exact hB.thaw i
theorem RowW.set {w:World}{g i:Nat}{l:List (BitVec 64)}(h:RowW w g l)(x:BitVec 64):RowW (w.setCell ⟨g,i,none⟩ (.int .u64 (uv x))) g (l.set i x):=by
 obtain ⟨C,hB,hC⟩:=h;refine ⟨_,hB.set i _,fun j hj=>?_⟩;rw [List.length_set] at hj;have hj2:=hC j hj;by_cases e:i=j
 ·subst e;have:i<C.size:=(Array.getElem?_eq_some_iff.1 hj2).1;simp [this,hj]
 ·rw [Array.getElem?_setIfInBounds_ne e,hj2]
  congr 3
  simp [List.getD,e]
theorem PoolAt.setH {w:World}{i:Nat}(h:PoolAt w b p s T H tb tc hb hc)(x:BitVec 64):PoolAt (w.setCell ⟨hb,i,none⟩ (.int .u64 (uv x))) b p s T (H.set i x) tb tc hb hc:=by
 have hm:=(Mod.refl (fun k=>k=hb) w).setCell (a:=⟨hb,i,none⟩) (.inl rfl) (.int .u64 (uv x));exact ⟨h.blk.mod hm h.ne2,h.tk.mod hm h.ne3,h.hd.set x,by rw [List.length_set];exact h.len,h.ne1,h.ne2,h.ne3⟩
theorem PoolAt.setT {w:World}{i:Nat}(h:PoolAt w b p s T H tb tc hb hc)(x:BitVec 64):PoolAt (w.setCell ⟨tb,i,none⟩ (.int .u64 (uv x))) b p s (T.set i x) H tb tc hb hc:=by
 have hm:=(Mod.refl (fun k=>k=tb) w).setCell (a:=⟨tb,i,none⟩) (.inl rfl) (.int .u64 (uv x));exact ⟨by rw [List.length_set];exact h.blk.mod hm h.ne1,h.tk.set x,h.hd.mod hm (Ne.symm h.ne3),by rw [List.length_set];exact h.len,h.ne1,h.ne2,h.ne3⟩
set_option maxHeartbeats 8000000
def ResP (w0:World)(b p:Nat)(s:HM.Shape)(T H:List (BitVec 64))(tb tc hb hc:Nat)(c:Int)(v:Value)(w':World):Prop :=
 (WM.blocksI c=0∧v=.tuple #[.int .i64 0,.int .i64 2]∧Below w0.heap.size w0 w') ∨
 (∃ cn:Nat,c=cn∧(cn=1∨cn=2)∧((pickP (bF T H) T.length cn=none∧v=.tuple #[.int .i64 0,.int .i64 6]∧Below w0.heap.size w0 w') ∨
  (∃ i q:Nat,pickP (bF T H) T.length cn=some i∧WM.nextM (bF T H i) cn=q∧v=.tuple #[.int .i64 (placeI s i cn q),.int .i64 0]∧PoolAt w' b p s T (H.set i (WM.takeW (H.getD i 0#64) cn q)) tb tc hb hc∧Mod (fun k=>k=hb) w0 w')))
theorem reserve_calls (w0:World)(c:Int)(h:PoolAt w0 b p s T H tb tc hb hc)(hT:Tabs w0)(hn:T.length≤64)(hs:0≤s.data∧s.data≤1000000) :
  Ret Tryz.prog 193 #[.pointer (some ⟨b,0,none⟩),.int .i64 c] w0 fun v w'=>ResP w0 b p s T H tb tc hb hc c v w':=by
 have bel0:=Below.refl w0.heap.size w0;refine ret_of (args:=[_,_]) _ Tryz.func193 rfl Tryz.ntmps193 (by simp) ?_;simp -implicitDefEqProofs [go_sem];refine callE_of (none_calls w0 h) ?_;rintro v w1 ⟨rfl,rfl⟩;simp -implicitDefEqProofs [go_sem];refine callE_of (blocks_calls c w1) ?_;rintro v w2 ⟨rfl,rfl⟩;by_cases hz:WM.blocksI c=0
 ·simp -implicitDefEqProofs [go_sem,hz];refine body_tmp2 4 5 rfl ?_;simp -implicitDefEqProofs [go_sem];exact .inl ⟨hz,rfl,bel0⟩
 ·have hz':(WM.blocksI c==0)=false:=by rw [beq_eq_false_iff_ne];exact hz
  obtain ⟨cn,rfl,hcn⟩:∃ cn:Nat,c=cn∧(cn=1∨cn=2):=by
   unfold WM.blocksI at hz;by_cases e1:c=1
   ·exact ⟨1,e1,.inl rfl⟩
   ·by_cases e2:c=2
    ·exact ⟨2,e2,.inr rfl⟩
    ·rw [if_neg e1,if_neg e2] at hz;exact absurd rfl hz
  have hcn3:cn<3:=by omega
  simp -implicitDefEqProofs [go_sem,hz,hz'];refine callE_of (sorted_calls w2 h hn) ?_;rintro v w3 ⟨rfl,b3,o,a,n,cc,h3⟩;have o1:=h3.ord cn hcn3;have ho0:=h3.ord 0 (by omega);have n1:n cn≤64:=by have:=o1.len;have:=clsL_len (bF T H) T.length cn;omega
  have n0:n 0≤64:=by have:=ho0.len;have:=clsL_len (bF T H) T.length 0;omega
  have f1:=fun fv=>first_calls w2 w3 (o cn) (a cn) (n cn) (cc cn) _ _ cn fv h hT b3 o1 n1 (fun k hk=>(h3.ge cn hcn3 k hk).1) (by have:=sorted_heap (clsL_sorted (bF T H) T.length cn);rw [o1.len] at this;exact this) (List.Perm.refl _) (clsL_sorted _ _ _) (fun i hi=>clsL_lt hi)
  simp -implicitDefEqProofs [go_sem,h3.get hcn3];refine callE_of (f1 _ rfl) ?_;rintro v w4 ⟨rfl,m4⟩;have bel4:Below w2.heap.size w2 w4:=b3.trans (Mod.below m4 b3.size (fun k hk=>(h3.ge cn hcn3 k hk).1));cases e1:fnd (bF T H) cn (clsL (bF T H) T.length cn) with
  | some i =>
   simp -implicitDefEqProofs [go_sem,firstV];have hpick:pickP (bF T H) T.length cn=some i:=pickP_some e1;have hP:=h.next bel4
   have belz:=bel4;obtain ⟨wz,ewz⟩:∃ w,w=w4:=⟨_,rfl⟩;rw [← ewz] at hP belz ⊢;obtain ⟨hi,hge⟩:=pickP_of hpick;refine callE_of (both_calls i wz hP hi) ?_;rintro v w6 ⟨rfl,b6⟩;rw [show T.getD i 0#64 ||| H.getD i 0#64=bF T H i from rfl];have bel6:=btr belz b6;simp -implicitDefEqProofs [go_sem];refine callE_of (slabNext_calls (bF T H i) cn w6 (hT.next bel6)) ?_;rintro v w7 ⟨rfl,b7⟩;have bel7:=btr bel6 b7;obtain ⟨q,hq⟩:=Int.eq_ofNat_of_zero_le hge;rw [hq];have hP7:=h.next bel7
   simp -implicitDefEqProofs [go_sem];refine drawE_mix [.pure 0,.pure 1,.pure 2,.pure 4,.pure 5,.pure 6,.pure 7,.pure 9,.pure 12,.pure 13,.take 3,.run 8 [3],.pure 10,.run 11 [3],.run 14 [3],.pure 15,.pure 16,.pure 17,.pure 18,.run 19 []] mixed (by decide +kernel) (by simp only [wo];rfl) ?_;have hP8:=hP7.next (Below.refl _ _).drew
   have bel8:=bel7.drew;generalize World.drew w7=w8 at *;have hi':(i:Int)<T.length:=by omega
   have gx:=hP8.hd.cell (i:=i) (by rw [hP8.len];exact hi);simp -implicitDefEqProofs [go_sem,hP8.blk.cell];refine onTake_of (fun w'=>Below w8.heap.size w8 w') (.slice (some ⟨hb,0,none⟩) T.length hc) (Below.refl _ _) (fun w' hw=>by simp -implicitDefEqProofs [go_sem,(hP8.blk.next hw).cell]) ?_;have hq6:q≤1000:=by
    rw [WM.next_ref] at hq;rw [WM.blocksI_nat,Int.toNat_natCast] at hq;split at hq
    ·rcases WM.firstOff_cases (bF T H i) (WM.bl cn) 0 with ⟨h1,h2⟩|⟨s,h1,h2,h3,h4,h5⟩
     ·omega
     ·have:=WM.bl_le cn;omega
    ·omega
   obtain ⟨x,ex⟩:∃ x,x=H.getD i 0#64:=⟨_,rfl⟩;rw [← ex] at gx;simp -implicitDefEqProofs [go_sem,hP8.blk.cell,hi,hi',gx];refine callE_of (take_calls x cn q w8) ?_;rintro v w9 ⟨rfl,b9⟩;refine ⟨.inr ?_,?_⟩
   ·simp -implicitDefEqProofs [go_sem];exact b9
   have hP9:=hP8.next b9
   have bel9:=btr bel8 b9;obtain ⟨tw,etw⟩:∃ tw,tw=WM.takeW x cn q:=⟨_,rfl⟩;rw [ex] at etw;rw [ex,← etw];generalize WM.takeOk x cn q=tk at *;have gx9:=hP9.hd.cell (i:=i) (by rw [hP9.len];exact hi);simp -implicitDefEqProofs [go_sem,hP9.blk.cell,hi,hi',gx9,hP9.hd.thaw];have hP10:=hP9.setH (i:=i) tw;have hM10:=(Mod.of (F:=fun k=>k=hb) bel9).setCell (a:=⟨hb,i,none⟩) (.inl rfl) (.int .u64 (uv tw));generalize World.setCell w9 _ _=w10 at *;have hi6:i≤1000:=by omega
   refine callE_of (place_calls i cn q w10 hP10 hs hi6 hq6) ?_;rintro v w11 ⟨rfl,b11⟩;simp -implicitDefEqProofs [go_sem];refine body_tmp2 4 5 rfl ?_;simp -implicitDefEqProofs [go_sem];exact .inr ⟨cn,rfl,hcn,.inr ⟨i,q,hpick,hq,rfl,etw▸hP10.next b11,hM10.trans (Mod.of (F:=fun k=>k=hb) b11) (fun k hk _=>hk)⟩⟩
  | none =>
   have ho4:=ho0.mod m4 (fun k hk=>h3.apart 0 cn (by omega) hcn3 (by omega) k hk);have f2:=fun fv=>first_calls w2 w4 (o 0) (a 0) (n 0) (cc 0) _ _ cn fv h hT bel4 ho4 n0 (fun k hk=>(h3.ge 0 (by omega) k hk).1) (by have:=sorted_heap (clsL_sorted (bF T H) T.length 0);rw [ho4.len] at this;exact this) (List.Perm.refl _) (clsL_sorted _ _ _) (fun i hi=>clsL_lt hi)
   have gl:=h3.getM hcn3 (by omega:0<3) m4;rw [Int.ofNat_zero] at gl;simp -implicitDefEqProofs [go_sem,firstV,gl];refine callE_of (f2 _ rfl) ?_;rintro v w5 ⟨rfl,m5⟩;have bel5:Below w2.heap.size w2 w5:=bel4.trans (Mod.below m5 bel4.size (fun k hk=>(h3.ge 0 (by omega) k hk).1));cases e2:fnd (bF T H) cn (clsL (bF T H) T.length 0) with
   | none =>
    simp -implicitDefEqProofs [go_sem,firstV];refine body_tmp2 4 5 rfl ?_;simp -implicitDefEqProofs [go_sem];exact .inr ⟨cn,rfl,hcn,.inl ⟨by rw [pickP_none e1,e2],rfl,bel5⟩⟩
   | some i =>
    simp -implicitDefEqProofs [go_sem,firstV];have hpick:pickP (bF T H) T.length cn=some i:=by rw [pickP_none e1];exact e2
    have hP:=h.next bel5
    have belz:=bel5;obtain ⟨wz,ewz⟩:∃ w,w=w5:=⟨_,rfl⟩;rw [← ewz] at hP belz ⊢;obtain ⟨hi,hge⟩:=pickP_of hpick;refine callE_of (both_calls i wz hP hi) ?_;rintro v w6 ⟨rfl,b6⟩;rw [show T.getD i 0#64 ||| H.getD i 0#64=bF T H i from rfl];have bel6:=btr belz b6;simp -implicitDefEqProofs [go_sem];refine callE_of (slabNext_calls (bF T H i) cn w6 (hT.next bel6)) ?_;rintro v w7 ⟨rfl,b7⟩;have bel7:=btr bel6 b7;obtain ⟨q,hq⟩:=Int.eq_ofNat_of_zero_le hge;rw [hq];have hP7:=h.next bel7
    simp -implicitDefEqProofs [go_sem];refine drawE_mix [.pure 0,.pure 1,.pure 2,.pure 4,.pure 5,.pure 6,.pure 7,.pure 9,.pure 12,.pure 13,.take 3,.run 8 [3],.pure 10,.run 11 [3],.run 14 [3],.pure 15,.pure 16,.pure 17,.pure 18,.run 19 []] mixed (by decide +kernel) (by simp only [wo];rfl) ?_;have hP8:=hP7.next (Below.refl _ _).drew
    have bel8:=bel7.drew;generalize World.drew w7=w8 at *;have hi':(i:Int)<T.length:=by omega
    have gx:=hP8.hd.cell (i:=i) (by rw [hP8.len];exact hi);simp -implicitDefEqProofs [go_sem,hP8.blk.cell];refine onTake_of (fun w'=>Below w8.heap.size w8 w') (.slice (some ⟨hb,0,none⟩) T.length hc) (Below.refl _ _) (fun w' hw=>by simp -implicitDefEqProofs [go_sem,(hP8.blk.next hw).cell]) ?_;have hq6:q≤1000:=by
     rw [WM.next_ref] at hq;rw [WM.blocksI_nat,Int.toNat_natCast] at hq;split at hq
     ·rcases WM.firstOff_cases (bF T H i) (WM.bl cn) 0 with ⟨h1,h2⟩|⟨s,h1,h2,h3,h4,h5⟩
      ·omega
      ·have:=WM.bl_le cn;omega
     ·omega
    obtain ⟨x,ex⟩:∃ x,x=H.getD i 0#64:=⟨_,rfl⟩;rw [← ex] at gx;simp -implicitDefEqProofs [go_sem,hP8.blk.cell,hi,hi',gx];refine callE_of (take_calls x cn q w8) ?_;rintro v w9 ⟨rfl,b9⟩;refine ⟨.inr ?_,?_⟩
    ·simp -implicitDefEqProofs [go_sem];exact b9
    have hP9:=hP8.next b9
    have bel9:=btr bel8 b9;obtain ⟨tw,etw⟩:∃ tw,tw=WM.takeW x cn q:=⟨_,rfl⟩;rw [ex] at etw;rw [ex,← etw];generalize WM.takeOk x cn q=tk at *;have gx9:=hP9.hd.cell (i:=i) (by rw [hP9.len];exact hi);simp -implicitDefEqProofs [go_sem,hP9.blk.cell,hi,hi',gx9,hP9.hd.thaw];have hP10:=hP9.setH (i:=i) tw;have hM10:=(Mod.of (F:=fun k=>k=hb) bel9).setCell (a:=⟨hb,i,none⟩) (.inl rfl) (.int .u64 (uv tw));generalize World.setCell w9 _ _=w10 at *;have hi6:i≤1000:=by omega
    refine callE_of (place_calls i cn q w10 hP10 hs hi6 hq6) ?_;rintro v w11 ⟨rfl,b11⟩;simp -implicitDefEqProofs [go_sem];refine body_tmp2 4 5 rfl ?_;simp -implicitDefEqProofs [go_sem];exact .inr ⟨cn,rfl,hcn,.inr ⟨i,q,hpick,hq,rfl,etw▸hP10.next b11,hM10.trans (Mod.of (F:=fun k=>k=hb) b11) (fun k hk _=>hk)⟩⟩
end
end
end Go.Proofs.YtaaihijkdhmcdaaGreatDoor
