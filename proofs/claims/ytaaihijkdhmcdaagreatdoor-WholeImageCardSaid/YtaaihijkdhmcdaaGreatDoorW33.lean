/- WholeImage, part 34 of 38: contracts and lemmas of its proof. Conditions: none. -/
import Derived.Test.YtaaihijkdhmcdaaGreatDoorW32
import Derived.Test.YtaaihijkdhmcdaaGreatDoorW31
set_option linter.unusedVariables false
set_option linter.unusedSimpArgs false
set_option maxRecDepth 100000
namespace Go.Proofs.YtaaihijkdhmcdaaGreatDoor
section
open Go Go.RowKit Go.Shelf
open TR
attribute [local go_sem] Oper.semAt_some
def Hs (I0:List TR.Item)(ch0:ChF):List PastV→List TR.Item→ChF→Prop
 | [],I,ch=>I=I0∧ch=ch0
 | p::H,I,ch=>(p.place=0#64∧Hs I0 ch0 H I ch)∨∃ I1 ch1 off r,Stp I1 I ch1 ch p off r∧Hs I0 ch0 H I1 ch1
section
variable {w w':World} {m b p x j t:Nat} {V V':PV} {G G' F:Nat→Prop} {o:Option Tr} {st:BitVec 64} {sv dv:Value} {ov:Bool} {en:Int}
theorem sys_cells (h:Sys w m V b p G):∀ k,G k→∃ C t f,w.heap[k]?=some (.cells C t f):=fun k hk=>by
 obtain ⟨tb,tc,hb,hc,F,hP,rfl⟩:=h.pd
 rcases hk with hk|rfl|rfl|rfl
 ·obtain ⟨lb,S,hD,rfl,_⟩:=hP.dev
  rcases hk with rfl|rfl|⟨i,hi,hk⟩
  ·exact ⟨_,_,_,hD.dev⟩
  ·obtain ⟨C,hC⟩:=hD.lines;exact ⟨_,_,_,hC.blk⟩
  ·rcases (hD.own i hi).2 with ⟨h,_⟩|⟨g,cap,cur,hv,_,hh,_⟩
   ·rw [h] at hk;cases hk
   ·rw [hv] at hk;cases hk;exact ⟨_,_,_,hh⟩
 ·exact ⟨_,_,_,hP.pool.blk⟩
 ·obtain ⟨C,hC,_⟩:=hP.pool.tk;exact ⟨_,_,_,hC⟩
 ·obtain ⟨C,hC,_⟩:=hP.pool.hd;exact ⟨_,_,_,hC⟩
theorem sys_kept {X Y:World}{row:Option Nat}(h:Sys X m V b p G)(hg:X.grownBy Y row)(hr:∀ r,row=some r→∃ o:Obj,X.heap[r]?=some o∧o.isCells=false):Sys Y m V b p G:=by
 refine ⟨h.pd.mod (mod_of_grown hg) (fun k hk e=>?_),fun i hi=>cell_kept (h.tabs i hi) hg hr,h.out⟩;obtain ⟨o,ho,hc⟩:=hr k e;obtain ⟨C,t,f,hC⟩:=sys_cells h k hk;rw [hC] at ho;cases ho;cases hc
theorem sys_keeps {B:Nat}(h:Sys w m V b p G)(ht:Turn w G w' G'):KeepsFrom B w w':=⟨ht.size,fun k o _ hk ho=>by
 refine (ht.mod.block k (Array.getElem?_eq_some_iff.1 hk).1 fun hG=>?_).trans hk;obtain ⟨C,t,f,hC⟩:=sys_cells h k hG;rw [hC] at hk;cases hk;cases ho⟩
structure FailI (m b p t:Nat) (V0:PV) (I0:List TR.Item) (ch0:ChF) (w0:World) (G0:Nat→Prop) (H:List PastV) (i:Nat) (W:World) (V:PV) (o:Option Tr) (ch:ChF) (G:Nat→Prop):Prop where
 sys:Sys W m V b p G
 sto:Sto m V o ch [] t
 his:Hs I0 ch0 (H.drop i) (itemsO o) ch
 turn:Turn w0 G0 W G
 steps:V.D.steps≤V0.D.steps+3000*i
 slot:V.D.word 64=V0.D.word 64
theorem failI_own {V0:PV}{I0:List TR.Item}{ch0:ChF}{w0:World}{G0:Nat→Prop}{H:List PastV}:OwnFrom w0.heap.size (fun i W=>∃ V o ch G,FailI m b p t V0 I0 ch0 w0 G0 H i W V o ch G):=fun i X Y row ⟨V,o,ch,G,h⟩ hg hr =>
 ⟨V,o,ch,G,sys_kept h.sys hg (fun r e=>(hr r e).2),h.sto,h.his,⟨h.turn.mod.grown hg (fun k e=>.inr (hr k e).1),h.turn.new⟩,h.steps,h.slot⟩
def FailP (m b p x j t:Nat)(V0:PV)(I0:List TR.Item)(ch0:ChF)(w0:World)(G0:Nat→Prop)(st:BitVec 64)(sv dv:Value)(e:Int)(w':World):Prop :=
 ∃ V o G,Sys w' m V b p G∧Sto m V o ch0 [] t∧itemsO o=I0∧Blk w' j (cjC p b x st sv dv true e) 173∧Turn w0 (fun k=>G0 k∨k=j) w' (fun k=>G k∨k=j)∧V.D.steps≤V0.D.steps+60000∧V.D.word 64=V0.D.word 64
theorem fits_arr {n:Nat}{L:List Value}{a:Act}(r:Nat)(hn:L.length+r=n)(h:a={ tmps:=L.toArray++Array.replicate r undef,defers:=[] }):Fits n (argsE L 0 fun _=>undef) a:=by
 subst h;subst hn;exact fits_args L r
def endsE (B:Nat)(J:World→Prop)(W:World):Exit→Env→World→Prop
 | .normal,_,W'=>KeepsFrom B W W'∧J W'
 | _,_,_=>False
theorem endsE_of {B:Nat}{J:World→Prop}{W W':World}{e:Env}{t:Tag (endsE B J W,Exit.normal)}(h:KeepsFrom B W W'∧J W'):goE (endsE B J W) .normal t e W':=h
set_option maxHeartbeats 4000000 in
theorem fail_in {aq ad:Option Addr}{cs cd:Nat}{l:List WrV}{L:List PastV}{I0:List TR.Item}{ch ch0:ChF}(n:Nat)(hn:6≤n)(e:Int)(w0:World)(h:Sys w0 m V b p G)(hm:m=6∨m=24)(hst:V.D.steps+3300000<1099511627776)(hx:Blk w0 x (IxC p b) 178)(hxG:¬ G x)
  (hj:Blk w0 j (cjC p b x st (.slice aq l.length cs) (.slice ad L.length cd) ov en) 173) (hjG:¬ G j) (hset:RIn w0 3 aq (l.map WrV.cs) cs) (hss:SepA w0 G aq) (hl:L.length≤l.length) (hl16:l.length≤16) (hright:∀ y∈l,y.right)
  (hkey:∀ i (h:i<L.length),L[i].key=(l[i]'(by omega)).key) (hdone:RIn w0 2 ad (L.map PastV.cs) cd) (hds:SepA w0 G ad) (hdf:∀ y,ad=some y→∃ g,y=⟨g,0,none⟩) (hjt:1≠j) (hS:Sto m V o ch [] t) (hH:Hs I0 ch0 L.reverse (itemsO o) ch) :
  CallsIn Fence.wide n Tryz.prog 250 #[.pointer (some ⟨j,0,none⟩),.int .i64 e] w0 fun ev w'=>ev=.returned (.int .i64 e)∧FailP m b p x j t V I0 ch0 w0 G st (.slice aq l.length cs) (.slice ad L.length cd) e w':=by
 have h1:1≤n:=by omega
 have hj5:w0.cell? ⟨j,5,none⟩=some (.slice ad L.length cd):=hj.cell 5;refine callsIn_of_wp_marks Tryz.func250 rfl trivial ?_ rfl;simp only [Tryz.ntmps250,List.size_toArray,List.length_cons,List.length_nil,Nat.reduceAdd,Nat.reduceSub,Array.replicate_succ,Array.replicate_zero,List.push_toArray,List.append_toArray,List.nil_append,List.cons_append];have hjlt:=hj.lt
 gi_wp2_with (refine ⟨trivial,?_⟩;gi_at_call 253;refine (callsIn_wide.2 (backward_calls ad L.length cd _)).mono ?_;rintro e w' ⟨v,rfl,rfl,rfl⟩)
 have bJ:=(Boxed.new w0 111 (.pointer (some ⟨j,0,none⟩))).alloc (.cells #[.slice ad L.length cd] 171);have bL:=Boxed.new (w0.alloc (.cells #[.pointer (some ⟨j,0,none⟩)] 111)) 171 (.slice ad L.length cd);simp only [World.size_alloc] at bL;have hB0:Below w0.heap.size w0 ((w0.alloc (.cells #[.pointer (some ⟨j,0,none⟩)] 111)).alloc (.cells #[.slice ad L.length cd] 171)):=((Below.refl _ w0).alloc (Nat.le_refl _) _).alloc (by simp) _
 have hsz:((w0.alloc (.cells #[.pointer (some ⟨j,0,none⟩)] 111)).alloc (.cells #[.slice ad L.length cd] 171)).heap.size=w0.heap.size+2:=by simp
 try simp only [World.size_alloc]
 obtain ⟨W0,hW0⟩:∃ W0,((w0.alloc (.cells #[.pointer (some ⟨j,0,none⟩)] 111)).alloc (.cells #[.slice ad L.length cd] 171))=W0:=⟨_,rfl⟩;rw [hW0] at bJ bL hB0 hsz ⊢;clear hW0;have hx0:=hx.next hB0
 have hj0:=hj.next hB0
 have hset0:=hset.next hB0
 have hdone0:=hdone.next hB0
 have hss0:=hss.next hB0
 have hds0:=hds.next hB0
 have hGlt:=h.lt;have nG0:¬ G w0.heap.size:=fun hG=>by have:=hGlt _ hG;omega
 have nG1:¬ G (w0.heap.size+1):=fun hG=>by have:=hGlt _ hG;omega
 have keep:∀ {W:World} {G':Nat→Prop} {B:Nat} {ty:TypeId} {v:Value},Turn W0 G W G'→¬ G B→Boxed W0 B ty v→Boxed W B ty v:=fun ht hn hb=>(ht.mod.block _ hb.lt hn).trans hb
 refine range_in_order rfl h1 (gf:=256) (lb:=#[.pointer (some ⟨w0.heap.size+1,0,none⟩)]) rfl trivial (enters_of Tryz.func256 (by kernel_rfl) rfl) (N:=L.length) (fun _=>rfl)
  (fun i W=>∃ V' o' ch' G',FailI m b p t V I0 ch0 W0 G L.reverse i W V' o' ch' G') failI_own ⟨V,o,ch,G,h.next hB0,hS,by rw [List.drop_zero];exact hH,Turn.refl _ _,by omega,rfl⟩
  (bwd_hands (n-1) (by omega) (w0.heap.size+1) ad cd L (by omega) _ ?hR)
  (fun i a' W=>∃ V' o' ch' G' Bx,FailI m b p t V I0 ch0 W0 G L.reverse i W V' o' ch' G'∧Blk W Bx #[.int .u64 (uv (L.getD (L.length-1-i) ⟨⟨#[]⟩,0#64,0#64⟩).value),.int .u64 (uv (L.getD (L.length-1-i) ⟨⟨#[]⟩,0#64,0#64⟩).place)] 360∧¬ G' Bx∧W0.heap.size≤Bx∧Fits 46 (argsE [.pointer (some ⟨j,0,none⟩),.int .i64 e,.pointer (some ⟨w0.heap.size,0,none⟩),undef,.int .i64 0,.int .i64 ((L.length:Int)-1-i),.pointer (some ⟨Bx,0,none⟩),.pointer (some ⟨j,0,none⟩),.pointer (some ⟨j,0,none⟩),.pointer (some ⟨j,5,none⟩),.slice ad L.length cd,.func (.func 256) #[] #[.pointer (some ⟨w0.heap.size+1,0,none⟩)],.int .i64 ((L.length:Int)-1-i),.agg #[.int .u64 (uv (L.getD (L.length-1-i) ⟨⟨#[]⟩,0#64,0#64⟩).value),.int .u64 (uv (L.getD (L.length-1-i) ⟨⟨#[]⟩,0#64,0#64⟩).place)]] 0 (fun _=>undef)) a')
  ?hA ?assign ?body ?done
 case hR =>
  rintro i W ⟨V',o',ch',G',hI⟩;refine ⟨(keep hI.turn nG1 bL).cell,fun k hk=>?_⟩;obtain ⟨g,off,ha,hc⟩:=(hdone0.turn hds0 hI.turn).get (i:=k) (by simpa using hk);obtain ⟨g',hg'⟩:=hdf _ ha;cases hg';have c0:=hc 0 (by simp [PastV.cs]);have c1:=hc 1 (by simp [PastV.cs]);simp [PastV.cs] at c0 c1;exact ⟨g,ha,c0,c1⟩
 case hA =>
  rintro i a' u X Y row ⟨V',o',ch',G',Bx,hI,hB,hn,hle,ha⟩ hg hr;refine ⟨V',o',ch',G',Bx,⟨sys_kept hI.sys hg (fun r e=>(hr r e).2),hI.sto,hI.his,⟨hI.turn.mod.grown hg (fun k e=>.inr (hr k e).1),hI.turn.new⟩,hI.steps,hI.slot⟩,?_,hn,hle,ha⟩;exact (hg.block Bx hB.lt (fun e'=>by obtain ⟨ob,ho,hc⟩:=(hr Bx e'.symm).2;rw [show X.heap[Bx]?=_ from hB] at ho;cases ho;cases hc)).trans hB
 case assign =>
  rintro l' i W K hi ⟨V',o',ch',G',hI⟩ hK;dsimp only [encB]
  gi_wp2
  have bA:=(Below.refl W.heap.size W).alloc (Nat.le_refl _) (.cells #[.int .u64 (uv (L.getD (L.length-1-i) ⟨⟨#[]⟩,0#64,0#64⟩).value),.int .u64 (uv (L.getD (L.length-1-i) ⟨⟨#[]⟩,0#64,0#64⟩).place)] 360);refine hK _ _ ((KeepsOthers.alloc _ _).from _) ⟨V',o',ch',G',W.heap.size,⟨hI.sys.next bA,hI.sto,hI.his,hI.turn.trans (Turn.of bA),hI.steps,hI.slot⟩,Blk.new W _ _,fun hG=>by have:=hI.sys.lt _ hG;omega,hI.turn.size,?_⟩;refine fits_arr 32 rfl ?_
  simp only [Array.replicate_succ,Array.replicate_zero,List.push_toArray,List.append_toArray,List.nil_append,List.cons_append];rfl
 case body =>
  rintro l' i a' W hle0 hi ⟨V',o',ch',G',Bx,hI,hB,hnB,hBle,hfa⟩;obtain ⟨k,hk⟩:∃ k,k=L.length-1-i:=⟨_,rfl⟩;have hkL:k<L.length:=by omega
  have hgd:L.getD k ⟨⟨#[]⟩,0#64,0#64⟩=L[k]:=by rw [List.getD,List.getElem?_eq_getElem hkL];rfl
  have hcast:(L.length:Int)-1-i=(k:Int):=by omega
  have hdr:L.reverse.drop i=L[k]::L.reverse.drop (i+1):=by
   rw [List.drop_eq_getElem_cons (by simpa using hi),List.getElem_reverse]
   congr 2
   omega
  have hhis:=hI.his;rw [hdr] at hhis;rw [← hk,hgd] at hB;rw [← hk,hgd,hcast] at hfa;obtain ⟨q,hq⟩:∃ q,q=L[k]:=⟨_,rfl⟩;have hqk:=hkey k hkL;rw [← hq] at hB hhis hqk hfa;have hkl:k<l.length:=by omega
  have hrt:=hright _ (List.getElem_mem hkl);have cJ:=(keep hI.turn nG0 bJ).cell;have cX0:=hB.cell 0;have cX1:=hB.cell 1;have hjW:=hj0.mod hI.turn.mod hjG;have j1:W.cell? ⟨j,1,none⟩=some (.pointer (some ⟨b,0,none⟩)):=hjW.cell 1;have j4:W.cell? ⟨j,4,none⟩=some (.slice aq l.length cs):=hjW.cell 4;have hsetW:=hset0.turn hss0 hI.turn;have hxW:=hx0.mod hI.turn.mod hxG;have hxGW:=out_turn hxG hx0.lt hI.turn;have hjGW:=out_turn hjG hj0.lt hI.turn;have nGW:=out_turn nG0 bJ.lt hI.turn
  clear hk hgd hdr hq;have hkl':(k:Int)<(l.length:Int):=by omega
  have hk0:(0:Int)≤(k:Int):=by omega
  refine wpJ_sound (endsE W0.heap.size (fun W=>∃ V' o' ch' G',FailI m b p t V I0 ch0 W0 G L.reverse (i+1) W V' o' ch' G') W) (by kernel_rfl) hfa (fun x e a w _ h=>by cases x<;>exact h) ?_;by_cases hz:q.place=0#64
  ·have hzb:(q.place==0#64)=true:=by simpa using hz
   simp -implicitDefEqProofs [go_sem,cX1,hzb];have hh:Hs I0 ch0 (L.reverse.drop (i+1)) (itemsO o') ch':=by
    rcases hhis with h|⟨_,_,_,_,h,_⟩
    ·exact h.2
    ·exact absurd hz h.ne
   exact endsE_of ⟨⟨Nat.le_refl _,fun _ _ _ h _=>h⟩,V',o',ch',G',hI.sys,hI.sto,hh,hI.turn,by have:=hI.steps;omega,hI.slot⟩
  ·have hzb:(q.place==0#64)=false:=by simpa using hz
   obtain ⟨I1,ch1,off,r,hSt,hH1⟩:=hhis.resolve_left fun h=>hz h.1
   obtain ⟨sb,so,hsa,hsc⟩:=hsetW.get (i:=k) (by simpa using hkl);have s0:=hsc 0 (by simp [WrV.cs]);simp [WrV.cs] at s0;subst hsa;have hmix:Tryz.prog.follows .mixedOrders=true:=by kernel_rfl
   have hval:valI (itemsO o') (nibs l[k].key)=q.place:=by
    rw [← hqk];refine valI_mem hI.sto.own.keys ?_;obtain ⟨A,B,e1,e2⟩:=hSt.chg;rw [e2,own_pos _ hSt.ne];simp
   have hstW:=hI.steps;simp -implicitDefEqProofs [go_sem,cX1,hzb];refine drawJ_mix [.pure 5,.pure 9,.take 0,.take 1,.pure 2,.pure 3,.take 4,.pure 6,.pure 7,.take 8,.run 10 [0,1,4,8],.run 11 [],.pure 12] mixed (by decide +kernel) (by simp only [wo];rfl) ?_;have bd:=(Below.refl W.heap.size W).drew;have sysD:=hI.sys.next bd
   have cJd:(World.drew W).cell? ⟨w0.heap.size,0,none⟩=some (.pointer (some ⟨j,0,none⟩)):=cJ;have j4d:(World.drew W).cell? ⟨j,4,none⟩=some (.slice (some ⟨sb,so,none⟩) l.length cs):=j4;have s0d:(World.drew W).cell? ⟨sb,so+k*3,none⟩=some (.string l[k].key):=s0;have cX0d:(World.drew W).cell? ⟨Bx,0,none⟩=some (.int .u64 (uv q.value)):=cX0;have hBd:=hB.next bd
   have hxd:=hxW.next bd
   have hjd:=hjW.next bd
   have tD:=hI.turn.trans (Turn.of bd);have bdW:=bd;generalize World.drew W=Wd at *;simp -implicitDefEqProofs [go_sem];refine onTake_of (fun w'=>w'.cell? ⟨w0.heap.size,0,none⟩=some (.pointer (some ⟨j,0,none⟩))) (.pointer (some ⟨j,0,none⟩)) cJd (fun w' hw=>by simp -implicitDefEqProofs [go_sem,hw]) ?_;simp -implicitDefEqProofs [go_sem]
   refine onTake_of (fun w'=>w'.cell? ⟨w0.heap.size,0,none⟩=some (.pointer (some ⟨j,0,none⟩))) (.pointer (some ⟨j,0,none⟩)) cJd (fun w' hw=>by simp -implicitDefEqProofs [go_sem,hw]) ?_;simp -implicitDefEqProofs [go_sem];refine onTake_of (fun w'=>w'.cell? ⟨j,4,none⟩=some (.slice (some ⟨sb,so,none⟩) l.length cs)) (.slice (some ⟨sb,so,none⟩) l.length cs) j4d (fun w' hw=>by simp -implicitDefEqProofs [go_sem,hw]) ?_;simp -implicitDefEqProofs [go_sem,hkl,hkl']
   refine onTake_of (fun w'=>w'.cell? ⟨sb,so+k*3,none⟩=some (.string l[k].key)) (.string l[k].key) s0d (fun w' hw=>by simp -implicitDefEqProofs [go_sem,hw]) ?_;simp -implicitDefEqProofs [go_sem,cX0d];refine callE_of (undo_calls l[k].key q.value Wd sysD hm (by omega) hxd hxGW hjd hrt.1 hI.sto.own (by rw [hval];exact hSt.ne)) ?_;rintro v w1 ⟨V1,G1,o1,rfl,h1s,t1,s1,hs1,hO1,hc1⟩;refine ⟨.inr (by simp),?_⟩;have hB1:=hBd.mod t1.mod hnB
   have cX11:w1.cell? ⟨Bx,1,none⟩=some (.int .u64 (uv q.place)):=hB1.cell 1;have hj1:=hjd.mod t1.mod hjGW;have j11:w1.cell? ⟨j,1,none⟩=some (.pointer (some ⟨b,0,none⟩)):=hj1.cell 1;have t01:=tD.trans t1;have cJ1:=(keep t01 nG0 bJ).cell;have z4:=hSt.small;have e1:=(name_int z4).1;rw [← hSt.name] at e1;simp -implicitDefEqProofs [go_sem];refine drawJ_mix [.pure 4,.take 0,.pure 1,.pure 2,.take 3,.run 5 [0,3],.run 6 [0,3],.run 7 []] mixed (by decide +kernel) (by simp only [wo];rfl) ?_
   have bd2:=(Below.refl w1.heap.size w1).drew;have sysE:=h1s.next bd2
   have cJe:(World.drew w1).cell? ⟨w0.heap.size,0,none⟩=some (.pointer (some ⟨j,0,none⟩)):=cJ1;have j1e:(World.drew w1).cell? ⟨j,1,none⟩=some (.pointer (some ⟨b,0,none⟩)):=j11;have cX1e:(World.drew w1).cell? ⟨Bx,1,none⟩=some (.int .u64 (uv q.place)):=cX11;have tE:=t01.trans (Turn.of bd2);have tWE:=(Turn.of (F:=G') bdW).trans (t1.trans (Turn.of bd2));generalize World.drew w1=We at *;have hm10:off∈chL ch' (itemsO o')++[]:=by
    rw [List.append_nil];exact hSt.perm.mem_iff.2 List.mem_cons_self
   have hpos:0<Bk m V1 (off:Int):=(hO1.all off).2 (List.mem_append_right _ hm10);obtain ⟨V12,hdV,hD⟩:=gone_one hO1.rest hm hpos;have hDr:=sysDrop_calls off We sysE hO1.rest.well hm (by omega) z4;rw [hdV] at hDr;simp -implicitDefEqProofs [go_sem];refine onTake_of (fun w'=>w'.cell? ⟨w0.heap.size,0,none⟩=some (.pointer (some ⟨j,0,none⟩))) (.pointer (some ⟨j,0,none⟩)) cJe (fun w' hw=>by simp -implicitDefEqProofs [go_sem,hw]) ?_;simp -implicitDefEqProofs [go_sem]
   refine onTake_of (fun w'=>w'.cell? ⟨j,1,none⟩=some (.pointer (some ⟨b,0,none⟩))) (.pointer (some ⟨b,0,none⟩)) j1e (fun w' hw=>by simp -implicitDefEqProofs [go_sem,hw]) ?_;simp -implicitDefEqProofs [go_sem,cX1e,e1];refine callE_of hDr ?_;rintro v w12 ⟨rfl,G12,h12,t12⟩;refine ⟨.inr (by simp),?_⟩;have hU:=hI.sto.undo hm hSt hO1 s1 (by rw [← hval,hqk];exact hc1) hD;obtain ⟨hI1,hS12⟩:=hU;have hst12:=hD.steps;rw [List.length_singleton] at hst12;simp -implicitDefEqProofs [go_sem]
   have tAll:=tWE.trans t12;refine endsE_of ⟨sys_keeps hI.sys tAll,V12,o1,ch1,G12,h12,hS12,by rw [hI1];exact hH1,hI.turn.trans tAll,by omega,?_⟩;rw [hD.words 64 (by decide) (by have:=sz hm;omega) (.inl (by decide)),s1.head 64 (by decide) (by decide) (by decide)];exact hI.slot
 case done =>
  rintro D2 W hD2 ⟨V',o',ch',G',hI⟩ hK;have cJ:=(keep hI.turn nG0 bJ).cell;have hjW:=hj0.mod hI.turn.mod hjG;have hjGW:=out_turn hjG hj0.lt hI.turn;have f6:=hjW.thaw 6;have f7:=hjW.thaw 7;have c6:W.cell? ⟨j,6,none⟩=some (.bool ov):=hjW.cell 6;have c7:W.cell? ⟨j,7,none⟩=some (.int .i64 en):=hjW.cell 7
  gi_wp2
  gi_region
  gi_wp2
  have hK1:=(KeepsOthers.setCell W ⟨j,6,none⟩ (.bool true)).same D2 _ hK rfl;have hK2:=(KeepsOthers.setCell (W.setCell ⟨j,6,none⟩ (.bool true)) ⟨j,7,none⟩ (.int .i64 e)).same D2 _ hK1 rfl;have hK3:(((W.setCell ⟨j,6,none⟩ (.bool true)).setCell ⟨j,7,none⟩ (.int .i64 e)).drew).heap[D2]?=some (.deferred (some [])):=hK2;refine ⟨by simp,.inl ⟨_,_,rfl,run_takeDeferred hK3,?_⟩⟩;have hhis:=hI.his;rw [List.drop_eq_nil_of_le (by simp)] at hhis;obtain ⟨hIe,rfl⟩:itemsO o'=I0∧ch'=ch0:=hhis
  have M1:Mod (fun k=>G k∨k=j) w0 W:=(Mod.of (F:=fun k=>G k∨k=j) hB0).trans (hI.turn.mod.mono (fun k hk _=>.inl hk)) (fun k hk _=>hk);have mW:Mod (fun k=>k=j) W (((W.setCell ⟨j,6,none⟩ (.bool true)).setCell ⟨j,7,none⟩ (.int .i64 e)).drew):=(((Mod.refl (fun k=>k=j) W).setCell (a:=⟨j,6,none⟩) (.inl rfl) _).setCell (a:=⟨j,7,none⟩) (.inl rfl) _).drew;have M2:=((M1.setCell (a:=⟨j,6,none⟩) (.inl (.inr rfl)) (.bool true)).setCell (a:=⟨j,7,none⟩) (.inl (.inr rfl)) (.int .i64 e)).drew
  have hjd:Blk (((W.setCell ⟨j,6,none⟩ (.bool true)).setCell ⟨j,7,none⟩ (.int .i64 e)).drew) j (cjC p b x st (.slice aq l.length cs) (.slice ad L.length cd) true e) 173:=((hjW.set 6 (.bool true)).set 7 (.int .i64 e)).drew;have hsD:=hI.sys.mod mW (fun k hk e=>hjGW (by rw [← e];exact hk)) hjt;have hB0s:=hB0.size;have hbst:=hI.steps
  refine ⟨_,results_tmp rfl _ _ _,rfl,V',o',G',sys_kept hsD (grownBy_putObj' _ D2 _) (fun r e=>by cases e;exact ⟨_,hK3,rfl⟩),hI.sto,hIe,?_,⟨M2.grown (grownBy_putObj' _ D2 _) (fun k e=>by cases e;exact .inr (by omega)),fun k hk=>?_⟩,by omega,hI.slot⟩
  ·exact ((grownBy_putObj' _ D2 _).block j hjd.lt (fun e'=>by
    have e2:j=D2:=by simpa using e'
    rw [← e2] at hK3;rw [show _=_ from hjd] at hK3;cases hK3)).trans hjd
  ·rcases hk with hk|rfl
   ·rcases hI.turn.new k hk with h1|h1
    ·exact .inl (.inl h1)
    ·exact .inr (by omega)
   ·exact .inl (.inr rfl)
theorem fail_calls {aq ad:Option Addr}{cs cd:Nat}{l:List WrV}{L:List PastV}{I0:List TR.Item}{ch ch0:ChF}(e:Int)(w0:World)(h:Sys w0 m V b p G)(hm:m=6∨m=24)(hst:V.D.steps+3300000<1099511627776)(hx:Blk w0 x (IxC p b) 178)(hxG:¬ G x)
  (hj:Blk w0 j (cjC p b x st (.slice aq l.length cs) (.slice ad L.length cd) ov en) 173) (hjG:¬ G j) (hset:RIn w0 3 aq (l.map WrV.cs) cs) (hss:SepA w0 G aq) (hl:L.length≤l.length) (hl16:l.length≤16) (hright:∀ y∈l,y.right)
  (hkey:∀ i (h:i<L.length),L[i].key=(l[i]'(by omega)).key) (hdone:RIn w0 2 ad (L.map PastV.cs) cd) (hds:SepA w0 G ad) (hdf:∀ y,ad=some y→∃ g,y=⟨g,0,none⟩) (hjt:1≠j) (hS:Sto m V o ch [] t) (hH:Hs I0 ch0 L.reverse (itemsO o) ch) :
  Ret Tryz.prog 250 #[.pointer (some ⟨j,0,none⟩),.int .i64 e] w0 fun v w'=>v=.int .i64 e∧FailP m b p x j t V I0 ch0 w0 G st (.slice aq l.length cs) (.slice ad L.length cd) e w' :=
 (callsIn_wide.1 (fail_in 6 (Nat.le_refl _) e w0 h hm hst hx hxG hj hjG hset hss hl hl16 hright hkey hdone hds hdf hjt hS hH)).mono fun _ _ h=>⟨_,h.1,rfl,h.2⟩
end
end
section
open Go Go.RowKit
open TR
theorem pastE:EInfo Tryz.prog 360 2 16:=by unfold EInfo;kernel_rfl
theorem past_size (l:List PastV):∀ x∈l.map PastV.cs,x.size=2:=by
 intro x hx;obtain ⟨e,_,rfl⟩:=List.mem_map.1 hx;rfl
theorem kless_no {x y:ByteArray}(h:kless x y=true):Op.bytesLess x.toList y.toList=true:=h
section
variable {w w':World} {m b p x j t cap:Nat} {V V':PV} {G G' F:Nat→Prop} {o:Option Tr} {st:BitVec 64} {a:Option Addr} {l:List WrV}
set_option maxHeartbeats 4000000
theorem cfits_calls (w0:World)(hin:RIn w0 3 a (l.map WrV.cs) cap)(hs:SetOk l):Ret Tryz.prog 79 #[.slice a l.length cap] w0 fun v w'=>v=.bool true∧Below w0.heap.size w0 w':=by
 have bel0:=Below.refl w0.heap.size w0;have hl16:=hs.len;have hn16:¬ (16:Int)<(l.length:Int):=by omega
 refine ret_of (args:=[_]) _ Tryz.func79 rfl Tryz.ntmps79 (by simp) ?_;simp -implicitDefEqProofs [go_sem,hn16];refine wpE_loop (fun e' w'=>∃ k:Nat,k≤l.length∧e' 0=.slice a l.length cap∧e' 8=.slice a l.length cap∧e' 9=.int .i64 (l.length:Int)∧e' 10=.int .i64 (k:Int)∧Below w0.heap.size w0 w') (fun e' _=>l.length-(intOf (e' 10)).toNat) ?_ ?_
 ·refine ⟨0,Nat.zero_le _,?_⟩;simp -implicitDefEqProofs [go_sem];exact bel0
 ·rintro e' w1 ⟨k,hk,g0,g8,g9,g10,bel1⟩;have hin1:=hin.next bel1
  by_cases hlt:k<l.length
  ·have hlt':(k:Int)<(l.length:Int):=by omega
   have i1:=IntWalk.i64_in ((k:Int)+1) (by omega);obtain ⟨ib,io,rfl,hld⟩:=hin1.ld (i:=k) (by simpa using hlt) Tryz.underlying104 rfl wrI;have hcs:(l.map WrV.cs)[k]'(by simpa using hlt)=l[k].cs:=by simp
   rw [hcs] at hld;have hst:=stNew (P:=Tryz.prog) (t:=104) (cs:=l[k].cs) (C0:=#[.string ⟨#[]⟩,.string ⟨#[]⟩,.bool false]) wrI rfl l[k].cs_one;have hk0:l[k].cs[0]?=some (.string l[k].key):=rfl;simp -implicitDefEqProofs [go_sem,g0,g8,g9,g10,hlt,hlt',↓hld,↓hst];generalize hw2:World.alloc w1 _=w2 at *;obtain ⟨hB2,b2,sz2,bel2⟩:=newF hw2 bel1
   refine drawE_mix [.run 0 [],.run 1 [],.pure 2,.pure 3,.pure 4,.pure 5,.pure 6,.pure 7,.pure 8,.pure 9,.pure 10,.pure 11,.pure 13,.take 12,.run 14 [12],.pure 15,.pure 16,.pure 17] mixed (by decide +kernel) (by simp only [wo];rfl) ?_;have bd:=(Below.refl w2.heap.size w2).drew;have bel3:Below w0.heap.size w0 (World.drew w2):=bel2.drew;have hin3:=(hin1.next b2).next bd
   have hB3:=hB2.next bd
   generalize World.drew w2=w3 at *;have ldX:=ldAll (P:=Tryz.prog) hB3 Tryz.underlying104 rfl wrI (n:=3) l[k].cs_size;simp -implicitDefEqProofs [go_sem,↓ldX];refine callE_of (wright_calls l[k] w3) ?_;rintro v w4 ⟨r,rfl,hr,b4⟩;obtain rfl:r=true:=hr.2 (hs.right _ (List.getElem_mem hlt));refine ⟨.inr (by simp),?_⟩;have bel4:=btr bel3 b4;have hB4:=hB3.next b4
   have hin4:=hin3.next b4
   cases k with
   | zero =>
    have i2:IntKind.i64.wrap 1=1:=IntWalk.i64_in 1 (by omega);simp -implicitDefEqProofs [go_sem,g0,g10,i2];refine goE_round ⟨1,by omega,?_⟩ ?_
    ·simp -implicitDefEqProofs [go_sem,g0,g8,g9,g10];exact bel4
    ·simp -implicitDefEqProofs [go_sem,g10,intOf];omega
   | succ k =>
    have hpos:(0:Int)<(k:Int)+1:=by omega
    have i2:=IntWalk.i64_in (k:Int) (by omega);have i3:=IntWalk.i64_in ((k:Int)+1) (by omega);have i4:=IntWalk.i64_in ((k:Int)+1+1) (by omega);have hkl:k<l.length:=by omega
    have hkl':(k:Int)<(l.length:Int):=by omega
    have hk0':(0:Int)≤(k:Int):=by omega
    obtain ⟨ib',io',hib,hc⟩:=hin4.get (i:=k) (by simpa using hkl);obtain ⟨rfl,rfl⟩:ib=ib'∧io=io':=by simpa using hib
    have c0:=hc 0 (by simp [WrV.cs]);simp [WrV.cs] at c0;have hless:=kless_no (hs.rise k hlt);simp -implicitDefEqProofs [go_sem,g0,g10,hpos,i2,hkl,hkl',hk0'];refine onTake_of (fun w'=>w'.cell? ⟨ib,io+k*3,none⟩=some (.string l[k].key)) (.string l[k].key) c0 (fun w' hw=>by simp -implicitDefEqProofs [go_sem,hw]) ?_;simp -implicitDefEqProofs [go_sem,hB4.cell,hk0,hless,g10,i4];refine goE_round ⟨k+1+1,by omega,?_⟩ ?_
    ·simp -implicitDefEqProofs [go_sem,g0,g8,g9,g10,i4];exact bel4
    ·simp -implicitDefEqProofs [go_sem,g10,intOf,i4];omega
  ·obtain rfl:k=l.length:=by omega
   simp -implicitDefEqProofs [go_sem,g0,g8,g9,g10];refine body_tmp 2 rfl ?_;simp -implicitDefEqProofs [go_sem];exact bel1
theorem cnone_calls {cs:Array Value}(w0:World)(hj:Blk w0 j cs 173)(h0:cs[0]?=some (.pointer (some ⟨p,0,none⟩))):Ret Tryz.prog 248 #[.pointer (some ⟨j,0,none⟩)] w0 fun v w'=>v=.bool false∧w'=w0:=by
 refine ret_of (args:=[_]) _ Tryz.func248 rfl Tryz.ntmps248 (by simp) ?_;simp -implicitDefEqProofs [go_sem,hj.cell,h0];refine body_tmp 2 rfl ?_;simp -implicitDefEqProofs [go_sem]
def CNewP (p b x:Nat)(st:BitVec 64)(l:List WrV)(w0:World)(v:Value)(w':World):Prop :=
 ∃ j aq cq,v=.tuple #[.pointer (some ⟨j,0,none⟩),.int .i64 0]∧Blk w' j (cjC p b x st (.slice aq l.length cq) (.slice none 0 0) false 0) 173∧RIn w' 3 aq (l.map WrV.cs) cq∧w0.heap.size≤j∧(∀ y,aq=some y→w0.heap.size≤y.block∧y.block<w'.heap.size∧y.block≠j)∧Below w0.heap.size w0 w'
theorem cnew_calls (w0:World)(h:Sys w0 m V b p G)(hr:Rest m V)(hm:m=6∨m=24)(hin:RIn w0 3 a (l.map WrV.cs) cap)(hs:SetOk l)(hlast:(V.D.word 64).toNat<st.toNat)(hst:st.toNat≤60000) :
  Ret Tryz.prog 47 #[.pointer (some ⟨p,0,none⟩),.pointer (some ⟨b,0,none⟩),.pointer (some ⟨x,0,none⟩),.int .u64 (uv st),.slice a l.length cap] w0 fun v w'=>CNewP p b x st l w0 v w':=by
 have bel0:=Below.refl w0.heap.size w0;have zf:=sz hm;have hne:(64*(nL m:Int)==0)=false:=by rw [beq_eq_false_iff_ne];omega
 have hl16:=hs.len;refine ret_of (args:=[_,_,_,_,_]) _ Tryz.func47 rfl Tryz.ntmps47 (by simp) ?_;simp -implicitDefEqProofs [go_sem];refine callE_of (pdSize_calls w0 h.pd hr hm) ?_;rintro v w1 ⟨rfl,rfl⟩;simp -implicitDefEqProofs [go_sem,hne];obtain ⟨tb,tc,hb,hc,F,hP,hG⟩:=h.pd;refine callE_of (loadB 64 w1 hP.dev (by unfold I64;omega)) ?_;rintro v w2 ⟨rfl,rfl⟩;have hl64:V.D.load 64=(V.D.word 64,0):=load_up hr hm (o:=64) (by decide) (by omega);have c1:¬ st≤V.D.word 64:=by rw [BitVec.le_def];omega
 have c2:¬ (60000#64:BitVec 64)<st:=by rw [BitVec.lt_def];show ¬ 60000<st.toNat;omega
 rw [hl64];simp -implicitDefEqProofs [go_sem,c1,c2];refine callE_of (cfits_calls w2 hin hs) ?_;rintro v w3 ⟨rfl,b3⟩;have hin3:=hin.next b3
 simp -implicitDefEqProofs [go_sem];refine callE_of (cloneS_calls w3 hin3 (by omega)) ?_;rintro v w4 ⟨a4,c4,rfl,hrow4,b4⟩;simp -implicitDefEqProofs [go_sem];have bel4:=btr b3 b4;have belX:=bel4;generalize hw5:World.alloc w4 _=w5 at *;obtain ⟨hB5,b5,sz5,bel5⟩:=newF hw5 bel4;have hr4:=owns_rin (wr_size l) (by simp) hrow4;have hblk:=ownsRow_blk hrow4;have hs3:=b3.size;refine body_tmp2 10 11 rfl ?_;simp -implicitDefEqProofs [go_sem]
 exact ⟨w4.heap.size,a4,c4,rfl,hB5,hr4.next b5,by have:=bel4.size;omega,fun y hy=>by have:=hblk _ ⟨y,hy,rfl⟩;omega,bel5⟩
end
structure CJ (w:World) (p b x j:Nat) (G:Nat→Prop) (st:BitVec 64) (l:List WrV) (L:List PastV) (aq ad:Option Addr) (cs cd:Nat):Prop where
 blk:Blk w j (cjC p b x st (.slice aq l.length cs) (.slice ad L.length cd) false 0) 173
 jG:¬ G j
 set:RIn w 3 aq (l.map WrV.cs) cs
 done:w.ownsRow 0 360 2 (.slice ad L.length cd) L.length (flatR (L.map PastV.cs))
 sq:∀ y,aq=some y→y.block<w.heap.size∧¬ G y.block∧y.block≠j
 sd:∀ y,ad=some y→y.block<w.heap.size∧¬ G y.block∧y.block≠j∧(∀ z,aq=some z→z.block≠y.block)∧y.block≠x∧1≠y.block
 sz:1≠j
def CF (G:Nat→Prop)(j:Nat)(ad:Option Addr)(k:Nat):Prop:=G k∨k=j∨BlkOf ad k
structure JSt (m:Nat) (V:PV) (o:Option Tr) (ch:ChF) (I0:List TR.Item) (ch0:ChF) (st:BitVec 64) (l:List WrV) (L:List PastV):Prop where
 sto:Sto m V o ch [] st.toNat
 his:Hs I0 ch0 L.reverse (itemsO o) ch
 le:L.length≤l.length
 key:∀ i (h:i<L.length),L[i].key=(l[i]'(Nat.lt_of_lt_of_le h le)).key
 fresh:∀ i (h:i<l.length),L.length≤i→∀ k∈(tlC ch (valI (itemsO o) (nibs l[i].key))).1,k.stamp.toNat<st.toNat
def CStepP (m:Nat)(V:PV)(b p x j:Nat)(G:Nat→Prop)(o:Option Tr)(ch:ChF)(I0:List TR.Item)(ch0:ChF)(st:BitVec 64)(l:List WrV)(L:List PastV)(aq ad:Option Addr)(cs:Nat)(w0:World)(v:Value)(w':World):Prop :=
 ∃ (over:Bool) (e:Int) (V':PV) (G':Nat→Prop) (o':Option Tr) (ad':Option Addr),v=.tuple #[.bool over,.int .i64 e]∧Sys w' m V' b p G'∧Turn w0 (CF G j ad) w' (CF G' j ad')∧V'.D.steps≤V.D.steps+70000 ∧
  ((over=false∧e=0∧∃ (q:PastV) (ch':ChF) (cd':Nat) (hq:L.length<l.length),CJ w' p b x j G' st l (L++[q]) aq ad' cs cd'∧JSt m V' o' ch' I0 ch0 st l (L++[q])∧V'.D.word 64=V.D.word 64∧(∀ y,ad'=some y→BlkOf ad y.block∨w0.heap.size≤y.block) ∧
    ((q.place=0#64∧l[L.length].gone=true)∨∃ off r,Stp (itemsO o) (itemsO o') ch ch' q off r∧q.key=l[L.length].key∧r.stamp=st∧r.gone=l[L.length].gone∧r.text=l[L.length].text)) ∨
   (over=true∧e=0∧L.length=l.length∧o'=o∧Sto m V' o ch [] st.toNat∧V'.D.word 64=st) ∨
   (over=true∧e=6∧L.length<l.length∧Sto m V' o' ch0 [] st.toNat∧itemsO o'=I0∧V'.D.word 64=V.D.word 64∧∃ V1 L1,Grew m V V1 L1∧L1.length≤5∧Many m V1 m))
section
variable {w w':World} {m b p x j t:Nat} {V V':PV} {G G' F:Nat→Prop} {o:Option Tr} {st:BitVec 64} {l:List WrV} {L:List PastV} {aq ad:Option Addr} {cs cd:Nat} {ch ch0:ChF} {I0:List TR.Item}
set_option maxHeartbeats 4000000
def RowIs (w:World)(g o:Nat)(C:Array Value):Prop:=∀ i (h:i<C.size),w.cell? ⟨g,o+i,none⟩=some C[i]
theorem rowIs_of {sb so:Nat}(h:RIn w 3 (some ⟨sb,so,none⟩) (l.map WrV.cs) cs){k:Nat}(hk:k<l.length):RowIs w sb (so+k*3) l[k].cs:=fun i hi=>by
 obtain ⟨ib,io,hib,hc⟩:=h.get (i:=k) (by simpa using hk);obtain ⟨rfl,rfl⟩:sb=ib∧so=io:=by simpa using hib
 have:=hc i (by simpa using hi);simpa using this
theorem cstep_calls (w0:World)(h:Sys w0 m V b p G)(hm:m=6∨m=24)(hst:V.D.steps+3400000<1099511627776)(hx:Blk w0 x (IxC p b) 178)(hxG:¬ G x)(hJ:CJ w0 p b x j G st l L aq ad cs cd)(hS:JSt m V o ch I0 ch0 st l L)(hl:SetOk l)(h0:st≠0#64) :
  Ret Tryz.prog 247 #[.pointer (some ⟨j,0,none⟩)] w0 fun v w'=>CStepP m V b p x j G o ch I0 ch0 st l L aq ad cs w0 v w':=by
 have bel0:=Below.refl w0.heap.size w0;have hl16:=hl.len;have hLl:=hS.le;have c5:w0.cell? ⟨j,5,none⟩=some (.slice ad L.length cd):=hJ.blk.cell 5;have c4:w0.cell? ⟨j,4,none⟩=some (.slice aq l.length cs):=hJ.blk.cell 4;have c6:w0.cell? ⟨j,6,none⟩=some (.bool false):=hJ.blk.cell 6;refine ret_of (args:=[_]) _ Tryz.func247 rfl Tryz.ntmps247 (by simp) ?_;simp -implicitDefEqProofs [go_sem];refine callE_of (cnone_calls w0 hJ.blk rfl) ?_;rintro v w1 ⟨rfl,rfl⟩;simp -implicitDefEqProofs [go_sem,c6]
 by_cases hlt:L.length<l.length
 ·have hlt':(L.length:Int)<(l.length:Int):=by omega
  have hjlt:=hJ.blk.lt;refine drawE_still mixed (by decide +kernel) ?_;simp -implicitDefEqProofs [go_sem,c5,c4,hlt'];unfold endE;simp -implicitDefEqProofs [go_sem];have bd:=(Below.refl w1.heap.size w1).drew;have hB2:=hJ.blk.next bd
  have hset2:=hJ.set.next bd
  have h2:=h.next bd
  have hx2:=hx.next bd
  have hrow2:=ownsRow_next hJ.done bd;generalize World.drew w1=w2 at *;refine drawE_alt [.pure 0,.pure 1,.pure 2,.pure 3,.pure 5,.pure 6,.pure 7,.take 4,.take 8,.pure 9,.pure 10,.take 11] 12 [] [.pure 13,.pure 14,.pure 15,.run 16 [4,8,11],.run 17 [],.pure 18] 16 [4,8,11] [.run 12 [],.pure 13,.pure 14,.pure 15,.run 17 [],.pure 18] mixed (by decide +kernel) (by simp only [wo];rfl) (by simp only [wo];rfl) (by simp only [wo];rfl) ?_;have bd3:=(Below.refl w2.heap.size w2).drew
  have bel3:Below w1.heap.size w1 (World.drew w2):=bd.drew;generalize World.drew w2=w3 at *;have h3:=h2.next bd3
  have hB3:=hB2.next bd3
  have hset3:=hset2.next bd3
  have hx3:=hx2.next bd3
  have hrow3:=ownsRow_next hrow2 bd3;obtain ⟨sb,so,hsa,hsc⟩:=hset3.get (i:=L.length) (by simpa using hlt);subst hsa;have k4:CellIs w3 ⟨j,4,none⟩ (.slice (some ⟨sb,so,none⟩) l.length cs):=hB3.cell 4;have k5:CellIs w3 ⟨j,5,none⟩ (.slice ad L.length cd):=hB3.cell 5;have kS:RowIs w3 sb (so+L.length*3) l[L.length].cs:=rowIs_of hset3 hlt;simp -implicitDefEqProofs [go_sem]
  refine onTake_of (fun w'=>CellIs w' ⟨j,4,none⟩ (.slice (some ⟨sb,so,none⟩) l.length cs)) (.slice (some ⟨sb,so,none⟩) l.length cs) k4 (fun w' hw=>by
   have hw:w'.cell? ⟨j,4,none⟩=_:=hw;simp -implicitDefEqProofs [go_sem,hw]) ?_
  simp -implicitDefEqProofs [go_sem];refine onTake_of (fun w'=>CellIs w' ⟨j,5,none⟩ (.slice ad L.length cd)) (.slice ad L.length cd) k5 (fun w' hw=>by
   have hw:w'.cell? ⟨j,5,none⟩=_:=hw;simp -implicitDefEqProofs [go_sem,hw]) ?_
  simp -implicitDefEqProofs [go_sem,hlt,hlt'];refine onTake_of (fun w'=>RowIs w' sb (so+L.length*3) l[L.length].cs) (.agg l[L.length].cs) kS (fun w' hw=>by
   have q0:=hw 0 (show 0<3 by decide);have q1:=hw 1 (show 1<3 by decide);have q2:=hw 2 (show 2<3 by decide);simp [WrV.cs] at q0 q1 q2;simp -implicitDefEqProofs [go_sem,q0,q1,q2,WrV.cs]) ?_
  have hwr:∀ w4,Below w3.heap.size w3 w4→Ret Tryz.prog 249 #[.pointer (some ⟨j,0,none⟩),.agg l[L.length].cs] w4 fun v w'=>ComWP m V b p G o ch st l[L.length] w4 v w':=fun w4 hb =>
   comWrite_calls l[L.length] w4 (h3.next hb) hm (by omega) (hx3.next hb) hxG (hB3.next hb) hJ.jG (hl.right _ (List.getElem_mem hlt)) hS.sto h0 (hS.fresh L.length hlt (Nat.le_refl _))
  refine ⟨?_,?_⟩
  case' refine_1 =>
   simp -implicitDefEqProofs [go_sem];refine callE_of (hwr w3 (Below.refl _ _)) ?_;rintro v w4 ⟨V4,G4,o4,ch4,value,place,e,rfl,h4,t4,hs4,hw64,hS4,hcase⟩;refine ⟨.inr (by simp),?_⟩;have stP:=stNew (P:=Tryz.prog) (t:=360) (cs:=#[.int .u64 (uv value),.int .u64 (uv place)]) (C0:=#[.int .u64 0,.int .u64 0]) pastI rfl (past_one _ _);simp -implicitDefEqProofs [go_sem,↓stP];have b50:=(Below.refl w4.heap.size w4).alloc (Nat.le_refl _) (.cells #[.int .u64 0,.int .u64 0] 360)
   have hB40:=(hB3.mod t4.mod hJ.jG).next b50
   have hset40:RIn (w4.alloc (.cells #[.int .u64 0,.int .u64 0] 360)) 3 (some ⟨sb,so,none⟩) (l.map WrV.cs) cs:=(hset3.mod t4.mod fun k ⟨y,hy,hk⟩=>by rw [← hk];exact (hJ.sq y hy).2.1).next b50
   have kS40:RowIs (w4.alloc (.cells #[.int .u64 0,.int .u64 0] 360)) sb (so+L.length*3) l[L.length].cs:=rowIs_of hset40 hlt;have k440:CellIs (w4.alloc (.cells #[.int .u64 0,.int .u64 0] 360)) ⟨j,4,none⟩ (.slice (some ⟨sb,so,none⟩) l.length cs):=hB40.cell 4;have k540:CellIs (w4.alloc (.cells #[.int .u64 0,.int .u64 0] 360)) ⟨j,5,none⟩ (.slice ad L.length cd):=hB40.cell 5;refine ⟨.inr ⟨kS40,k540,k440⟩,?_⟩;have nB:¬ G4 w4.heap.size:=fun hG=>by have:=h4.lt _ hG;omega
   have hBw:=Blk.new w4 #[.int .u64 (uv value),.int .u64 (uv place)] 360;have b5:=(Below.refl w4.heap.size w4).alloc (Nat.le_refl _) (.cells #[.int .u64 (uv value),.int .u64 (uv place)] 360);have t5:=t4.trans (Turn.of b5);have h5:=h4.next b5
   have hBge:w3.heap.size≤w4.heap.size:=t4.size;generalize World.alloc w4 (.cells #[.int .u64 (uv value),.int .u64 (uv place)] 360)=w5 at *;have hBl:w4.heap.size<w5.heap.size:=hBw.lt;clear kS40 k540 k440 hset40 hB40 b50 stP
  case' refine_2 =>
   have b30:=(Below.refl w3.heap.size w3).alloc (Nat.le_refl _) (.cells #[.int .u64 0,.int .u64 0] 360);have kS40:RowIs (w3.alloc (.cells #[.int .u64 0,.int .u64 0] 360)) sb (so+L.length*3) l[L.length].cs:=rowIs_of (hset3.next b30) hlt;have k440:CellIs (w3.alloc (.cells #[.int .u64 0,.int .u64 0] 360)) ⟨j,4,none⟩ (.slice (some ⟨sb,so,none⟩) l.length cs):=(hB3.next b30).cell 4
   have k540:CellIs (w3.alloc (.cells #[.int .u64 0,.int .u64 0] 360)) ⟨j,5,none⟩ (.slice ad L.length cd):=(hB3.next b30).cell 5;simp -implicitDefEqProofs [go_sem];refine ⟨.inr ⟨kS40,k540,k440⟩,?_⟩;have hBz:=Blk.new w3 #[.int .u64 0,.int .u64 0] 360;refine callE_of (hwr _ b30) ?_;rintro v w4 ⟨V4,G4,o4,ch4,value,place,e,rfl,h4,t4,hs4,hw64,hS4,hcase⟩;refine ⟨.inr (by simp),?_⟩;have nG:¬ G w3.heap.size:=fun hG=>by have:=h3.lt _ hG;omega
   have hBz4:=hBz.mod t4.mod nG;have nB:¬ G4 w3.heap.size:=out_turn nG hBz.lt t4;have stP:=stAll (P:=Tryz.prog) (ty:=360) (cs:=#[.int .u64 (uv value),.int .u64 (uv place)]) hBz4 pastI rfl (past_one _ _);simp -implicitDefEqProofs [go_sem,↓stP];have hBw:=hBz4.row #[.int .u64 (uv value),.int .u64 (uv place)];have t5:=turn_row (C:=#[.int .u64 (uv value),.int .u64 (uv place)]) ((Turn.of b30).trans t4) (Nat.le_refl _)
   have h5:=sys_row (C:=#[.int .u64 (uv value),.int .u64 (uv place)]) h4 nB (fun e=>by have:=h3.tabs.lt;omega);have hBge:w3.heap.size≤w3.heap.size:=Nat.le_refl _;generalize World.setRow w4 _ _=w5 at *;have hBl:w3.heap.size<w5.heap.size:=hBw.lt;clear kS40 k540 k440 stP hBz hBz4
  all_goals
   have hj5:=hB3.mod t5.mod hJ.jG;have hjG5:=out_turn hJ.jG hB3.lt t5;have hx5:=hx3.mod t5.mod hxG;have hxG5:=out_turn hxG hx3.lt t5;have hset5:=hset3.mod t5.mod (fun k ⟨y,hy,hk⟩=>by rw [← hk];exact (hJ.sq y hy).2.1);have hrow5:=ownsRow_turn hrow3 t5.mod (fun k ⟨y,hy,hk⟩=>by rw [← hk];exact (hJ.sd y hy).2.1);have hbel3:=bel3.size;have sqw:∀ y,(some ⟨sb,so,none⟩:Option Addr)=some y→y.block<w5.heap.size∧¬ G4 y.block∧y.block≠j:=fun y hy=>by
    have h1:=hJ.sq y hy;exact ⟨by have:=t5.size;omega,out_turn h1.2.1 (by omega) t5,h1.2.2⟩
   have sdw:∀ y,ad=some y→y.block<w5.heap.size∧¬ G4 y.block∧y.block≠j∧(∀ z,(some ⟨sb,so,none⟩:Option Addr)=some z→z.block≠y.block)∧y.block≠x∧1≠y.block:=fun y hy=>by
    have h1:=hJ.sd y hy;exact ⟨by have:=t5.size;omega,out_turn h1.2.1 (by omega) t5,h1.2.2⟩
   have key:(e=0∧Hs I0 ch0 (⟨l[L.length].key,value,place⟩::L.reverse) (itemsO o4) ch4∧(∀ i (h:i<l.length),L.length+1≤i→∀ k∈(tlC ch4 (valI (itemsO o4) (nibs l[i].key))).1,k.stamp.toNat<st.toNat) ∧
     ((place=0#64∧l[L.length].gone=true)∨∃ off r,Stp (itemsO o) (itemsO o4) ch ch4 ⟨l[L.length].key,value,place⟩ off r∧r.stamp=st∧r.gone=l[L.length].gone∧r.text=l[L.length].text)) ∨
     (e=6∧o4=o∧ch4=ch∧∃ V1 L1,Grew m V V1 L1∧L1.length≤5∧Many m V1 m):=by
    rcases hcase with ⟨rfl,hp0,rfl,rfl,-,hgone⟩|⟨rfl,off,r,hSt,hr1,hr2,hr3⟩|⟨rfl,ho,hch,V1,L1,hG1,hL1,hM1⟩
    ·exact .inl ⟨rfl,.inl ⟨hp0,hS.his⟩,fun i hi hle=>hS.fresh i hi (by omega),.inl ⟨hp0,hgone⟩⟩
    ·refine .inl ⟨rfl,.inr ⟨_,_,off,r,hSt,hS.his⟩,fun i hi hle k hk=>?_,.inr ⟨off,r,hSt,hr1,hr2,hr3⟩⟩;have h1:=(hSt.other (k:=nibs l[i].key) (hl.apart (show L.length<i by omega) hi).symm).2;rw [h1] at hk;exact hS.fresh i hi (by omega) k hk
    ·exact .inr ⟨rfl,ho,hch,V1,L1,hG1,hL1,hM1⟩
   clear hcase hwr
   rcases key with ⟨rfl,hHs,hfr,hfin⟩|⟨rfl,rfl,rfl,hmany⟩
  case' refine_1.inr =>
   simp -implicitDefEqProofs [go_sem]
  case' refine_2.inr =>
   simp -implicitDefEqProofs [go_sem]
  case' refine_1.inl =>
   simp -implicitDefEqProofs [go_sem]
  case' refine_2.inl =>
   simp -implicitDefEqProofs [go_sem]
  case' refine_1.inr|refine_2.inr =>
   have hsL:(L.map PastV.cs).length=L.length:=by simp
   have hss:SepA w5 G4 (some ⟨sb,so,none⟩):=fun y hy=>⟨(sqw y hy).1,(sqw y hy).2.1⟩
   have hds:SepA w5 G4 ad:=fun y hy=>⟨(sdw y hy).1,(sdw y hy).2.1⟩
   have hdn:=owns_rin (past_size L) hsL hrow5;refine callE_of (fail_calls 6 w5 h5 hm (by omega) hx5 hxG5 hj5 hjG5 hset5 hss hS.le hl16 hl.right hS.key hdn hds (owns_form hrow5) hJ.sz hS4 hS.his) ?_;rintro v w6 ⟨rfl,V6,o6,G6,h6,hS6,hI6,hj6,t6,hs6,hw66⟩;simp -implicitDefEqProofs [go_sem];refine body_tmp2 2 3 rfl ?_;simp -implicitDefEqProofs [go_sem];refine ⟨true,6,V6,G6,o6,none,rfl,h6,⟨?_,fun k hk=>?_⟩,by omega,.inr (.inr ⟨rfl,rfl,hlt,hS6,hI6,hw66.trans hw64,hmany⟩)⟩
   ·refine (((Mod.of (F:=CF G j ad) bel3).trans (t5.mod.mono (G:=CF G j ad) fun k hk _=>.inl hk) fun k hk _=>hk).trans t6.mod fun k hk hlt2=>?_)
    rcases hk with hk|hk
    ·rcases t5.new k hk with h1|h1
     ·exact .inl h1
     ·omega
    ·exact .inr (.inl hk)
   ·rcases hk with hk|rfl|⟨y,hy,_⟩
    ·rcases t6.new k (.inl hk) with (h1|h1)|h1
     ·rcases t5.new k h1 with h2|h2
      ·exact .inl (.inl h2)
      ·exact .inr (by omega)
     ·exact .inl (.inr (.inl h1))
     ·exact .inr (by have:=t5.size;omega)
    ·exact .inl (.inr (.inl rfl))
    ·cases hy
  case' refine_1.inl|refine_2.inl =>
   refine drawE_mix [.pure 0,.pure 1,.pure 2,.pure 3,.take 4,.run 5 [4],.run 6 [4],.run 7 [],.pure 8,.pure 9,.run 10 []] mixed (by decide +kernel) (by simp only [wo];rfl) ?_;have bd6:=(Below.refl w5.heap.size w5).drew;generalize World.drew w5=w6 at *;have hBw6:=hBw.next bd6
   have hj6:=hj5.next bd6
   have hrow6:=ownsRow_next hrow5 bd6;have hset6:=hset5.next bd6
   have h6:=h5.next bd6
   have hx6:=hx5.next bd6
   have sz6:=bd6.size;obtain ⟨q,hq⟩:∃ q:PastV,q=⟨l[L.length].key,value,place⟩:=⟨_,rfl⟩;have hqc:q.cs=#[.int .u64 (uv value),.int .u64 (uv place)]:=by rw [hq];rfl
   have hql:(L++[q]).length=L.length+1:=by simp
   have ldP:=ldAll (P:=Tryz.prog) hBw6 Tryz.underlying360 rfl pastI (n:=2) rfl;obtain ⟨g,c7,w7,hr7,hrow7,hg1,hg2,hsz7,t7⟩:=push_own (P:=Tryz.prog) (t:=171) (ty:=171) (cs:=#[.int .u64 (uv value),.int .u64 (uv place)]) Tryz.underlying171 pastE (by decide) rfl (past_one _ _) (by decide) (by omega) (Nat.zero_le _) hrow6;have b6a:=(Below.refl w6.heap.size w6).alloc (Nat.le_refl _) (.cells #[.int .u64 (uv value),.int .u64 (uv place)] 360)
   have k6:CellIs w6 ⟨j,5,none⟩ (.slice ad L.length cd):=hj6.cell 5;have k6a:CellIs (w6.alloc (.cells #[.int .u64 (uv value),.int .u64 (uv place)] 360)) ⟨j,5,none⟩ (.slice ad L.length cd):=(hj6.next b6a).cell 5;have hnj:¬ BlkOf ad j:=fun ⟨y,hy,hk⟩=>(sdw y hy).2.2.1 hk
   have hj7:=hj6.mod t7.mod hnj;have f7:=hj7.thaw 5;simp -implicitDefEqProofs [go_sem];refine onTake_of (fun w'=>CellIs w' ⟨j,5,none⟩ (.slice ad L.length cd)) (.slice ad L.length cd) k6 (fun w' hw=>by
    have hw:w'.cell? ⟨j,5,none⟩=_:=hw;simp -implicitDefEqProofs [go_sem,hw]) ?_
   simp -implicitDefEqProofs [go_sem,↓ldP];refine ⟨.inr k6a,?_⟩;have c75:w7.cell? ⟨j,5,none⟩=some (.slice ad L.length cd):=hj7.cell 5;simp -implicitDefEqProofs [go_sem,hr7,f7,c75];have hgd:(∃ y,ad=some y∧y.block=g)∨w6.heap.size≤g:=t7.new g rfl;have hgj:g≠j:=by
    rcases hgd with ⟨y,hy,rfl⟩|h1
    ·exact (sdw y hy).2.2.1
    ·have:=hj6.lt;omega
   have m8:Mod (fun k=>k=j) w7 (w7.setCell ⟨j,5,none⟩ (.slice (some ⟨g,0,none⟩) (L.length+1) c7)):=(Mod.refl (fun k=>k=j) w7).setCell (a:=⟨j,5,none⟩) (.inl rfl) _;have hj8:=hj7.set 5 (.slice (some ⟨g,0,none⟩) (L.length+1) c7)
   have e8:(cjC p b x st (.slice (some ⟨sb,so,none⟩) l.length cs) (.slice ad L.length cd) false 0).setIfInBounds 5 (.slice (some ⟨g,0,none⟩) (L.length+1) c7)=cjC p b x st (.slice (some ⟨sb,so,none⟩) l.length cs) (.slice (some ⟨g,0,none⟩) (L++[q]).length c7) false 0:=by rw [hql];rfl
   rw [e8] at hj8;have M8:Mod (CF G j ad) w1 (w7.setCell ⟨j,5,none⟩ (.slice (some ⟨g,0,none⟩) (L.length+1) c7)):=((((Mod.of (F:=CF G j ad) bel3).trans (t5.mod.mono (G:=CF G j ad) fun k hk _=>.inl hk) fun k hk _=>hk).trans (Mod.of (F:=CF G j ad) bd6) fun k hk _=>hk).trans (t7.mod.mono (G:=CF G j ad) fun k hk _=>.inr (.inr hk)) fun k hk _=>hk).setCell (a:=⟨j,5,none⟩) (.inl (.inr (.inl rfl))) _;have hGBlk:∀ k,G4 k→¬ BlkOf ad k:=fun k hk ⟨y,hy,hb⟩=>(sdw y hy).2.1 (by rw [hb];exact hk)
   have hs7:=h6.mod t7.mod hGBlk (fun ⟨y,hy,hb⟩=>(sdw y hy).2.2.2.2.2 hb.symm);have hs8:=hs7.mod m8 (fun k hk e=>hjG5 (by rw [← e];exact hk)) hJ.sz;have hsz8:=m8.size;have hset7:=hset6.mod t7.mod (fun k ⟨z,hz,hk⟩ ⟨y,hy,hb⟩=>(sdw y hy).2.2.2.1 z hz (by rw [hk,hb]));have hset8:=hset7.mod m8 (fun k ⟨z,hz,hk⟩ e=>(sqw z hz).2.2 (by rw [hk,e]));have hrow8:=ownsRow_turn hrow7 m8 (fun k ⟨z,hz,hk⟩ e=>by
    obtain rfl:=Option.some.inj hz;exact hgj (by rw [← e,← hk]))
   have hfl:flatR (L.map PastV.cs)++(#[.int .u64 (uv value),.int .u64 (uv place)]:Array Value).toList=flatR ((L++[q]).map PastV.cs):=by
    rw [List.map_append,flatR_append,List.map_cons,List.map_nil,flatR_one,hqc]
   rw [hfl,← hql] at hrow8;have hw8:w7.setCell ⟨j,5,none⟩ (.slice (some ⟨g,0,none⟩) (L.length+1) c7)=w7.setCell ⟨j,5,none⟩ (.slice (some ⟨g,0,none⟩) (L++[q]).length c7):=by rw [hql]
   have hxlt:=hx6.lt;have htlt:=h6.tabs.lt;refine body_tmp2 2 3 rfl ?_;simp -implicitDefEqProofs [go_sem];refine ⟨false,0,V4,G4,o4,some ⟨g,0,none⟩,rfl,hs8,⟨M8,fun k hk=>?_⟩,by omega,.inl ⟨rfl,rfl,q,ch4,c7,hlt,⟨hj8,hjG5,hset8,by rw [hw8];exact hrow8,fun y hy=>?_,fun y hy=>?_,hJ.sz⟩,⟨hS4,?_,by rw [hql];omega,fun i hi=>?_,fun i hi hle=>hfr i hi (by rw [hql] at hle;exact hle)⟩,hw64,fun y hy=>?_,?_⟩⟩
   ·rcases hk with hk|rfl|⟨y,hy,hk⟩
    ·rcases t5.new k hk with h1|h1
     ·exact .inl (.inl h1)
     ·exact .inr (by omega)
    ·exact .inl (.inr (.inl rfl))
    ·obtain rfl:=Option.some.inj hy;have hk:g=k:=hk;subst hk
     rcases hgd with h1|h1
     ·exact .inl (.inr (.inr h1))
     ·exact .inr (by have:=t5.size;omega)
   ·have h1:=sqw y hy;exact ⟨by omega,h1.2⟩
   ·obtain rfl:=Option.some.inj hy;refine ⟨by show g<_;omega,?_,hgj,fun z hz=>?_,?_,?_⟩
    ·intro hG
     rcases hgd with ⟨y,hy,hb⟩|h1
     ·exact (sdw y hy).2.1 (by rw [hb];exact hG)
     ·have:=h6.lt _ hG;have h2:g<w6.heap.size:=this;omega
    ·show z.block≠g
     rcases hgd with ⟨y,hy,hb⟩|h1
     ·rw [← hb];exact (sdw y hy).2.2.2.1 z hz
     ·have:=(sqw z hz).1;omega
    ·show g≠x
     rcases hgd with ⟨y,hy,hb⟩|h1
     ·rw [← hb];exact (sdw y hy).2.2.2.2.1
     ·omega
    ·show _≠g
     rcases hgd with ⟨y,hy,hb⟩|h1
     ·rw [← hb];exact (sdw y hy).2.2.2.2.2
     ·omega
   ·rw [List.reverse_append,hq];exact hHs
   ·rw [hql] at hi;by_cases e:i<L.length
    ·rw [List.getElem_append_left e];exact hS.key i e
    ·obtain rfl:i=L.length:=by omega
     rw [List.getElem_append_right (Nat.le_refl _)];simp [hq]
   ·obtain rfl:=Option.some.inj hy
    rcases hgd with h1|h1
    ·exact .inl h1
    ·exact .inr (by show _≤g;have:=t5.size;omega)
   ·rcases hfin with h1|⟨off,r,h1,h2⟩
    ·exact .inl (by rw [hq];exact h1)
    ·exact .inr ⟨off,r,by rw [hq];exact h1,by rw [hq],h2⟩
 ·have hlt':¬ (L.length:Int)<(l.length:Int):=by omega
  have hLe:L.length=l.length:=by omega
  refine drawE_still mixed (by decide +kernel) ?_;simp -implicitDefEqProofs [go_sem,c5,c4,hlt'];unfold endE;simp -implicitDefEqProofs [go_sem];have bd:=(Below.refl w1.heap.size w1).drew;have hB2:=hJ.blk.next bd
  have h2:=h.next bd
  generalize World.drew w1=w2 at *;refine drawE_mix [.pure 0,.pure 1,.pure 2,.pure 4,.pure 5,.pure 6,.take 3,.run 7 [3],.run 8 [],.pure 9] mixed (by decide +kernel) (by simp only [wo];rfl) ?_;have bd3:=(Below.refl w2.heap.size w2).drew;have bel3:Below w1.heap.size w1 (World.drew w2):=bd.drew;generalize World.drew w2=w3 at *;have h3:=h2.next bd3
  have hB3:=hB2.next bd3
  have k0:CellIs w3 ⟨j,0,none⟩ (.pointer (some ⟨p,0,none⟩)):=hB3.cell 0;have c3:w3.cell? ⟨j,3,none⟩=some (.int .u64 (uv st)):=hB3.cell 3;obtain ⟨u1,u2,u3,u4⟩:=hS.sto.slot hm st;have hput:=sysPut_calls st w3 h3 (by omega) (o:=64) (by omega);rw [u1] at hput;simp -implicitDefEqProofs [go_sem];refine onTake_of (fun w'=>CellIs w' ⟨j,0,none⟩ (.pointer (some ⟨p,0,none⟩))) (.pointer (some ⟨p,0,none⟩)) k0 (fun w' hw=>by
   have hw:w'.cell? ⟨j,0,none⟩=_:=hw;simp -implicitDefEqProofs [go_sem,hw]) ?_
  simp -implicitDefEqProofs [go_sem,c3];refine callE_of hput ?_;rintro v w4 ⟨rfl,G4,h4,t4⟩;refine ⟨.inr (by simp),?_⟩;have hj4:=hB3.mod t4.mod hJ.jG;have hjG4:=out_turn hJ.jG hB3.lt t4;have c46:w4.cell? ⟨j,6,none⟩=some (.bool false):=hj4.cell 6;have f46:=hj4.thaw 6;simp -implicitDefEqProofs [go_sem,c46,f46];have m5:Mod (fun k=>k=j) w4 (w4.setCell ⟨j,6,none⟩ (.bool true)):=(Mod.refl (fun k=>k=j) w4).setCell (a:=⟨j,6,none⟩) (.inl rfl) _;have hb3:=bel3.size;refine body_tmp2 2 3 rfl ?_
  simp -implicitDefEqProofs [go_sem];refine ⟨true,0,_,G4,o,none,rfl,h4.mod m5 (fun k hk e=>hjG4 (by rw [← e];exact hk)) hJ.sz,⟨?_,fun k hk=>?_⟩,by dsimp only;omega,.inr (.inl ⟨rfl,rfl,hLe,rfl,u4,u2⟩)⟩
  ·exact ((Mod.of (F:=CF G j ad) bel3).trans (t4.mod.mono (G:=CF G j ad) fun k hk _=>.inl hk) fun k hk _=>hk).setCell (a:=⟨j,6,none⟩) (.inl (.inr (.inl rfl))) _
  ·rcases hk with hk|rfl|⟨y,hy,_⟩
   ·rcases t4.new k hk with h1|h1
    ·exact .inl (.inl h1)
    ·exact .inr (by omega)
   ·exact .inl (.inr (.inl rfl))
   ·cases hy
theorem CJ.next (h:CJ w p b x j G st l L aq ad cs cd)(hb:Below w.heap.size w w'):CJ w' p b x j G st l L aq ad cs cd:=by
 have hs:=hb.size;exact ⟨h.blk.next hb,h.jG,h.set.next hb,ownsRow_next h.done hb,fun y hy=>⟨by have:=(h.sq y hy).1;omega,(h.sq y hy).2⟩,fun y hy=>⟨by have:=(h.sd y hy).1;omega,(h.sd y hy).2⟩,h.sz⟩
end
end
end Go.Proofs.YtaaihijkdhmcdaaGreatDoor
