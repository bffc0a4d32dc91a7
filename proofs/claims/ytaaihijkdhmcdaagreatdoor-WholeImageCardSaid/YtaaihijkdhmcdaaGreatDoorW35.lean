/- WholeImage, part 36 of 41: contracts and lemmas of its proof. Conditions: none. -/
import Derived.Test.YtaaihijkdhmcdaaGreatDoorW34
set_option linter.unusedVariables false
set_option linter.unusedSimpArgs false
set_option maxRecDepth 100000
namespace Go.Proofs.YtaaihijkdhmcdaaGreatDoor
section
open Go Go.RowKit Go.Shelf
open TR
attribute [local go_sem] Oper.semAt_some
def Hs (I0:List TR.Item)(ch0:ChF):List PastV→List TR.Item→ChF→Prop
 | [],I,ch=>I=I0∧ch=ch0
 | p::H,I,ch=>(p.place=0#64∧Hs I0 ch0 H I ch)∨∃ I1 ch1 off r,Stp I1 I ch1 ch p off r∧Hs I0 ch0 H I1 ch1
section
variable {w w':World} {m b p x j t:Nat} {V V':PV} {G G' F:Nat→Prop} {o:Option Tr} {st:BitVec 64} {sv dv:Value} {ov:Bool} {en:Int}
theorem sys_cells (h:Sys w m V b p G):∀ k,G k→∃ C t f,w.heap[k]?=some (.cells C t f):=fun k hk=>by
 obtain ⟨tb,tc,hb,hc,F,hP,rfl⟩:=h.pd
 rcases hk with hk|rfl|rfl|rfl
 ·obtain ⟨lb,S,hD,rfl,_⟩:=hP.dev
  rcases hk with rfl|rfl|⟨i,hi,hk⟩
  ·exact ⟨_,_,_,hD.dev⟩
  ·obtain ⟨C,hC⟩:=hD.lines;exact ⟨_,_,_,hC.blk⟩
  ·rcases (hD.own i hi).2 with ⟨h,_⟩|⟨g,cap,cur,hv,_,hh,_⟩
   ·rw [h] at hk;cases hk
   ·rw [hv] at hk;cases hk;exact ⟨_,_,_,hh⟩
 ·exact ⟨_,_,_,hP.pool.blk⟩
 ·obtain ⟨C,hC,_⟩:=hP.pool.tk;exact ⟨_,_,_,hC⟩
 ·obtain ⟨C,hC,_⟩:=hP.pool.hd;exact ⟨_,_,_,hC⟩
theorem sys_kept {X Y:World}{row:Option Nat}(h:Sys X m V b p G)(hg:X.grownBy Y row)(hr:∀ r,row=some r→∃ o:Obj,X.heap[r]?=some o∧o.isCells=false):Sys Y m V b p G:=by
 refine ⟨h.pd.mod (mod_of_grown hg) (fun k hk e=>?_),fun i hi=>cell_kept (h.tabs i hi) hg hr,h.out⟩;obtain ⟨o,ho,hc⟩:=hr k e;obtain ⟨C,t,f,hC⟩:=sys_cells h k hk;rw [hC] at ho;cases ho;cases hc
theorem sys_keeps {B:Nat}(h:Sys w m V b p G)(ht:Turn w G w' G'):KeepsFrom B w w':=⟨ht.size,fun k o _ hk ho=>by
 refine (ht.mod.block k (Array.getElem?_eq_some_iff.1 hk).1 fun hG=>?_).trans hk;obtain ⟨C,t,f,hC⟩:=sys_cells h k hG;rw [hC] at hk;cases hk;cases ho⟩
structure FailI (m b p t:Nat) (V0:PV) (I0:List TR.Item) (ch0:ChF) (w0:World) (G0:Nat→Prop) (H:List PastV) (i:Nat) (W:World) (V:PV) (o:Option Tr) (ch:ChF) (G:Nat→Prop):Prop where
 sys:Sys W m V b p G
 sto:Sto m V o ch [] t
 his:Hs I0 ch0 (H.drop i) (itemsO o) ch
 turn:Turn w0 G0 W G
 steps:V.D.steps≤V0.D.steps+3000*i
 slot:V.D.word 64=V0.D.word 64
theorem failI_own {V0:PV}{I0:List TR.Item}{ch0:ChF}{w0:World}{G0:Nat→Prop}{H:List PastV}:OwnFrom w0.heap.size (fun i W=>∃ V o ch G,FailI m b p t V0 I0 ch0 w0 G0 H i W V o ch G):=fun i X Y row ⟨V,o,ch,G,h⟩ hg hr =>
 ⟨V,o,ch,G,sys_kept h.sys hg (fun r e=>(hr r e).2),h.sto,h.his,⟨h.turn.mod.grown hg (fun k e=>.inr (hr k e).1),h.turn.new⟩,h.steps,h.slot⟩
def FailP (m b p x j t:Nat)(V0:PV)(I0:List TR.Item)(ch0:ChF)(w0:World)(G0:Nat→Prop)(st:BitVec 64)(sv dv:Value)(e:Int)(w':World):Prop :=
 ∃ V o G,Sys w' m V b p G∧Sto m V o ch0 [] t∧itemsO o=I0∧Blk w' j (cjC p b x st sv dv true e) 173∧Turn w0 (fun k=>G0 k∨k=j) w' (fun k=>G k∨k=j)∧V.D.steps≤V0.D.steps+60000∧V.D.word 64=V0.D.word 64
theorem fits_arr {n:Nat}{L:List Value}{a:Act}(r:Nat)(hn:L.length+r=n)(h:a={ tmps:=L.toArray++Array.replicate r undef,defers:=[] }):Fits n (argsE L 0 fun _=>undef) a:=by
 subst h;subst hn;exact fits_args L r
def endsE (B:Nat)(J:World→Prop)(W:World):Exit→Env→World→Prop
 | .normal,_,W'=>KeepsFrom B W W'∧J W'
 | _,_,_=>False
theorem endsE_of {B:Nat}{J:World→Prop}{W W':World}{e:Env}{t:Tag (endsE B J W,Exit.normal)}(h:KeepsFrom B W W'∧J W'):goE (endsE B J W) .normal t e W':=h
set_option maxHeartbeats 4000000 in
theorem fail_in {aq ad:Option Addr}{cs cd:Nat}{l:List WrV}{L:List PastV}{I0:List TR.Item}{ch ch0:ChF}(n:Nat)(hn:6≤n)(e:Int)(w0:World)(h:Sys w0 m V b p G)(hm:m=6∨m=24)(hst:V.D.steps+3300000<1099511627776)(hx:Blk w0 x (IxC p b) 178)(hxG:¬ G x)
  (hj:Blk w0 j (cjC p b x st (.slice aq l.length cs) (.slice ad L.length cd) ov en) 173) (hjG:¬ G j) (hset:RIn w0 3 aq (l.map WrV.cs) cs) (hss:SepA w0 G aq) (hl:L.length≤l.length) (hl16:l.length≤16) (hright:∀ y∈l,y.right)
  (hkey:∀ i (h:i<L.length),L[i].key=(l[i]'(by omega)).key) (hdone:RIn w0 2 ad (L.map PastV.cs) cd) (hds:SepA w0 G ad) (hdf:∀ y,ad=some y→∃ g,y=⟨g,0,none⟩) (hjt:1≠j) (hS:Sto m V o ch [] t) (hH:Hs I0 ch0 L.reverse (itemsO o) ch) :
  CallsIn Fence.wide n Tryz.prog 250 #[.pointer (some ⟨j,0,none⟩),.int .i64 e] w0 fun ev w'=>ev=.returned (.int .i64 e)∧FailP m b p x j t V I0 ch0 w0 G st (.slice aq l.length cs) (.slice ad L.length cd) e w':=by
 have h1:1≤n:=by omega
 have hj5:w0.cell? ⟨j,5,none⟩=some (.slice ad L.length cd):=hj.cell 5;refine callsIn_of_wp_marks Tryz.func250 rfl trivial ?_ rfl;simp only [Tryz.ntmps250,List.size_toArray,List.length_cons,List.length_nil,Nat.reduceAdd,Nat.reduceSub,Array.replicate_succ,Array.replicate_zero,List.push_toArray,List.append_toArray,List.nil_append,List.cons_append];have hjlt:=hj.lt
 gi_wp2_with (refine ⟨trivial,?_⟩;gi_at_call 253;refine (callsIn_wide.2 (backward_calls ad L.length cd _)).mono ?_;rintro e w' ⟨v,rfl,rfl,rfl⟩)
 have bJ:=(Boxed.new w0 111 (.pointer (some ⟨j,0,none⟩))).alloc (.cells #[.slice ad L.length cd] 171);have bL:=Boxed.new (w0.alloc (.cells #[.pointer (some ⟨j,0,none⟩)] 111)) 171 (.slice ad L.length cd);simp only [World.size_alloc] at bL;have hB0:Below w0.heap.size w0 ((w0.alloc (.cells #[.pointer (some ⟨j,0,none⟩)] 111)).alloc (.cells #[.slice ad L.length cd] 171)):=((Below.refl _ w0).alloc (Nat.le_refl _) _).alloc (by simp) _
 have hsz:((w0.alloc (.cells #[.pointer (some ⟨j,0,none⟩)] 111)).alloc (.cells #[.slice ad L.length cd] 171)).heap.size=w0.heap.size+2:=by simp
 try simp only [World.size_alloc]
 obtain ⟨W0,hW0⟩:∃ W0,((w0.alloc (.cells #[.pointer (some ⟨j,0,none⟩)] 111)).alloc (.cells #[.slice ad L.length cd] 171))=W0:=⟨_,rfl⟩;rw [hW0] at bJ bL hB0 hsz ⊢;clear hW0;have hx0:=hx.next hB0
 have hj0:=hj.next hB0
 have hset0:=hset.next hB0
 have hdone0:=hdone.next hB0
 have hss0:=hss.next hB0
 have hds0:=hds.next hB0
 have hGlt:=h.lt;have nG0:¬ G w0.heap.size:=fun hG=>by have:=hGlt _ hG;omega
 have nG1:¬ G (w0.heap.size+1):=fun hG=>by have:=hGlt _ hG;omega
 have keep:∀ {W:World} {G':Nat→Prop} {B:Nat} {ty:TypeId} {v:Value},Turn W0 G W G'→¬ G B→Boxed W0 B ty v→Boxed W B ty v:=fun ht hn hb=>(ht.mod.block _ hb.lt hn).trans hb
 refine range_in_order rfl h1 (gf:=256) (lb:=#[.pointer (some ⟨w0.heap.size+1,0,none⟩)]) rfl trivial (enters_of Tryz.func256 (by kernel_rfl) rfl) (N:=L.length) (fun _=>rfl)
  (fun i W=>∃ V' o' ch' G',FailI m b p t V I0 ch0 W0 G L.reverse i W V' o' ch' G') failI_own ⟨V,o,ch,G,h.next hB0,hS,by rw [List.drop_zero];exact hH,Turn.refl _ _,by omega,rfl⟩
  (bwd_hands (n-1) (by omega) (w0.heap.size+1) ad cd L (by omega) _ ?hR)
  (fun i a' W=>∃ V' o' ch' G' Bx,FailI m b p t V I0 ch0 W0 G L.reverse i W V' o' ch' G'∧Blk W Bx #[.int .u64 (uv (L.getD (L.length-1-i) ⟨⟨#[]⟩,0#64,0#64⟩).value),.int .u64 (uv (L.getD (L.length-1-i) ⟨⟨#[]⟩,0#64,0#64⟩).place)] 360∧¬ G' Bx∧W0.heap.size≤Bx∧Fits 46 (argsE [.pointer (some ⟨j,0,none⟩),.int .i64 e,.pointer (some ⟨w0.heap.size,0,none⟩),undef,.int .i64 0,.int .i64 ((L.length:Int)-1-i),.pointer (some ⟨Bx,0,none⟩),.pointer (some ⟨j,0,none⟩),.pointer (some ⟨j,0,none⟩),.pointer (some ⟨j,5,none⟩),.slice ad L.length cd,.func (.func 256) #[] #[.pointer (some ⟨w0.heap.size+1,0,none⟩)],.int .i64 ((L.length:Int)-1-i),.agg #[.int .u64 (uv (L.getD (L.length-1-i) ⟨⟨#[]⟩,0#64,0#64⟩).value),.int .u64 (uv (L.getD (L.length-1-i) ⟨⟨#[]⟩,0#64,0#64⟩).place)]] 0 (fun _=>undef)) a')
  ?hA ?assign ?body ?done
 case hR =>
  rintro i W ⟨V',o',ch',G',hI⟩;refine ⟨(keep hI.turn nG1 bL).cell,fun k hk=>?_⟩;obtain ⟨g,off,ha,hc⟩:=(hdone0.turn hds0 hI.turn).get (i:=k) (by simpa using hk);obtain ⟨g',hg'⟩:=hdf _ ha;cases hg';have c0:=hc 0 (by simp [PastV.cs]);have c1:=hc 1 (by simp [PastV.cs]);simp [PastV.cs] at c0 c1;exact ⟨g,ha,c0,c1⟩
 case hA =>
  rintro i a' u X Y row ⟨V',o',ch',G',Bx,hI,hB,hn,hle,ha⟩ hg hr;refine ⟨V',o',ch',G',Bx,⟨sys_kept hI.sys hg (fun r e=>(hr r e).2),hI.sto,hI.his,⟨hI.turn.mod.grown hg (fun k e=>.inr (hr k e).1),hI.turn.new⟩,hI.steps,hI.slot⟩,?_,hn,hle,ha⟩;exact (hg.block Bx hB.lt (fun e'=>by obtain ⟨ob,ho,hc⟩:=(hr Bx e'.symm).2;rw [show X.heap[Bx]?=_ from hB] at ho;cases ho;cases hc)).trans hB
 case assign =>
  rintro l' i W K hi ⟨V',o',ch',G',hI⟩ hK;dsimp only [encB]
  gi_wp2
  have bA:=(Below.refl W.heap.size W).alloc (Nat.le_refl _) (.cells #[.int .u64 (uv (L.getD (L.length-1-i) ⟨⟨#[]⟩,0#64,0#64⟩).value),.int .u64 (uv (L.getD (L.length-1-i) ⟨⟨#[]⟩,0#64,0#64⟩).place)] 360);refine hK _ _ ((KeepsOthers.alloc _ _).from _) ⟨V',o',ch',G',W.heap.size,⟨hI.sys.next bA,hI.sto,hI.his,hI.turn.trans (Turn.of bA),hI.steps,hI.slot⟩,Blk.new W _ _,fun hG=>by have:=hI.sys.lt _ hG;omega,hI.turn.size,?_⟩;refine fits_arr 32 rfl ?_
  simp only [Array.replicate_succ,Array.replicate_zero,List.push_toArray,List.append_toArray,List.nil_append,List.cons_append];rfl
 case body =>
  rintro l' i a' W hle0 hi ⟨V',o',ch',G',Bx,hI,hB,hnB,hBle,hfa⟩;obtain ⟨k,hk⟩:∃ k,k=L.length-1-i:=⟨_,rfl⟩;have hkL:k<L.length:=by omega
  have hgd:L.getD k ⟨⟨#[]⟩,0#64,0#64⟩=L[k]:=by rw [List.getD,List.getElem?_eq_getElem hkL];rfl
  have hcast:(L.length:Int)-1-i=(k:Int):=by omega
  have hdr:L.reverse.drop i=L[k]::L.reverse.drop (i+1):=by
   rw [List.drop_eq_getElem_cons (by simpa using hi),List.getElem_reverse]
   congr 2
   omega
  have hhis:=hI.his;rw [hdr] at hhis;rw [← hk,hgd] at hB;rw [← hk,hgd,hcast] at hfa;obtain ⟨q,hq⟩:∃ q,q=L[k]:=⟨_,rfl⟩;have hqk:=hkey k hkL;rw [← hq] at hB hhis hqk hfa;have hkl:k<l.length:=by omega
  have hrt:=hright _ (List.getElem_mem hkl);have cJ:=(keep hI.turn nG0 bJ).cell;have cX0:=hB.cell 0;have cX1:=hB.cell 1;have hjW:=hj0.mod hI.turn.mod hjG;have j1:W.cell? ⟨j,1,none⟩=some (.pointer (some ⟨b,0,none⟩)):=hjW.cell 1;have j4:W.cell? ⟨j,4,none⟩=some (.slice aq l.length cs):=hjW.cell 4;have hsetW:=hset0.turn hss0 hI.turn;have hxW:=hx0.mod hI.turn.mod hxG;have hxGW:=out_turn hxG hx0.lt hI.turn;have hjGW:=out_turn hjG hj0.lt hI.turn;have nGW:=out_turn nG0 bJ.lt hI.turn
  clear hk hgd hdr hq;have hkl':(k:Int)<(l.length:Int):=by omega
  have hk0:(0:Int)≤(k:Int):=by omega
  refine wpJ_sound (endsE W0.heap.size (fun W=>∃ V' o' ch' G',FailI m b p t V I0 ch0 W0 G L.reverse (i+1) W V' o' ch' G') W) (by kernel_rfl) hfa (fun x e a w _ h=>by cases x<;>exact h) ?_;by_cases hz:q.place=0#64
  ·have hzb:(q.place==0#64)=true:=by simpa using hz
   simp -implicitDefEqProofs [go_sem,cX1,hzb];have hh:Hs I0 ch0 (L.reverse.drop (i+1)) (itemsO o') ch':=by
    rcases hhis with h|⟨_,_,_,_,h,_⟩
    ·exact h.2
    ·exact absurd hz h.ne
   exact endsE_of ⟨⟨Nat.le_refl _,fun _ _ _ h _=>h⟩,V',o',ch',G',hI.sys,hI.sto,hh,hI.turn,by have:=hI.steps;omega,hI.slot⟩
  ·have hzb:(q.place==0#64)=false:=by simpa using hz
   obtain ⟨I1,ch1,off,r,hSt,hH1⟩:=hhis.resolve_left fun h=>hz h.1
   obtain ⟨sb,so,hsa,hsc⟩:=hsetW.get (i:=k) (by simpa using hkl);have s0:=hsc 0 (by simp [WrV.cs]);simp [WrV.cs] at s0;subst hsa;have hmix:Tryz.prog.follows .mixedOrders=true:=by kernel_rfl
   have hval:valI (itemsO o') (nibs l[k].key)=q.place:=by
    rw [← hqk];refine valI_mem hI.sto.own.keys ?_;obtain ⟨A,B,e1,e2⟩:=hSt.chg;rw [e2,own_pos _ hSt.ne];simp
   have hstW:=hI.steps;simp -implicitDefEqProofs [go_sem,cX1,hzb];refine drawJ_mix [.pure 5,.pure 9,.take 0,.take 1,.pure 2,.pure 3,.take 4,.pure 6,.pure 7,.take 8,.run 10 [0,1,4,8],.run 11 [],.pure 12] mixed (by decide +kernel) (by simp only [withOps,MStep.num,List.filterMap_cons,List.filterMap_nil,List.getElem?_cons_succ,List.getElem?_cons_zero,Option.map_some];rfl) ?_;have bd:=(Below.refl W.heap.size W).drew;have sysD:=hI.sys.next bd
   have cJd:(World.drew W).cell? ⟨w0.heap.size,0,none⟩=some (.pointer (some ⟨j,0,none⟩)):=cJ;have j4d:(World.drew W).cell? ⟨j,4,none⟩=some (.slice (some ⟨sb,so,none⟩) l.length cs):=j4;have s0d:(World.drew W).cell? ⟨sb,so+k*3,none⟩=some (.string l[k].key):=s0;have cX0d:(World.drew W).cell? ⟨Bx,0,none⟩=some (.int .u64 (uv q.value)):=cX0;have hBd:=hB.next bd
   have hxd:=hxW.next bd
   have hjd:=hjW.next bd
   have tD:=hI.turn.trans (Turn.of bd);have bdW:=bd;generalize World.drew W=Wd at *;simp -implicitDefEqProofs [go_sem];refine onTake_of (fun w'=>w'.cell? ⟨w0.heap.size,0,none⟩=some (.pointer (some ⟨j,0,none⟩))) (.pointer (some ⟨j,0,none⟩)) cJd (fun w' hw=>by simp -implicitDefEqProofs [go_sem,hw]) ?_;simp -implicitDefEqProofs [go_sem]
   refine onTake_of (fun w'=>w'.cell? ⟨w0.heap.size,0,none⟩=some (.pointer (some ⟨j,0,none⟩))) (.pointer (some ⟨j,0,none⟩)) cJd (fun w' hw=>by simp -implicitDefEqProofs [go_sem,hw]) ?_;simp -implicitDefEqProofs [go_sem];refine onTake_of (fun w'=>w'.cell? ⟨j,4,none⟩=some (.slice (some ⟨sb,so,none⟩) l.length cs)) (.slice (some ⟨sb,so,none⟩) l.length cs) j4d (fun w' hw=>by simp -implicitDefEqProofs [go_sem,hw]) ?_;simp -implicitDefEqProofs [go_sem,hkl,hkl']
   refine onTake_of (fun w'=>w'.cell? ⟨sb,so+k*3,none⟩=some (.string l[k].key)) (.string l[k].key) s0d (fun w' hw=>by simp -implicitDefEqProofs [go_sem,hw]) ?_;simp -implicitDefEqProofs [go_sem,cX0d];refine callE_of (undo_calls l[k].key q.value Wd sysD hm (by omega) hxd hxGW hjd hrt.1 hI.sto.own (by rw [hval];exact hSt.ne)) ?_;rintro v w1 ⟨V1,G1,o1,rfl,h1s,t1,s1,hs1,hO1,hc1⟩;refine ⟨.inr (by simp),?_⟩;have hB1:=hBd.mod t1.mod hnB
   have cX11:w1.cell? ⟨Bx,1,none⟩=some (.int .u64 (uv q.place)):=hB1.cell 1;have hj1:=hjd.mod t1.mod hjGW;have j11:w1.cell? ⟨j,1,none⟩=some (.pointer (some ⟨b,0,none⟩)):=hj1.cell 1;have t01:=tD.trans t1;have cJ1:=(keep t01 nG0 bJ).cell;have z4:=hSt.small;have e1:=(name_int z4).1;rw [← hSt.name] at e1;simp -implicitDefEqProofs [go_sem]
   refine drawJ_mix [.pure 4,.take 0,.pure 1,.pure 2,.take 3,.run 5 [0,3],.run 6 [0,3],.run 7 []] mixed (by decide +kernel) (by simp only [withOps,MStep.num,List.filterMap_cons,List.filterMap_nil,List.getElem?_cons_succ,List.getElem?_cons_zero,Option.map_some];rfl) ?_;have bd2:=(Below.refl w1.heap.size w1).drew;have sysE:=h1s.next bd2
   have cJe:(World.drew w1).cell? ⟨w0.heap.size,0,none⟩=some (.pointer (some ⟨j,0,none⟩)):=cJ1;have j1e:(World.drew w1).cell? ⟨j,1,none⟩=some (.pointer (some ⟨b,0,none⟩)):=j11;have cX1e:(World.drew w1).cell? ⟨Bx,1,none⟩=some (.int .u64 (uv q.place)):=cX11;have tE:=t01.trans (Turn.of bd2);have tWE:=(Turn.of (F:=G') bdW).trans (t1.trans (Turn.of bd2));generalize World.drew w1=We at *;have hm10:off∈chL ch' (itemsO o')++[]:=by
    rw [List.append_nil];exact hSt.perm.mem_iff.2 List.mem_cons_self
   have hpos:0<Bk m V1 (off:Int):=(hO1.all off).2 (List.mem_append_right _ hm10);obtain ⟨V12,hdV,hD⟩:=gone_one hO1.rest hm hpos;have hDr:=sysDrop_calls off We sysE hO1.rest.well hm (by omega) z4;rw [hdV] at hDr;simp -implicitDefEqProofs [go_sem];refine onTake_of (fun w'=>w'.cell? ⟨w0.heap.size,0,none⟩=some (.pointer (some ⟨j,0,none⟩))) (.pointer (some ⟨j,0,none⟩)) cJe (fun w' hw=>by simp -implicitDefEqProofs [go_sem,hw]) ?_;simp -implicitDefEqProofs [go_sem]
   refine onTake_of (fun w'=>w'.cell? ⟨j,1,none⟩=some (.pointer (some ⟨b,0,none⟩))) (.pointer (some ⟨b,0,none⟩)) j1e (fun w' hw=>by simp -implicitDefEqProofs [go_sem,hw]) ?_;simp -implicitDefEqProofs [go_sem,cX1e,e1];refine callE_of hDr ?_;rintro v w12 ⟨rfl,G12,h12,t12⟩;refine ⟨.inr (by simp),?_⟩;have hU:=hI.sto.undo hm hSt hO1 s1 (by rw [← hval,hqk];exact hc1) hD;obtain ⟨hI1,hS12⟩:=hU;have hst12:=hD.steps;rw [List.length_singleton] at hst12;simp -implicitDefEqProofs [go_sem]
   have tAll:=tWE.trans t12;refine endsE_of ⟨sys_keeps hI.sys tAll,V12,o1,ch1,G12,h12,hS12,by rw [hI1];exact hH1,hI.turn.trans tAll,by omega,?_⟩;rw [hD.words 64 (by decide) (by have:=sz hm;omega) (.inl (by decide)),s1.head 64 (by decide) (by decide) (by decide)];exact hI.slot
 case done =>
  rintro D2 W hD2 ⟨V',o',ch',G',hI⟩ hK;have cJ:=(keep hI.turn nG0 bJ).cell;have hjW:=hj0.mod hI.turn.mod hjG;have hjGW:=out_turn hjG hj0.lt hI.turn;have f6:=hjW.thaw 6;have f7:=hjW.thaw 7;have c6:W.cell? ⟨j,6,none⟩=some (.bool ov):=hjW.cell 6;have c7:W.cell? ⟨j,7,none⟩=some (.int .i64 en):=hjW.cell 7
  gi_wp2
  gi_region
  gi_wp2
  have hK1:=(KeepsOthers.setCell W ⟨j,6,none⟩ (.bool true)).same D2 _ hK rfl;have hK2:=(KeepsOthers.setCell (W.setCell ⟨j,6,none⟩ (.bool true)) ⟨j,7,none⟩ (.int .i64 e)).same D2 _ hK1 rfl;have hK3:(((W.setCell ⟨j,6,none⟩ (.bool true)).setCell ⟨j,7,none⟩ (.int .i64 e)).drew).heap[D2]?=some (.deferred (some [])):=hK2;refine ⟨by simp,.inl ⟨_,_,rfl,run_takeDeferred hK3,?_⟩⟩;have hhis:=hI.his;rw [List.drop_eq_nil_of_le (by simp)] at hhis;obtain ⟨hIe,rfl⟩:itemsO o'=I0∧ch'=ch0:=hhis
  have M1:Mod (fun k=>G k∨k=j) w0 W:=(Mod.of (F:=fun k=>G k∨k=j) hB0).trans (hI.turn.mod.mono (fun k hk _=>.inl hk)) (fun k hk _=>hk);have mW:Mod (fun k=>k=j) W (((W.setCell ⟨j,6,none⟩ (.bool true)).setCell ⟨j,7,none⟩ (.int .i64 e)).drew):=(((Mod.refl (fun k=>k=j) W).setCell (a:=⟨j,6,none⟩) (.inl rfl) _).setCell (a:=⟨j,7,none⟩) (.inl rfl) _).drew;have M2:=((M1.setCell (a:=⟨j,6,none⟩) (.inl (.inr rfl)) (.bool true)).setCell (a:=⟨j,7,none⟩) (.inl (.inr rfl)) (.int .i64 e)).drew
  have hjd:Blk (((W.setCell ⟨j,6,none⟩ (.bool true)).setCell ⟨j,7,none⟩ (.int .i64 e)).drew) j (cjC p b x st (.slice aq l.length cs) (.slice ad L.length cd) true e) 173:=((hjW.set 6 (.bool true)).set 7 (.int .i64 e)).drew;have hsD:=hI.sys.mod mW (fun k hk e=>hjGW (by rw [← e];exact hk)) hjt;have hB0s:=hB0.size;have hbst:=hI.steps
  refine ⟨_,results_tmp rfl _ _ _,rfl,V',o',G',sys_kept hsD (grownBy_putObj' _ D2 _) (fun r e=>by cases e;exact ⟨_,hK3,rfl⟩),hI.sto,hIe,?_,⟨M2.grown (grownBy_putObj' _ D2 _) (fun k e=>by cases e;exact .inr (by omega)),fun k hk=>?_⟩,by omega,hI.slot⟩
  ·exact ((grownBy_putObj' _ D2 _).block j hjd.lt (fun e'=>by
    have e2:j=D2:=by simpa using e'
    rw [← e2] at hK3;rw [show _=_ from hjd] at hK3;cases hK3)).trans hjd
  ·rcases hk with hk|rfl
   ·rcases hI.turn.new k hk with h1|h1
    ·exact .inl (.inl h1)
    ·exact .inr (by omega)
   ·exact .inl (.inr rfl)
theorem fail_calls {aq ad:Option Addr}{cs cd:Nat}{l:List WrV}{L:List PastV}{I0:List TR.Item}{ch ch0:ChF}(e:Int)(w0:World)(h:Sys w0 m V b p G)(hm:m=6∨m=24)(hst:V.D.steps+3300000<1099511627776)(hx:Blk w0 x (IxC p b) 178)(hxG:¬ G x)
  (hj:Blk w0 j (cjC p b x st (.slice aq l.length cs) (.slice ad L.length cd) ov en) 173) (hjG:¬ G j) (hset:RIn w0 3 aq (l.map WrV.cs) cs) (hss:SepA w0 G aq) (hl:L.length≤l.length) (hl16:l.length≤16) (hright:∀ y∈l,y.right)
  (hkey:∀ i (h:i<L.length),L[i].key=(l[i]'(by omega)).key) (hdone:RIn w0 2 ad (L.map PastV.cs) cd) (hds:SepA w0 G ad) (hdf:∀ y,ad=some y→∃ g,y=⟨g,0,none⟩) (hjt:1≠j) (hS:Sto m V o ch [] t) (hH:Hs I0 ch0 L.reverse (itemsO o) ch) :
  Ret Tryz.prog 250 #[.pointer (some ⟨j,0,none⟩),.int .i64 e] w0 fun v w'=>v=.int .i64 e∧FailP m b p x j t V I0 ch0 w0 G st (.slice aq l.length cs) (.slice ad L.length cd) e w' :=
 (callsIn_wide.1 (fail_in 6 (Nat.le_refl _) e w0 h hm hst hx hxG hj hjG hset hss hl hl16 hright hkey hdone hds hdf hjt hS hH)).mono fun _ _ h=>⟨_,h.1,rfl,h.2⟩
end
end
end Go.Proofs.YtaaihijkdhmcdaaGreatDoor
