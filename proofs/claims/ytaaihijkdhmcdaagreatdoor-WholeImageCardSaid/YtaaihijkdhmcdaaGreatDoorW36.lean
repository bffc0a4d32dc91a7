/- WholeImage, part 37 of 41: contracts and lemmas of its proof. Conditions: none. -/
import Derived.Test.YtaaihijkdhmcdaaGreatDoorW35
import Derived.Test.YtaaihijkdhmcdaaGreatDoorW33
set_option linter.unusedVariables false
set_option linter.unusedSimpArgs false
set_option maxRecDepth 100000
namespace Go.Proofs.YtaaihijkdhmcdaaGreatDoor
section
open Go Go.RowKit
open TR
theorem pastE:EInfo Tryz.prog 360 2 16:=by unfold EInfo;kernel_rfl
theorem past_size (l:List PastV):∀ x∈l.map PastV.cs,x.size=2:=by
 intro x hx;obtain ⟨e,_,rfl⟩:=List.mem_map.1 hx;rfl
theorem kless_no {x y:ByteArray}(h:kless x y=true):Op.bytesLess x.toList y.toList=true:=h
section
variable {w w':World} {m b p x j t cap:Nat} {V V':PV} {G G' F:Nat→Prop} {o:Option Tr} {st:BitVec 64} {a:Option Addr} {l:List WrV}
set_option maxHeartbeats 4000000
theorem cfits_calls (w0:World)(hin:RIn w0 3 a (l.map WrV.cs) cap)(hs:SetOk l):Ret Tryz.prog 79 #[.slice a l.length cap] w0 fun v w'=>v=.bool true∧Below w0.heap.size w0 w':=by
 have bel0:=Below.refl w0.heap.size w0;have hl16:=hs.len;have hn16:¬ (16:Int)<(l.length:Int):=by omega
 refine ret_of (args:=[_]) _ Tryz.func79 rfl Tryz.ntmps79 (by simp) ?_;simp -implicitDefEqProofs [go_sem,hn16];refine wpE_loop (fun e' w'=>∃ k:Nat,k≤l.length∧e' 0=.slice a l.length cap∧e' 8=.slice a l.length cap∧e' 9=.int .i64 (l.length:Int)∧e' 10=.int .i64 (k:Int)∧Below w0.heap.size w0 w') (fun e' _=>l.length-(intOf (e' 10)).toNat) ?_ ?_
 ·refine ⟨0,Nat.zero_le _,?_⟩;simp -implicitDefEqProofs [go_sem];exact bel0
 ·rintro e' w1 ⟨k,hk,g0,g8,g9,g10,bel1⟩;have hin1:=hin.next bel1
  by_cases hlt:k<l.length
  ·have hlt':(k:Int)<(l.length:Int):=by omega
   have i1:=IntWalk.i64_in ((k:Int)+1) (by omega);obtain ⟨ib,io,rfl,hld⟩:=hin1.ld (i:=k) (by simpa using hlt) Tryz.underlying104 rfl wrI;have hcs:(l.map WrV.cs)[k]'(by simpa using hlt)=l[k].cs:=by simp
   rw [hcs] at hld;have hst:=stNew (P:=Tryz.prog) (t:=104) (cs:=l[k].cs) (C0:=#[.string ⟨#[]⟩,.string ⟨#[]⟩,.bool false]) wrI rfl l[k].cs_one;have hk0:l[k].cs[0]?=some (.string l[k].key):=rfl;simp -implicitDefEqProofs [go_sem,g0,g8,g9,g10,hlt,hlt',↓hld,↓hst];generalize hw2:World.alloc w1 _=w2 at *;obtain ⟨hB2,b2,sz2,bel2⟩:=newF hw2 bel1
   refine dMix [.run 0 [],.run 1 [],.pure 2,.pure 3,.pure 4,.pure 5,.pure 6,.pure 7,.pure 8,.pure 9,.pure 10,.pure 11,.pure 13,.take 12,.run 14 [12],.pure 15,.pure 16,.pure 17] mixed ?_;have bd:=(Below.refl w2.heap.size w2).drew;have bel3:Below w0.heap.size w0 (World.drew w2):=bel2.drew;have hin3:=(hin1.next b2).next bd
   have hB3:=hB2.next bd
   generalize World.drew w2=w3 at *;have ldX:=ldAll (P:=Tryz.prog) hB3 Tryz.underlying104 rfl wrI (n:=3) l[k].cs_size;simp -implicitDefEqProofs [go_sem,↓ldX];refine callE_of (wright_calls l[k] w3) ?_;rintro v w4 ⟨r,rfl,hr,b4⟩;obtain rfl:r=true:=hr.2 (hs.right _ (List.getElem_mem hlt));refine ⟨.inr (by simp),?_⟩;have bel4:=btr bel3 b4;have hB4:=hB3.next b4
   have hin4:=hin3.next b4
   cases k with
   | zero =>
    have i2:IntKind.i64.wrap 1=1:=IntWalk.i64_in 1 (by omega);simp -implicitDefEqProofs [go_sem,g0,g10,i2];refine goE_round ⟨1,by omega,?_⟩ ?_
    ·simp -implicitDefEqProofs [go_sem,g0,g8,g9,g10];exact bel4
    ·simp -implicitDefEqProofs [go_sem,g10,intOf];omega
   | succ k =>
    have hpos:(0:Int)<(k:Int)+1:=by omega
    have i2:=IntWalk.i64_in (k:Int) (by omega);have i3:=IntWalk.i64_in ((k:Int)+1) (by omega);have i4:=IntWalk.i64_in ((k:Int)+1+1) (by omega);have hkl:k<l.length:=by omega
    have hkl':(k:Int)<(l.length:Int):=by omega
    have hk0':(0:Int)≤(k:Int):=by omega
    obtain ⟨ib',io',hib,hc⟩:=hin4.get (i:=k) (by simpa using hkl);obtain ⟨rfl,rfl⟩:ib=ib'∧io=io':=by simpa using hib
    have c0:=hc 0 (by simp [WrV.cs]);simp [WrV.cs] at c0;have hless:=kless_no (hs.rise k hlt);simp -implicitDefEqProofs [go_sem,g0,g10,hpos,i2,hkl,hkl',hk0'];refine onTake_of (fun w'=>w'.cell? ⟨ib,io+k*3,none⟩=some (.string l[k].key)) (.string l[k].key) c0 (fun w' hw=>by simp -implicitDefEqProofs [go_sem,hw]) ?_;simp -implicitDefEqProofs [go_sem,hB4.cell,hk0,hless,g10,i4];refine goE_round ⟨k+1+1,by omega,?_⟩ ?_
    ·simp -implicitDefEqProofs [go_sem,g0,g8,g9,g10,i4];exact bel4
    ·simp -implicitDefEqProofs [go_sem,g10,intOf,i4];omega
  ·obtain rfl:k=l.length:=by omega
   simp -implicitDefEqProofs [go_sem,g0,g8,g9,g10];refine body_tmp 2 rfl ?_;simp -implicitDefEqProofs [go_sem];exact bel1
theorem cnone_calls {cs:Array Value}(w0:World)(hj:Blk w0 j cs 173)(h0:cs[0]?=some (.pointer (some ⟨p,0,none⟩))):Ret Tryz.prog 248 #[.pointer (some ⟨j,0,none⟩)] w0 fun v w'=>v=.bool false∧w'=w0:=by
 refine ret_of (args:=[_]) _ Tryz.func248 rfl Tryz.ntmps248 (by simp) ?_;simp -implicitDefEqProofs [go_sem,hj.cell,h0];refine body_tmp 2 rfl ?_;simp -implicitDefEqProofs [go_sem]
def CNewP (p b x:Nat)(st:BitVec 64)(l:List WrV)(w0:World)(v:Value)(w':World):Prop :=
 ∃ j aq cq,v=.tuple #[.pointer (some ⟨j,0,none⟩),.int .i64 0]∧Blk w' j (cjC p b x st (.slice aq l.length cq) (.slice none 0 0) false 0) 173∧RIn w' 3 aq (l.map WrV.cs) cq∧w0.heap.size≤j∧(∀ y,aq=some y→w0.heap.size≤y.block∧y.block<w'.heap.size∧y.block≠j)∧Below w0.heap.size w0 w'
theorem cnew_calls (w0:World)(h:Sys w0 m V b p G)(hr:Rest m V)(hm:m=6∨m=24)(hin:RIn w0 3 a (l.map WrV.cs) cap)(hs:SetOk l)(hlast:(V.D.word 64).toNat<st.toNat)(hst:st.toNat≤60000) :
  Ret Tryz.prog 47 #[.pointer (some ⟨p,0,none⟩),.pointer (some ⟨b,0,none⟩),.pointer (some ⟨x,0,none⟩),.int .u64 (uv st),.slice a l.length cap] w0 fun v w'=>CNewP p b x st l w0 v w':=by
 have bel0:=Below.refl w0.heap.size w0;have zf:=sz hm;have hne:(64*(nL m:Int)==0)=false:=by rw [beq_eq_false_iff_ne];omega
 have hl16:=hs.len;refine ret_of (args:=[_,_,_,_,_]) _ Tryz.func47 rfl Tryz.ntmps47 (by simp) ?_;simp -implicitDefEqProofs [go_sem];refine callE_of (pdSize_calls w0 h.pd hr hm) ?_;rintro v w1 ⟨rfl,rfl⟩;simp -implicitDefEqProofs [go_sem,hne];obtain ⟨tb,tc,hb,hc,F,hP,hG⟩:=h.pd;refine callE_of (loadB 64 w1 hP.dev (by unfold I64;omega)) ?_;rintro v w2 ⟨rfl,rfl⟩;have hl64:V.D.load 64=(V.D.word 64,0):=load_up hr hm (o:=64) (by decide) (by omega);have c1:¬ st≤V.D.word 64:=by rw [BitVec.le_def];omega
 have c2:¬ (60000#64:BitVec 64)<st:=by rw [BitVec.lt_def];show ¬ 60000<st.toNat;omega
 rw [hl64];simp -implicitDefEqProofs [go_sem,c1,c2];refine callE_of (cfits_calls w2 hin hs) ?_;rintro v w3 ⟨rfl,b3⟩;have hin3:=hin.next b3
 simp -implicitDefEqProofs [go_sem];refine callE_of (cloneS_calls w3 hin3 (by omega)) ?_;rintro v w4 ⟨a4,c4,rfl,hrow4,b4⟩;simp -implicitDefEqProofs [go_sem];have bel4:=btr b3 b4;have belX:=bel4;generalize hw5:World.alloc w4 _=w5 at *;obtain ⟨hB5,b5,sz5,bel5⟩:=newF hw5 bel4;have hr4:=owns_rin (wr_size l) (by simp) hrow4;have hblk:=ownsRow_blk hrow4;have hs3:=b3.size;refine body_tmp2 10 11 rfl ?_;simp -implicitDefEqProofs [go_sem]
 exact ⟨w4.heap.size,a4,c4,rfl,hB5,hr4.next b5,by have:=bel4.size;omega,fun y hy=>by have:=hblk _ ⟨y,hy,rfl⟩;omega,bel5⟩
end
structure CJ (w:World) (p b x j:Nat) (G:Nat→Prop) (st:BitVec 64) (l:List WrV) (L:List PastV) (aq ad:Option Addr) (cs cd:Nat):Prop where
 blk:Blk w j (cjC p b x st (.slice aq l.length cs) (.slice ad L.length cd) false 0) 173
 jG:¬ G j
 set:RIn w 3 aq (l.map WrV.cs) cs
 done:w.ownsRow 0 360 2 (.slice ad L.length cd) L.length (flatR (L.map PastV.cs))
 sq:∀ y,aq=some y→y.block<w.heap.size∧¬ G y.block∧y.block≠j
 sd:∀ y,ad=some y→y.block<w.heap.size∧¬ G y.block∧y.block≠j∧(∀ z,aq=some z→z.block≠y.block)∧y.block≠x∧1≠y.block
 sz:1≠j
def CF (G:Nat→Prop)(j:Nat)(ad:Option Addr)(k:Nat):Prop:=G k∨k=j∨BlkOf ad k
structure JSt (m:Nat) (V:PV) (o:Option Tr) (ch:ChF) (I0:List TR.Item) (ch0:ChF) (st:BitVec 64) (l:List WrV) (L:List PastV):Prop where
 sto:Sto m V o ch [] st.toNat
 his:Hs I0 ch0 L.reverse (itemsO o) ch
 le:L.length≤l.length
 key:∀ i (h:i<L.length),L[i].key=(l[i]'(Nat.lt_of_lt_of_le h le)).key
 fresh:∀ i (h:i<l.length),L.length≤i→∀ k∈(tlC ch (valI (itemsO o) (nibs l[i].key))).1,k.stamp.toNat<st.toNat
def CStepP (m:Nat)(V:PV)(b p x j:Nat)(G:Nat→Prop)(o:Option Tr)(ch:ChF)(I0:List TR.Item)(ch0:ChF)(st:BitVec 64)(l:List WrV)(L:List PastV)(aq ad:Option Addr)(cs:Nat)(w0:World)(v:Value)(w':World):Prop :=
 ∃ (over:Bool) (e:Int) (V':PV) (G':Nat→Prop) (o':Option Tr) (ad':Option Addr),v=.tuple #[.bool over,.int .i64 e]∧Sys w' m V' b p G'∧Turn w0 (CF G j ad) w' (CF G' j ad')∧V'.D.steps≤V.D.steps+70000 ∧
  ((over=false∧e=0∧∃ (q:PastV) (ch':ChF) (cd':Nat) (hq:L.length<l.length),CJ w' p b x j G' st l (L++[q]) aq ad' cs cd'∧JSt m V' o' ch' I0 ch0 st l (L++[q])∧V'.D.word 64=V.D.word 64∧(∀ y,ad'=some y→BlkOf ad y.block∨w0.heap.size≤y.block) ∧
    ((q.place=0#64∧l[L.length].gone=true)∨∃ off r,Stp (itemsO o) (itemsO o') ch ch' q off r∧q.key=l[L.length].key∧r.stamp=st∧r.gone=l[L.length].gone∧r.text=l[L.length].text)) ∨
   (over=true∧e=0∧L.length=l.length∧o'=o∧Sto m V' o ch [] st.toNat∧V'.D.word 64=st) ∨
   (over=true∧e=6∧L.length<l.length∧Sto m V' o' ch0 [] st.toNat∧itemsO o'=I0∧V'.D.word 64=V.D.word 64∧∃ V1 L1,Grew m V V1 L1∧L1.length≤5∧Many m V1 m))
section
variable {w w':World} {m b p x j t:Nat} {V V':PV} {G G' F:Nat→Prop} {o:Option Tr} {st:BitVec 64} {l:List WrV} {L:List PastV} {aq ad:Option Addr} {cs cd:Nat} {ch ch0:ChF} {I0:List TR.Item}
set_option maxHeartbeats 4000000
def RowIs (w:World)(g o:Nat)(C:Array Value):Prop:=∀ i (h:i<C.size),w.cell? ⟨g,o+i,none⟩=some C[i]
theorem rowIs_of {sb so:Nat}(h:RIn w 3 (some ⟨sb,so,none⟩) (l.map WrV.cs) cs){k:Nat}(hk:k<l.length):RowIs w sb (so+k*3) l[k].cs:=fun i hi=>by
 obtain ⟨ib,io,hib,hc⟩:=h.get (i:=k) (by simpa using hk);obtain ⟨rfl,rfl⟩:sb=ib∧so=io:=by simpa using hib
 have:=hc i (by simpa using hi);simpa using this
theorem cstep_calls (w0:World)(h:Sys w0 m V b p G)(hm:m=6∨m=24)(hst:V.D.steps+3400000<1099511627776)(hx:Blk w0 x (IxC p b) 178)(hxG:¬ G x)(hJ:CJ w0 p b x j G st l L aq ad cs cd)(hS:JSt m V o ch I0 ch0 st l L)(hl:SetOk l)(h0:st≠0#64) :
  Ret Tryz.prog 247 #[.pointer (some ⟨j,0,none⟩)] w0 fun v w'=>CStepP m V b p x j G o ch I0 ch0 st l L aq ad cs w0 v w':=by
 have bel0:=Below.refl w0.heap.size w0;have hl16:=hl.len;have hLl:=hS.le;have c5:w0.cell? ⟨j,5,none⟩=some (.slice ad L.length cd):=hJ.blk.cell 5;have c4:w0.cell? ⟨j,4,none⟩=some (.slice aq l.length cs):=hJ.blk.cell 4;have c6:w0.cell? ⟨j,6,none⟩=some (.bool false):=hJ.blk.cell 6;refine ret_of (args:=[_]) _ Tryz.func247 rfl Tryz.ntmps247 (by simp) ?_;simp -implicitDefEqProofs [go_sem];refine callE_of (cnone_calls w0 hJ.blk rfl) ?_;rintro v w1 ⟨rfl,rfl⟩;simp -implicitDefEqProofs [go_sem,c6]
 by_cases hlt:L.length<l.length
 ·have hlt':(L.length:Int)<(l.length:Int):=by omega
  have hjlt:=hJ.blk.lt;refine drawE_still mixed (by decide +kernel) ?_;simp -implicitDefEqProofs [go_sem,c5,c4,hlt'];unfold endE;simp -implicitDefEqProofs [go_sem];have bd:=(Below.refl w1.heap.size w1).drew;have hB2:=hJ.blk.next bd
  have hset2:=hJ.set.next bd
  have h2:=h.next bd
  have hx2:=hx.next bd
  have hrow2:=ownsRow_next hJ.done bd;generalize World.drew w1=w2 at *;refine dAlt [.pure 0,.pure 1,.pure 2,.pure 3,.pure 5,.pure 6,.pure 7,.take 4,.take 8,.pure 9,.pure 10,.take 11] 12 [] [.pure 13,.pure 14,.pure 15,.run 16 [4,8,11],.run 17 [],.pure 18] 16 [4,8,11] [.run 12 [],.pure 13,.pure 14,.pure 15,.run 17 [],.pure 18] mixed ?_;have bd3:=(Below.refl w2.heap.size w2).drew;have bel3:Below w1.heap.size w1 (World.drew w2):=bd.drew;generalize World.drew w2=w3 at *;have h3:=h2.next bd3
  have hB3:=hB2.next bd3
  have hset3:=hset2.next bd3
  have hx3:=hx2.next bd3
  have hrow3:=ownsRow_next hrow2 bd3;obtain ⟨sb,so,hsa,hsc⟩:=hset3.get (i:=L.length) (by simpa using hlt);subst hsa;have k4:CellIs w3 ⟨j,4,none⟩ (.slice (some ⟨sb,so,none⟩) l.length cs):=hB3.cell 4;have k5:CellIs w3 ⟨j,5,none⟩ (.slice ad L.length cd):=hB3.cell 5;have kS:RowIs w3 sb (so+L.length*3) l[L.length].cs:=rowIs_of hset3 hlt;simp -implicitDefEqProofs [go_sem]
  refine onTake_of (fun w'=>CellIs w' ⟨j,4,none⟩ (.slice (some ⟨sb,so,none⟩) l.length cs)) (.slice (some ⟨sb,so,none⟩) l.length cs) k4 (fun w' hw=>by
   have hw:w'.cell? ⟨j,4,none⟩=_:=hw;simp -implicitDefEqProofs [go_sem,hw]) ?_
  simp -implicitDefEqProofs [go_sem];refine onTake_of (fun w'=>CellIs w' ⟨j,5,none⟩ (.slice ad L.length cd)) (.slice ad L.length cd) k5 (fun w' hw=>by
   have hw:w'.cell? ⟨j,5,none⟩=_:=hw;simp -implicitDefEqProofs [go_sem,hw]) ?_
  simp -implicitDefEqProofs [go_sem,hlt,hlt'];refine onTake_of (fun w'=>RowIs w' sb (so+L.length*3) l[L.length].cs) (.agg l[L.length].cs) kS (fun w' hw=>by
   have q0:=hw 0 (show 0<3 by decide);have q1:=hw 1 (show 1<3 by decide);have q2:=hw 2 (show 2<3 by decide);simp [WrV.cs] at q0 q1 q2;simp -implicitDefEqProofs [go_sem,q0,q1,q2,WrV.cs]) ?_
  have hwr:∀ w4,Below w3.heap.size w3 w4→Ret Tryz.prog 249 #[.pointer (some ⟨j,0,none⟩),.agg l[L.length].cs] w4 fun v w'=>ComWP m V b p G o ch st l[L.length] w4 v w':=fun w4 hb =>
   comWrite_calls l[L.length] w4 (h3.next hb) hm (by omega) (hx3.next hb) hxG (hB3.next hb) hJ.jG (hl.right _ (List.getElem_mem hlt)) hS.sto h0 (hS.fresh L.length hlt (Nat.le_refl _))
  refine ⟨?_,?_⟩
  case' refine_1 =>
   simp -implicitDefEqProofs [go_sem];refine callE_of (hwr w3 (Below.refl _ _)) ?_;rintro v w4 ⟨V4,G4,o4,ch4,value,place,e,rfl,h4,t4,hs4,hw64,hS4,hcase⟩;refine ⟨.inr (by simp),?_⟩;have stP:=stNew (P:=Tryz.prog) (t:=360) (cs:=#[.int .u64 (uv value),.int .u64 (uv place)]) (C0:=#[.int .u64 0,.int .u64 0]) pastI rfl (past_one _ _);simp -implicitDefEqProofs [go_sem,↓stP];have b50:=(Below.refl w4.heap.size w4).alloc (Nat.le_refl _) (.cells #[.int .u64 0,.int .u64 0] 360)
   have hB40:=(hB3.mod t4.mod hJ.jG).next b50
   have hset40:RIn (w4.alloc (.cells #[.int .u64 0,.int .u64 0] 360)) 3 (some ⟨sb,so,none⟩) (l.map WrV.cs) cs:=(hset3.mod t4.mod fun k ⟨y,hy,hk⟩=>by rw [← hk];exact (hJ.sq y hy).2.1).next b50
   have kS40:RowIs (w4.alloc (.cells #[.int .u64 0,.int .u64 0] 360)) sb (so+L.length*3) l[L.length].cs:=rowIs_of hset40 hlt;have k440:CellIs (w4.alloc (.cells #[.int .u64 0,.int .u64 0] 360)) ⟨j,4,none⟩ (.slice (some ⟨sb,so,none⟩) l.length cs):=hB40.cell 4;have k540:CellIs (w4.alloc (.cells #[.int .u64 0,.int .u64 0] 360)) ⟨j,5,none⟩ (.slice ad L.length cd):=hB40.cell 5;refine ⟨.inr ⟨kS40,k540,k440⟩,?_⟩;have nB:¬ G4 w4.heap.size:=fun hG=>by have:=h4.lt _ hG;omega
   have hBw:=Blk.new w4 #[.int .u64 (uv value),.int .u64 (uv place)] 360;have b5:=(Below.refl w4.heap.size w4).alloc (Nat.le_refl _) (.cells #[.int .u64 (uv value),.int .u64 (uv place)] 360);have t5:=t4.trans (Turn.of b5);have h5:=h4.next b5
   have hBge:w3.heap.size≤w4.heap.size:=t4.size;generalize World.alloc w4 (.cells #[.int .u64 (uv value),.int .u64 (uv place)] 360)=w5 at *;have hBl:w4.heap.size<w5.heap.size:=hBw.lt;clear kS40 k540 k440 hset40 hB40 b50 stP
  case' refine_2 =>
   have b30:=(Below.refl w3.heap.size w3).alloc (Nat.le_refl _) (.cells #[.int .u64 0,.int .u64 0] 360);have kS40:RowIs (w3.alloc (.cells #[.int .u64 0,.int .u64 0] 360)) sb (so+L.length*3) l[L.length].cs:=rowIs_of (hset3.next b30) hlt;have k440:CellIs (w3.alloc (.cells #[.int .u64 0,.int .u64 0] 360)) ⟨j,4,none⟩ (.slice (some ⟨sb,so,none⟩) l.length cs):=(hB3.next b30).cell 4
   have k540:CellIs (w3.alloc (.cells #[.int .u64 0,.int .u64 0] 360)) ⟨j,5,none⟩ (.slice ad L.length cd):=(hB3.next b30).cell 5;simp -implicitDefEqProofs [go_sem];refine ⟨.inr ⟨kS40,k540,k440⟩,?_⟩;have hBz:=Blk.new w3 #[.int .u64 0,.int .u64 0] 360;refine callE_of (hwr _ b30) ?_;rintro v w4 ⟨V4,G4,o4,ch4,value,place,e,rfl,h4,t4,hs4,hw64,hS4,hcase⟩;refine ⟨.inr (by simp),?_⟩;have nG:¬ G w3.heap.size:=fun hG=>by have:=h3.lt _ hG;omega
   have hBz4:=hBz.mod t4.mod nG;have nB:¬ G4 w3.heap.size:=out_turn nG hBz.lt t4;have stP:=stAll (P:=Tryz.prog) (ty:=360) (cs:=#[.int .u64 (uv value),.int .u64 (uv place)]) hBz4 pastI rfl (past_one _ _);simp -implicitDefEqProofs [go_sem,↓stP];have hBw:=hBz4.row #[.int .u64 (uv value),.int .u64 (uv place)];have t5:=turn_row (C:=#[.int .u64 (uv value),.int .u64 (uv place)]) ((Turn.of b30).trans t4) (Nat.le_refl _)
   have h5:=sys_row (C:=#[.int .u64 (uv value),.int .u64 (uv place)]) h4 nB (fun e=>by have:=h3.tabs.lt;omega);have hBge:w3.heap.size≤w3.heap.size:=Nat.le_refl _;generalize World.setRow w4 _ _=w5 at *;have hBl:w3.heap.size<w5.heap.size:=hBw.lt;clear kS40 k540 k440 stP hBz hBz4
  all_goals
   have hj5:=hB3.mod t5.mod hJ.jG;have hjG5:=out_turn hJ.jG hB3.lt t5;have hx5:=hx3.mod t5.mod hxG;have hxG5:=out_turn hxG hx3.lt t5;have hset5:=hset3.mod t5.mod (fun k ⟨y,hy,hk⟩=>by rw [← hk];exact (hJ.sq y hy).2.1);have hrow5:=ownsRow_turn hrow3 t5.mod (fun k ⟨y,hy,hk⟩=>by rw [← hk];exact (hJ.sd y hy).2.1);have hbel3:=bel3.size;have sqw:∀ y,(some ⟨sb,so,none⟩:Option Addr)=some y→y.block<w5.heap.size∧¬ G4 y.block∧y.block≠j:=fun y hy=>by
    have h1:=hJ.sq y hy;exact ⟨by have:=t5.size;omega,out_turn h1.2.1 (by omega) t5,h1.2.2⟩
   have sdw:∀ y,ad=some y→y.block<w5.heap.size∧¬ G4 y.block∧y.block≠j∧(∀ z,(some ⟨sb,so,none⟩:Option Addr)=some z→z.block≠y.block)∧y.block≠x∧1≠y.block:=fun y hy=>by
    have h1:=hJ.sd y hy;exact ⟨by have:=t5.size;omega,out_turn h1.2.1 (by omega) t5,h1.2.2⟩
   have key:(e=0∧Hs I0 ch0 (⟨l[L.length].key,value,place⟩::L.reverse) (itemsO o4) ch4∧(∀ i (h:i<l.length),L.length+1≤i→∀ k∈(tlC ch4 (valI (itemsO o4) (nibs l[i].key))).1,k.stamp.toNat<st.toNat) ∧
     ((place=0#64∧l[L.length].gone=true)∨∃ off r,Stp (itemsO o) (itemsO o4) ch ch4 ⟨l[L.length].key,value,place⟩ off r∧r.stamp=st∧r.gone=l[L.length].gone∧r.text=l[L.length].text)) ∨
     (e=6∧o4=o∧ch4=ch∧∃ V1 L1,Grew m V V1 L1∧L1.length≤5∧Many m V1 m):=by
    rcases hcase with ⟨rfl,hp0,rfl,rfl,-,hgone⟩|⟨rfl,off,r,hSt,hr1,hr2,hr3⟩|⟨rfl,ho,hch,V1,L1,hG1,hL1,hM1⟩
    ·exact .inl ⟨rfl,.inl ⟨hp0,hS.his⟩,fun i hi hle=>hS.fresh i hi (by omega),.inl ⟨hp0,hgone⟩⟩
    ·refine .inl ⟨rfl,.inr ⟨_,_,off,r,hSt,hS.his⟩,fun i hi hle k hk=>?_,.inr ⟨off,r,hSt,hr1,hr2,hr3⟩⟩;have h1:=(hSt.other (k:=nibs l[i].key) (hl.apart (show L.length<i by omega) hi).symm).2;rw [h1] at hk;exact hS.fresh i hi (by omega) k hk
    ·exact .inr ⟨rfl,ho,hch,V1,L1,hG1,hL1,hM1⟩
   clear hcase hwr
   rcases key with ⟨rfl,hHs,hfr,hfin⟩|⟨rfl,rfl,rfl,hmany⟩
  case' refine_1.inr =>
   simp -implicitDefEqProofs [go_sem]
  case' refine_2.inr =>
   simp -implicitDefEqProofs [go_sem]
  case' refine_1.inl =>
   simp -implicitDefEqProofs [go_sem]
  case' refine_2.inl =>
   simp -implicitDefEqProofs [go_sem]
  case' refine_1.inr|refine_2.inr =>
   have hsL:(L.map PastV.cs).length=L.length:=by simp
   have hss:SepA w5 G4 (some ⟨sb,so,none⟩):=fun y hy=>⟨(sqw y hy).1,(sqw y hy).2.1⟩
   have hds:SepA w5 G4 ad:=fun y hy=>⟨(sdw y hy).1,(sdw y hy).2.1⟩
   have hdn:=owns_rin (past_size L) hsL hrow5;refine callE_of (fail_calls 6 w5 h5 hm (by omega) hx5 hxG5 hj5 hjG5 hset5 hss hS.le hl16 hl.right hS.key hdn hds (owns_form hrow5) hJ.sz hS4 hS.his) ?_;rintro v w6 ⟨rfl,V6,o6,G6,h6,hS6,hI6,hj6,t6,hs6,hw66⟩;simp -implicitDefEqProofs [go_sem];refine body_tmp2 2 3 rfl ?_;simp -implicitDefEqProofs [go_sem];refine ⟨true,6,V6,G6,o6,none,rfl,h6,⟨?_,fun k hk=>?_⟩,by omega,.inr (.inr ⟨rfl,rfl,hlt,hS6,hI6,hw66.trans hw64,hmany⟩)⟩
   ·refine (((Mod.of (F:=CF G j ad) bel3).trans (t5.mod.mono (G:=CF G j ad) fun k hk _=>.inl hk) fun k hk _=>hk).trans t6.mod fun k hk hlt2=>?_)
    rcases hk with hk|hk
    ·rcases t5.new k hk with h1|h1
     ·exact .inl h1
     ·omega
    ·exact .inr (.inl hk)
   ·rcases hk with hk|rfl|⟨y,hy,_⟩
    ·rcases t6.new k (.inl hk) with (h1|h1)|h1
     ·rcases t5.new k h1 with h2|h2
      ·exact .inl (.inl h2)
      ·exact .inr (by omega)
     ·exact .inl (.inr (.inl h1))
     ·exact .inr (by have:=t5.size;omega)
    ·exact .inl (.inr (.inl rfl))
    ·cases hy
  case' refine_1.inl|refine_2.inl =>
   refine dMix [.pure 0,.pure 1,.pure 2,.pure 3,.take 4,.run 5 [4],.run 6 [4],.run 7 [],.pure 8,.pure 9,.run 10 []] mixed ?_;have bd6:=(Below.refl w5.heap.size w5).drew;generalize World.drew w5=w6 at *;have hBw6:=hBw.next bd6
   have hj6:=hj5.next bd6
   have hrow6:=ownsRow_next hrow5 bd6;have hset6:=hset5.next bd6
   have h6:=h5.next bd6
   have hx6:=hx5.next bd6
   have sz6:=bd6.size;obtain ⟨q,hq⟩:∃ q:PastV,q=⟨l[L.length].key,value,place⟩:=⟨_,rfl⟩;have hqc:q.cs=#[.int .u64 (uv value),.int .u64 (uv place)]:=by rw [hq];rfl
   have hql:(L++[q]).length=L.length+1:=by simp
   have ldP:=ldAll (P:=Tryz.prog) hBw6 Tryz.underlying360 rfl pastI (n:=2) rfl;obtain ⟨g,c7,w7,hr7,hrow7,hg1,hg2,hsz7,t7⟩:=push_own (P:=Tryz.prog) (t:=171) (ty:=171) (cs:=#[.int .u64 (uv value),.int .u64 (uv place)]) Tryz.underlying171 pastE (by decide) rfl (past_one _ _) (by decide) (by omega) (Nat.zero_le _) hrow6;have b6a:=(Below.refl w6.heap.size w6).alloc (Nat.le_refl _) (.cells #[.int .u64 (uv value),.int .u64 (uv place)] 360)
   have k6:CellIs w6 ⟨j,5,none⟩ (.slice ad L.length cd):=hj6.cell 5;have k6a:CellIs (w6.alloc (.cells #[.int .u64 (uv value),.int .u64 (uv place)] 360)) ⟨j,5,none⟩ (.slice ad L.length cd):=(hj6.next b6a).cell 5;have hnj:¬ BlkOf ad j:=fun ⟨y,hy,hk⟩=>(sdw y hy).2.2.1 hk
   have hj7:=hj6.mod t7.mod hnj;have f7:=hj7.thaw 5;simp -implicitDefEqProofs [go_sem];refine onTake_of (fun w'=>CellIs w' ⟨j,5,none⟩ (.slice ad L.length cd)) (.slice ad L.length cd) k6 (fun w' hw=>by
    have hw:w'.cell? ⟨j,5,none⟩=_:=hw;simp -implicitDefEqProofs [go_sem,hw]) ?_
   simp -implicitDefEqProofs [go_sem,↓ldP];refine ⟨.inr k6a,?_⟩;have c75:w7.cell? ⟨j,5,none⟩=some (.slice ad L.length cd):=hj7.cell 5;simp -implicitDefEqProofs [go_sem,hr7,f7,c75];have hgd:(∃ y,ad=some y∧y.block=g)∨w6.heap.size≤g:=t7.new g rfl;have hgj:g≠j:=by
    rcases hgd with ⟨y,hy,rfl⟩|h1
    ·exact (sdw y hy).2.2.1
    ·have:=hj6.lt;omega
   have m8:Mod (fun k=>k=j) w7 (w7.setCell ⟨j,5,none⟩ (.slice (some ⟨g,0,none⟩) (L.length+1) c7)):=(Mod.refl (fun k=>k=j) w7).setCell (a:=⟨j,5,none⟩) (.inl rfl) _;have hj8:=hj7.set 5 (.slice (some ⟨g,0,none⟩) (L.length+1) c7)
   have e8:(cjC p b x st (.slice (some ⟨sb,so,none⟩) l.length cs) (.slice ad L.length cd) false 0).setIfInBounds 5 (.slice (some ⟨g,0,none⟩) (L.length+1) c7)=cjC p b x st (.slice (some ⟨sb,so,none⟩) l.length cs) (.slice (some ⟨g,0,none⟩) (L++[q]).length c7) false 0:=by rw [hql];rfl
   rw [e8] at hj8;have M8:Mod (CF G j ad) w1 (w7.setCell ⟨j,5,none⟩ (.slice (some ⟨g,0,none⟩) (L.length+1) c7)):=((((Mod.of (F:=CF G j ad) bel3).trans (t5.mod.mono (G:=CF G j ad) fun k hk _=>.inl hk) fun k hk _=>hk).trans (Mod.of (F:=CF G j ad) bd6) fun k hk _=>hk).trans (t7.mod.mono (G:=CF G j ad) fun k hk _=>.inr (.inr hk)) fun k hk _=>hk).setCell (a:=⟨j,5,none⟩) (.inl (.inr (.inl rfl))) _;have hGBlk:∀ k,G4 k→¬ BlkOf ad k:=fun k hk ⟨y,hy,hb⟩=>(sdw y hy).2.1 (by rw [hb];exact hk)
   have hs7:=h6.mod t7.mod hGBlk (fun ⟨y,hy,hb⟩=>(sdw y hy).2.2.2.2.2 hb.symm);have hs8:=hs7.mod m8 (fun k hk e=>hjG5 (by rw [← e];exact hk)) hJ.sz;have hsz8:=m8.size;have hset7:=hset6.mod t7.mod (fun k ⟨z,hz,hk⟩ ⟨y,hy,hb⟩=>(sdw y hy).2.2.2.1 z hz (by rw [hk,hb]));have hset8:=hset7.mod m8 (fun k ⟨z,hz,hk⟩ e=>(sqw z hz).2.2 (by rw [hk,e]));have hrow8:=ownsRow_turn hrow7 m8 (fun k ⟨z,hz,hk⟩ e=>by
    obtain rfl:=Option.some.inj hz;exact hgj (by rw [← e,← hk]))
   have hfl:flatR (L.map PastV.cs)++(#[.int .u64 (uv value),.int .u64 (uv place)]:Array Value).toList=flatR ((L++[q]).map PastV.cs):=by
    rw [List.map_append,flatR_append,List.map_cons,List.map_nil,flatR_one,hqc]
   rw [hfl,← hql] at hrow8;have hw8:w7.setCell ⟨j,5,none⟩ (.slice (some ⟨g,0,none⟩) (L.length+1) c7)=w7.setCell ⟨j,5,none⟩ (.slice (some ⟨g,0,none⟩) (L++[q]).length c7):=by rw [hql]
   have hxlt:=hx6.lt;have htlt:=h6.tabs.lt;refine body_tmp2 2 3 rfl ?_;simp -implicitDefEqProofs [go_sem];refine ⟨false,0,V4,G4,o4,some ⟨g,0,none⟩,rfl,hs8,⟨M8,fun k hk=>?_⟩,by omega,.inl ⟨rfl,rfl,q,ch4,c7,hlt,⟨hj8,hjG5,hset8,by rw [hw8];exact hrow8,fun y hy=>?_,fun y hy=>?_,hJ.sz⟩,⟨hS4,?_,by rw [hql];omega,fun i hi=>?_,fun i hi hle=>hfr i hi (by rw [hql] at hle;exact hle)⟩,hw64,fun y hy=>?_,?_⟩⟩
   ·rcases hk with hk|rfl|⟨y,hy,hk⟩
    ·rcases t5.new k hk with h1|h1
     ·exact .inl (.inl h1)
     ·exact .inr (by omega)
    ·exact .inl (.inr (.inl rfl))
    ·obtain rfl:=Option.some.inj hy;have hk:g=k:=hk;subst hk
     rcases hgd with h1|h1
     ·exact .inl (.inr (.inr h1))
     ·exact .inr (by have:=t5.size;omega)
   ·have h1:=sqw y hy;exact ⟨by omega,h1.2⟩
   ·obtain rfl:=Option.some.inj hy;refine ⟨by show g<_;omega,?_,hgj,fun z hz=>?_,?_,?_⟩
    ·intro hG
     rcases hgd with ⟨y,hy,hb⟩|h1
     ·exact (sdw y hy).2.1 (by rw [hb];exact hG)
     ·have:=h6.lt _ hG;have h2:g<w6.heap.size:=this;omega
    ·show z.block≠g
     rcases hgd with ⟨y,hy,hb⟩|h1
     ·rw [← hb];exact (sdw y hy).2.2.2.1 z hz
     ·have:=(sqw z hz).1;omega
    ·show g≠x
     rcases hgd with ⟨y,hy,hb⟩|h1
     ·rw [← hb];exact (sdw y hy).2.2.2.2.1
     ·omega
    ·show _≠g
     rcases hgd with ⟨y,hy,hb⟩|h1
     ·rw [← hb];exact (sdw y hy).2.2.2.2.2
     ·omega
   ·rw [List.reverse_append,hq];exact hHs
   ·rw [hql] at hi;by_cases e:i<L.length
    ·rw [List.getElem_append_left e];exact hS.key i e
    ·obtain rfl:i=L.length:=by omega
     rw [List.getElem_append_right (Nat.le_refl _)];simp [hq]
   ·obtain rfl:=Option.some.inj hy
    rcases hgd with h1|h1
    ·exact .inl h1
    ·exact .inr (by show _≤g;have:=t5.size;omega)
   ·rcases hfin with h1|⟨off,r,h1,h2⟩
    ·exact .inl (by rw [hq];exact h1)
    ·exact .inr ⟨off,r,by rw [hq];exact h1,by rw [hq],h2⟩
 ·have hlt':¬ (L.length:Int)<(l.length:Int):=by omega
  have hLe:L.length=l.length:=by omega
  refine drawE_still mixed (by decide +kernel) ?_;simp -implicitDefEqProofs [go_sem,c5,c4,hlt'];unfold endE;simp -implicitDefEqProofs [go_sem];have bd:=(Below.refl w1.heap.size w1).drew;have hB2:=hJ.blk.next bd
  have h2:=h.next bd
  generalize World.drew w1=w2 at *;refine dMix [.pure 0,.pure 1,.pure 2,.pure 4,.pure 5,.pure 6,.take 3,.run 7 [3],.run 8 [],.pure 9] mixed ?_;have bd3:=(Below.refl w2.heap.size w2).drew;have bel3:Below w1.heap.size w1 (World.drew w2):=bd.drew;generalize World.drew w2=w3 at *;have h3:=h2.next bd3
  have hB3:=hB2.next bd3
  have k0:CellIs w3 ⟨j,0,none⟩ (.pointer (some ⟨p,0,none⟩)):=hB3.cell 0;have c3:w3.cell? ⟨j,3,none⟩=some (.int .u64 (uv st)):=hB3.cell 3;obtain ⟨u1,u2,u3,u4⟩:=hS.sto.slot hm st;have hput:=sysPut_calls st w3 h3 (by omega) (o:=64) (by omega);rw [u1] at hput;simp -implicitDefEqProofs [go_sem];refine onTake_of (fun w'=>CellIs w' ⟨j,0,none⟩ (.pointer (some ⟨p,0,none⟩))) (.pointer (some ⟨p,0,none⟩)) k0 (fun w' hw=>by
   have hw:w'.cell? ⟨j,0,none⟩=_:=hw;simp -implicitDefEqProofs [go_sem,hw]) ?_
  simp -implicitDefEqProofs [go_sem,c3];refine callE_of hput ?_;rintro v w4 ⟨rfl,G4,h4,t4⟩;refine ⟨.inr (by simp),?_⟩;have hj4:=hB3.mod t4.mod hJ.jG;have hjG4:=out_turn hJ.jG hB3.lt t4;have c46:w4.cell? ⟨j,6,none⟩=some (.bool false):=hj4.cell 6;have f46:=hj4.thaw 6;simp -implicitDefEqProofs [go_sem,c46,f46];have m5:Mod (fun k=>k=j) w4 (w4.setCell ⟨j,6,none⟩ (.bool true)):=(Mod.refl (fun k=>k=j) w4).setCell (a:=⟨j,6,none⟩) (.inl rfl) _;have hb3:=bel3.size;refine body_tmp2 2 3 rfl ?_
  simp -implicitDefEqProofs [go_sem];refine ⟨true,0,_,G4,o,none,rfl,h4.mod m5 (fun k hk e=>hjG4 (by rw [← e];exact hk)) hJ.sz,⟨?_,fun k hk=>?_⟩,by dsimp only;omega,.inr (.inl ⟨rfl,rfl,hLe,rfl,u4,u2⟩)⟩
  ·exact ((Mod.of (F:=CF G j ad) bel3).trans (t4.mod.mono (G:=CF G j ad) fun k hk _=>.inl hk) fun k hk _=>hk).setCell (a:=⟨j,6,none⟩) (.inl (.inr (.inl rfl))) _
  ·rcases hk with hk|rfl|⟨y,hy,_⟩
   ·rcases t4.new k hk with h1|h1
    ·exact .inl (.inl h1)
    ·exact .inr (by omega)
   ·exact .inl (.inr (.inl rfl))
   ·cases hy
theorem CJ.next (h:CJ w p b x j G st l L aq ad cs cd)(hb:Below w.heap.size w w'):CJ w' p b x j G st l L aq ad cs cd:=by
 have hs:=hb.size;exact ⟨h.blk.next hb,h.jG,h.set.next hb,ownsRow_next h.done hb,fun y hy=>⟨by have:=(h.sq y hy).1;omega,(h.sq y hy).2⟩,fun y hy=>⟨by have:=(h.sd y hy).1;omega,(h.sd y hy).2⟩,h.sz⟩
end
end
section
open Go Go.RowKit
open TR
structure EA where
 p:Nat
 b:Nat
 x:Nat
 g:Nat
 tt:Nat
 bk:Nat
 nb:Nat
structure ES where
 slot:BitVec 64
 job:Value
 id:Int
 set:Value
 stamp:BitVec 64
structure TS where
 C:Array Value
 n:Nat
 top:Nat
 many:Nat
 bnd:Nat
 op:Bool
 a0:BitVec 64
 s0:Value
def engC (A:EA)(S:ES):Array Value:=#[.pointer (some ⟨A.p,0,none⟩),.pointer (some ⟨A.b,0,none⟩),.pointer (some ⟨A.x,0,none⟩),.pointer (some ⟨A.tt,0,none⟩),.int .u64 (uv S.slot),S.job,.int .i64 S.id,S.set,.int .u64 (uv S.stamp)]
structure Eg (A:EA) (w:World) (m:Nat) (V:PV) (G:Nat→Prop) (S:ES) (T:TS):Prop where
 sys:Sys w m V A.b A.p G
 x:Blk w A.x (IxC A.p A.b) 178
 g:Blk w A.g (engC A S) 81
 t:Tbl w A.tt A.bk A.nb T.n T.top T.C T.op T.a0 T.many T.bnd T.s0
 out:∀ k,G k→k≠A.x∧k≠A.g∧k≠A.tt∧k≠A.bk∧k≠A.nb
 ne:A.g≠A.x∧A.g≠A.tt∧A.g≠A.bk∧A.g≠A.nb∧A.x≠A.tt∧A.x≠A.bk∧A.x≠A.nb
 zt:1≠A.g∧1≠A.bk∧1≠A.nb
def EF (A:EA)(G:Nat→Prop)(k:Nat):Prop:=G k∨k=A.g∨k=A.bk∨k=A.nb
section
variable {A:EA} {w w' w0:World} {m:Nat} {V V':PV} {G G' F F':Nat→Prop} {S S':ES} {T T':TS}
theorem Eg.lt (h:Eg A w m V G S T):∀ k,EF A G k→k<w.heap.size:=fun k hk=>by
 rcases hk with hk|rfl|rfl|rfl
 ·exact h.sys.lt k hk
 ·exact h.g.lt
 ·exact h.t.b.lt
 ·exact h.t.m.lt
theorem Eg.xlt (h:Eg A w m V G S T):A.x<w.heap.size∧A.tt<w.heap.size:=⟨h.x.lt,h.t.t.lt⟩
theorem Eg.next (h:Eg A w m V G S T)(hb:Below w.heap.size w w'):Eg A w' m V G S T:=⟨h.sys.next hb,h.x.next hb,h.g.next hb,h.t.next hb,h.out,h.ne,h.zt⟩
theorem Eg.mod (h:Eg A w m V G S T)(hm:Mod F w w')(h1:∀ k,F k→¬ G k)(h2:¬ F A.x)(h3:¬ F A.g)(h4:¬ F A.tt)(h5:¬ F A.bk)(h6:¬ F A.nb)(h7:¬ F 1):Eg A w' m V G S T :=
 ⟨h.sys.mod hm (fun k hk hf=>h1 k hf hk) h7,h.x.mod hm h2,h.g.mod hm h3,h.t.mod hm h4 h5 h6,h.out,h.ne,h.zt⟩
theorem Eg.tblB (h:Eg A w m V G S T)(ht:Tbl w' A.tt A.bk A.nb T'.n T'.top T'.C T'.op T'.a0 T'.many T'.bnd T'.s0)(hm:Turn w (·=A.bk) w' (·=A.bk)):Eg A w' m V G S T'∧Turn w (EF A G) w' (EF A G):=by
 obtain ⟨n1,n2,n3,n4,n5,n6,n7⟩:=h.ne;exact ⟨⟨h.sys.mod hm.mod (fun k hk e=>(h.out k hk).2.2.2.1 e) h.zt.2.1,h.x.mod hm.mod n6,h.g.mod hm.mod n3,ht,h.out,h.ne,h.zt⟩,hm.mod.mono fun k hk _=>.inr (.inr (.inl hk)),fun k hk=>.inl hk⟩
theorem Eg.tblN (h:Eg A w m V G S T)(ht:Tbl w' A.tt A.bk A.nb T'.n T'.top T'.C T'.op T'.a0 T'.many T'.bnd T'.s0)(hm:Turn w (·=A.nb) w' (·=A.nb)):Eg A w' m V G S T'∧Turn w (EF A G) w' (EF A G):=by
 obtain ⟨n1,n2,n3,n4,n5,n6,n7⟩:=h.ne;exact ⟨⟨h.sys.mod hm.mod (fun k hk e=>(h.out k hk).2.2.2.2 e) h.zt.2.2,h.x.mod hm.mod n7,h.g.mod hm.mod n4,ht,h.out,h.ne,h.zt⟩,hm.mod.mono fun k hk _=>.inr (.inr (.inr hk)),fun k hk=>.inl hk⟩
theorem Eg.eng (h:Eg A w m V G S T)(hB:Blk w' A.g (engC A S') 81)(hm:Turn w (·=A.g) w' (·=A.g)):Eg A w' m V G S' T∧Turn w (EF A G) w' (EF A G):=by
 obtain ⟨n1,n2,n3,n4,n5,n6,n7⟩:=h.ne;exact ⟨⟨h.sys.mod hm.mod (fun k hk e=>(h.out k hk).2.1 e) h.zt.1,h.x.mod hm.mod fun e=>n1 e.symm,hB,h.t.mod hm.mod (fun e=>n2 e.symm) (fun e=>n3 e.symm) fun e=>n4 e.symm,h.out,h.ne,h.zt⟩,hm.mod.mono fun k hk _=>.inr (.inl hk),fun k hk=>.inl hk⟩
theorem Eg.to (h:Eg A w m V G S T)(hs:Sys w' m V' A.b A.p G')(hm:Turn w F w' F')(hF:∀ k,F k→k≠A.x∧k≠A.g∧k≠A.tt∧k≠A.bk∧k≠A.nb)(hG:∀ k,G' k→F' k):Eg A w' m V' G' S T:=by
 refine ⟨hs,h.x.mod hm.mod fun e=>(hF _ e).1 rfl,h.g.mod hm.mod fun e=>(hF _ e).2.1 rfl,h.t.mod hm.mod (fun e=>(hF _ e).2.2.1 rfl) (fun e=>(hF _ e).2.2.2.1 rfl) (fun e=>(hF _ e).2.2.2.2 rfl),fun k hk=>?_,h.ne,h.zt⟩
 rcases hm.new k (hG k hk) with h1|h1
 ·exact hF k h1
 ·have:=h.x.lt;have:=h.g.lt;have:=h.t.t.lt;have:=h.t.b.lt;have:=h.t.m.lt;exact ⟨by omega,by omega,by omega,by omega,by omega⟩
set_option maxHeartbeats 4000000
theorem Eg.c0 (h:Eg A w m V G S T):w.cell? ⟨A.g,0,none⟩=some (.pointer (some ⟨A.p,0,none⟩)):=h.g.cell 0
theorem Eg.c1 (h:Eg A w m V G S T):w.cell? ⟨A.g,1,none⟩=some (.pointer (some ⟨A.b,0,none⟩)):=h.g.cell 1
theorem Eg.c2 (h:Eg A w m V G S T):w.cell? ⟨A.g,2,none⟩=some (.pointer (some ⟨A.x,0,none⟩)):=h.g.cell 2
theorem Eg.c3 (h:Eg A w m V G S T):w.cell? ⟨A.g,3,none⟩=some (.pointer (some ⟨A.tt,0,none⟩)):=h.g.cell 3
theorem Eg.c4 (h:Eg A w m V G S T):w.cell? ⟨A.g,4,none⟩=some (.int .u64 (uv S.slot)):=h.g.cell 4
theorem Eg.c5 (h:Eg A w m V G S T):w.cell? ⟨A.g,5,none⟩=some S.job:=h.g.cell 5
theorem egNone_calls (w0:World)(h:Eg A w0 m V G S T):Ret Tryz.prog 31 #[.pointer (some ⟨A.g,0,none⟩)] w0 fun v w'=>v=.bool false∧w'=w0:=by
 refine ret_of (args:=[_]) _ Tryz.func31 rfl Tryz.ntmps31 (by simp) ?_;simp -implicitDefEqProofs [go_sem,h.c0];refine body_tmp 2 rfl ?_;simp -implicitDefEqProofs [go_sem]
theorem egBusyN_calls (w0:World)(h:Eg A w0 m V G S T)(hj:S.job=.nilIface):Ret Tryz.prog 43 #[.pointer (some ⟨A.g,0,none⟩)] w0 fun v w'=>v=.bool false∧w'=w0:=by
 have h5:=h.c5;rw [hj] at h5;refine ret_of (args:=[_]) _ Tryz.func43 rfl Tryz.ntmps43 (by simp) ?_;simp -implicitDefEqProofs [go_sem,h5];refine body_tmp 2 rfl ?_;simp -implicitDefEqProofs [go_sem]
theorem egBusyY_calls {t:TypeId}{u:Value}(w0:World)(h:Eg A w0 m V G S T)(hj:S.job=.iface t u):Ret Tryz.prog 43 #[.pointer (some ⟨A.g,0,none⟩)] w0 fun v w'=>v=.bool true∧w'=w0:=by
 have h5:=h.c5;rw [hj] at h5;refine ret_of (args:=[_]) _ Tryz.func43 rfl Tryz.ntmps43 (by simp) ?_;simp -implicitDefEqProofs [go_sem,h5];refine body_tmp 2 rfl ?_;simp -implicitDefEqProofs [go_sem]
theorem egMay_calls (w0:World)(h:Eg A w0 m V G S T)(ho:T.op=true):Ret Tryz.prog 42 #[.pointer (some ⟨A.g,0,none⟩),.int .i64 0] w0 fun v w'=>v=.int .i64 0∧w'=w0:=by
 have ht:=h.t;rw [ho] at ht;refine ret_of (args:=[_,_]) _ Tryz.func42 rfl Tryz.ntmps42 (by simp) ?_;simp -implicitDefEqProofs [go_sem];refine callE_of (egNone_calls w0 h) ?_;rintro v w1 ⟨rfl,rfl⟩;simp -implicitDefEqProofs [go_sem,h.c3];refine callE_of (txnAt_calls w1 ht) ?_;rintro v w2 ⟨rfl,rfl⟩;simp -implicitDefEqProofs [go_sem];refine body_tmp 4 rfl ?_;simp -implicitDefEqProofs [go_sem]
theorem egFree_calls (w0:World)(h:Eg A w0 m V G S T)(ho:T.op=true)(hj:S.job=.nilIface):Ret Tryz.prog 60 #[.pointer (some ⟨A.g,0,none⟩),.int .i64 0] w0 fun v w'=>v=.int .i64 0∧w'=w0:=by
 refine ret_of (args:=[_,_]) _ Tryz.func60 rfl Tryz.ntmps60 (by simp) ?_;simp -implicitDefEqProofs [go_sem];refine callE_of (egMay_calls w0 h ho) ?_;rintro v w1 ⟨rfl,rfl⟩;simp -implicitDefEqProofs [go_sem];refine callE_of (egBusyN_calls w1 h hj) ?_;rintro v w2 ⟨rfl,rfl⟩;simp -implicitDefEqProofs [go_sem];refine body_tmp 4 rfl ?_;simp -implicitDefEqProofs [go_sem]
theorem egBegin_calls (w0:World)(h:Eg A w0 m V G S T)(ho:T.op=false)(hm:T.many<16)(hb:T.bnd≤S.slot.toNat) :
  Ret Tryz.prog 19 #[.pointer (some ⟨A.g,0,none⟩)] w0 fun v w'=>v=.tuple #[.int .i64 0,.int .i64 0]∧∃ C',Eg A w' m V G S ⟨C',T.n,T.top,T.many+1,S.slot.toNat,true,S.slot,.slice none 0 0⟩∧Turn w0 (EF A G) w' (EF A G):=by
 have bel0:=Below.refl w0.heap.size w0;refine ret_of (args:=[_]) _ Tryz.func19 rfl Tryz.ntmps19 (by simp) ?_;simp -implicitDefEqProofs [go_sem];refine callE_of (egNone_calls w0 h) ?_;rintro v w1 ⟨rfl,rfl⟩;simp -implicitDefEqProofs [go_sem];refine dMix [.pure 0,.pure 1,.pure 2,.pure 4,.pure 5,.pure 6,.take 3,.run 7 [3],.run 8 [],.pure 9,.pure 10,.pure 11,.pure 12] mixed ?_;have bd:=(Below.refl w1.heap.size w1).drew;generalize World.drew w1=w2 at *;have h2:=h.next bd
 have ht:=h2.t;rw [ho] at ht;simp -implicitDefEqProofs [go_sem];refine onTake_of (fun w'=>w'.cell? ⟨A.g,3,none⟩=some (.pointer (some ⟨A.tt,0,none⟩))) (.pointer (some ⟨A.tt,0,none⟩)) h2.c3 (fun w' hw=>by simp -implicitDefEqProofs [go_sem,hw]) ?_;simp -implicitDefEqProofs [go_sem,h2.c4];refine callE_of (txnBegin_calls S.slot w2 ht hm hb) ?_;rintro v w3 ⟨rfl,C',ht3,t3⟩;refine ⟨.inr (by simp),?_⟩;simp -implicitDefEqProofs [go_sem];refine body_tmp2 2 3 rfl ?_;simp -implicitDefEqProofs [go_sem]
 obtain ⟨h3,t4⟩:=h2.tblB (T':=⟨C',T.n,T.top,T.many+1,S.slot.toNat,true,S.slot,.slice none 0 0⟩) ht3 t3;exact ⟨⟨C',h3⟩,(Turn.of bd).trans t4⟩
def EWrP (A:EA)(m:Nat)(V:PV)(G:Nat→Prop)(S:ES)(T:TS)(l:List WrV)(a:Option Addr)(x:WrV)(w0:World)(v:Value)(w':World):Prop :=
 ∃ (l':List WrV) (a':Option Addr) (c':Nat) (C':Array Value) (e:Int),v=.int .i64 e∧Eg A w' m V G S ⟨C',T.n,T.top,T.many,T.bnd,true,T.a0,.slice a' l'.length c'⟩∧RIn w' 3 a' (l'.map WrV.cs) c'∧SetOk l' ∧
   (∀ y,a'=some y→∃ b,y=⟨b,0,none⟩)∧(∀ y,a'=some y→y.block≠A.bk)∧Turn w0 (EF A G) w' (EF A G)∧((e=0∧x.right∧l'≠[])∨(e≠0∧l'=l))∧(l=[]→x.right→l'=[x]∧e=0)∧(∀ y,a'=some y→a'=a∨w0.heap.size≤y.block∧y.block<w'.heap.size)
theorem egWrite_calls {a:Option Addr}{l:List WrV}{cap:Nat}(x:WrV)(w0:World)(h:Eg A w0 m V G S T)(ho:T.op=true)(hj:S.job=.nilIface)(hs0:T.s0=.slice a l.length cap)(hin:RIn w0 3 a (l.map WrV.cs) cap)(hs:SetOk l)(hfm:∀ y,a=some y→∃ b,y=⟨b,0,none⟩)(hab:∀ y,a=some y→y.block≠A.bk) :
  Ret Tryz.prog 39 #[.pointer (some ⟨A.g,0,none⟩),.int .i64 0,.agg x.cs] w0 (EWrP A m V G S T l a x w0):=by
 have bel0:=Below.refl w0.heap.size w0;have hbk:=h.t.b.lt;refine ret_of (args:=[_,_,_]) _ Tryz.func39 rfl Tryz.ntmps39 (by simp) ?_;simp -implicitDefEqProofs [go_sem];generalize hw1:World.alloc w0 _=w1 at *;obtain ⟨hB1,b1,sz1,bel1⟩:=newF hw1 bel0;replace h:=h.next b1
 replace hin:=hin.next b1
 refine callE_of (egFree_calls w1 h ho hj) ?_;rintro v w2 ⟨rfl,rfl⟩;simp -implicitDefEqProofs [go_sem];refine dMix [.pure 0,.pure 1,.pure 2,.pure 4,.take 3,.run 5 [3],.run 6 [],.pure 7] mixed ?_;have bd:=(Below.refl w2.heap.size w2).drew;have bel3:Below w0.heap.size w0 (World.drew w2):=bel1.drew;generalize World.drew w2=w3 at *;have h3:=h.next bd
 have hB3:=hB1.next bd
 have hin3:=hin.next bd
 have ldX:=ldAll (P:=Tryz.prog) hB3 Tryz.underlying104 rfl wrI (n:=3) x.cs_size;have ht:=h3.t;rw [ho,hs0] at ht;simp -implicitDefEqProofs [go_sem];refine onTake_of (fun w'=>w'.cell? ⟨A.g,3,none⟩=some (.pointer (some ⟨A.tt,0,none⟩))) (.pointer (some ⟨A.tt,0,none⟩)) h3.c3 (fun w' hw=>by simp -implicitDefEqProofs [go_sem,hw]) ?_;simp -implicitDefEqProofs [go_sem,↓ldX];refine callE_of (txnWrite_calls x w3 ht hin3 hs hfm hab) ?_;rintro v w4 ⟨l',a',c',C',e,rfl,ht4,hin4,hs4,hfm4,t4,hcase,hone⟩
 refine ⟨.inr (by simp),?_⟩;simp -implicitDefEqProofs [go_sem];refine body_tmp 6 rfl ?_;simp -implicitDefEqProofs [go_sem];obtain ⟨h5,t5⟩:=h3.tblB (T':=⟨C',T.n,T.top,T.many,T.bnd,true,T.a0,.slice a' l'.length c'⟩) ht4 t4;have hnew:∀ y,a'=some y→a'=a∨w0.heap.size≤y.block∧y.block<w4.heap.size:=fun y hy=>by
  rcases hcase with h|h
  ·have:=h.2.2.2 y hy;have:=bel3.size;exact .inr (by omega)
  ·exact .inl h.2.2
 refine ⟨l',a',c',C',e,rfl,h5,hin4,hs4,hfm4,fun y hy=>?_,(Turn.of bel3).trans t5,?_,hone,hnew⟩
 ·rcases hnew y hy with h6|h6
  ·exact hab y (h6▸hy)
  ·omega
 ·rcases hcase with h|h
  ·exact .inl ⟨h.1,h.2.1,h.2.2.1⟩
  ·exact .inr ⟨h.1,h.2.1⟩
theorem egPut_calls {a:Option Addr}{l:List WrV}{cap:Nat}(key text:ByteArray)(w0:World)(h:Eg A w0 m V G S T)(ho:T.op=true)(hj:S.job=.nilIface)(hs0:T.s0=.slice a l.length cap)(hin:RIn w0 3 a (l.map WrV.cs) cap)(hs:SetOk l)(hfm:∀ y,a=some y→∃ b,y=⟨b,0,none⟩)(hab:∀ y,a=some y→y.block≠A.bk) :
  Ret Tryz.prog 21 #[.pointer (some ⟨A.g,0,none⟩),.int .i64 0,.string key,.string text] w0 (EWrP A m V G S T l a ⟨key,text,false⟩ w0):=by
 refine ret_of (args:=[_,_,_,_]) _ Tryz.func21 rfl Tryz.ntmps21 (by simp) ?_;simp -implicitDefEqProofs [go_sem];refine callE_of (egWrite_calls ⟨key,text,false⟩ w0 h ho hj hs0 hin hs hfm hab) ?_;rintro v w1 hP;have hv:∃ e,v=.int .i64 e:=by obtain ⟨_,_,_,_,e,h,_⟩:=hP;exact ⟨e,h⟩
 obtain ⟨e,rfl⟩:=hv;simp -implicitDefEqProofs [go_sem];refine body_tmp 8 rfl ?_;simp -implicitDefEqProofs [go_sem];exact hP
theorem egDel_calls {a:Option Addr}{l:List WrV}{cap:Nat}(key:ByteArray)(w0:World)(h:Eg A w0 m V G S T)(ho:T.op=true)(hj:S.job=.nilIface)(hs0:T.s0=.slice a l.length cap)(hin:RIn w0 3 a (l.map WrV.cs) cap)(hs:SetOk l)(hfm:∀ y,a=some y→∃ b,y=⟨b,0,none⟩)(hab:∀ y,a=some y→y.block≠A.bk) :
  Ret Tryz.prog 20 #[.pointer (some ⟨A.g,0,none⟩),.int .i64 0,.string key] w0 (EWrP A m V G S T l a ⟨key,⟨#[]⟩,true⟩ w0):=by
 refine ret_of (args:=[_,_,_]) _ Tryz.func20 rfl Tryz.ntmps20 (by simp) ?_;simp -implicitDefEqProofs [go_sem];refine callE_of (egWrite_calls ⟨key,⟨#[]⟩,true⟩ w0 h ho hj hs0 hin hs hfm hab) ?_;rintro v w1 hP;have hv:∃ e,v=.int .i64 e:=by obtain ⟨_,_,_,_,e,h,_⟩:=hP;exact ⟨e,h⟩
 obtain ⟨e,rfl⟩:=hv;simp -implicitDefEqProofs [go_sem];refine body_tmp 6 rfl ?_;simp -implicitDefEqProofs [go_sem];exact hP
theorem egAbort_calls (w0:World)(h:Eg A w0 m V G S T)(ho:T.op=true)(hj:S.job=.nilIface) :
  Ret Tryz.prog 29 #[.pointer (some ⟨A.g,0,none⟩),.int .i64 0] w0 fun v w'=>v=.int .i64 0∧∃ C',Eg A w' m V G S ⟨C',T.n,T.top,T.many,T.bnd,false,0#64,.slice none 0 0⟩∧Turn w0 (EF A G) w' (EF A G):=by
 refine ret_of (args:=[_,_]) _ Tryz.func29 rfl Tryz.ntmps29 (by simp) ?_;simp -implicitDefEqProofs [go_sem];refine callE_of (egFree_calls w0 h ho hj) ?_;rintro v w1 ⟨rfl,rfl⟩;have ht:=h.t;rw [ho] at ht;simp -implicitDefEqProofs [go_sem,h.c3];refine callE_of (txnEnd_calls w1 ht) ?_;rintro v w2 ⟨rfl,C',ht2,t2⟩;simp -implicitDefEqProofs [go_sem];refine body_tmp 4 rfl ?_;simp -implicitDefEqProofs [go_sem];obtain ⟨h3,t3⟩:=h.tblB (T':=⟨C',T.n,T.top,T.many,T.bnd,false,0#64,.slice none 0 0⟩) ht2 t2
 exact ⟨⟨C',h3⟩,t3⟩
theorem egSlot_calls (w0:World)(h:Eg A w0 m V G S T):Ret Tryz.prog 13 #[.pointer (some ⟨A.g,0,none⟩)] w0 fun v w'=>v=.int .u64 (uv S.slot)∧w'=w0:=by
 refine ret_of (args:=[_]) _ Tryz.func13 rfl Tryz.ntmps13 (by simp) ?_;simp -implicitDefEqProofs [go_sem];refine callE_of (egNone_calls w0 h) ?_;rintro v w1 ⟨rfl,rfl⟩;simp -implicitDefEqProofs [go_sem,h.c4];refine body_tmp 2 rfl ?_;simp -implicitDefEqProofs [go_sem]
theorem egBlocks_calls (w0:World)(h:Eg A w0 m V G S T)(hr:Rest m V)(hm:m=6∨m=24):Ret Tryz.prog 15 #[.pointer (some ⟨A.g,0,none⟩)] w0 fun v w'=>∃ a c,v=.slice a (allK (shN m) V.T m).length c∧VsIn w' a (nats (allK (shN m) V.T m)) c∧Below w0.heap.size w0 w':=by
 obtain ⟨tb,tc,hb,hc,F,hP,hG⟩:=h.sys.pd;have hl:=hr.well.len;refine ret_of (args:=[_]) _ Tryz.func15 rfl Tryz.ntmps15 (by simp) ?_;simp -implicitDefEqProofs [go_sem];refine callE_of (egNone_calls w0 h) ?_;rintro v w1 ⟨rfl,rfl⟩;have hA:=poolAll_calls w1 hP.pool (by omega) (shN_data hm);rw [hl] at hA;simp -implicitDefEqProofs [go_sem,h.c1];refine callE_of hA ?_;rintro v w2 ⟨a,c,rfl,hv,b2⟩;simp -implicitDefEqProofs [go_sem];refine body_tmp 2 rfl ?_;simp -implicitDefEqProofs [go_sem]
 exact ⟨a,c,⟨rfl,rfl⟩,hv,b2⟩
end
end
end Go.Proofs.YtaaihijkdhmcdaaGreatDoor
