/- WholeImage, part 35 of 38: contracts and lemmas of its proof. Conditions: none. -/
import Derived.Test.YtaaihijkdhmcdaaGreatDoorW31
import Derived.Test.YtaaihijkdhmcdaaGreatDoorW33
import Derived.Test.YtaaihijkdhmcdaaGreatDoorW29
set_option linter.unusedVariables false
set_option linter.unusedSimpArgs false
set_option maxRecDepth 100000
namespace Go.Proofs.YtaaihijkdhmcdaaGreatDoor
section
open Go Go.RowKit
open TR
structure EA where
 p:Nat
 b:Nat
 x:Nat
 g:Nat
 tt:Nat
 bk:Nat
 nb:Nat
structure ES where
 slot:BitVec 64
 job:Value
 id:Int
 set:Value
 stamp:BitVec 64
structure TS where
 C:Array Value
 n:Nat
 top:Nat
 many:Nat
 bnd:Nat
 op:Bool
 a0:BitVec 64
 s0:Value
def engC (A:EA)(S:ES):Array Value:=#[.pointer (some ⟨A.p,0,none⟩),.pointer (some ⟨A.b,0,none⟩),.pointer (some ⟨A.x,0,none⟩),.pointer (some ⟨A.tt,0,none⟩),.int .u64 (uv S.slot),S.job,.int .i64 S.id,S.set,.int .u64 (uv S.stamp)]
structure Eg (A:EA) (w:World) (m:Nat) (V:PV) (G:Nat→Prop) (S:ES) (T:TS):Prop where
 sys:Sys w m V A.b A.p G
 x:Blk w A.x (IxC A.p A.b) 178
 g:Blk w A.g (engC A S) 81
 t:Tbl w A.tt A.bk A.nb T.n T.top T.C T.op T.a0 T.many T.bnd T.s0
 out:∀ k,G k→k≠A.x∧k≠A.g∧k≠A.tt∧k≠A.bk∧k≠A.nb
 ne:A.g≠A.x∧A.g≠A.tt∧A.g≠A.bk∧A.g≠A.nb∧A.x≠A.tt∧A.x≠A.bk∧A.x≠A.nb
 zt:1≠A.g∧1≠A.bk∧1≠A.nb
def EF (A:EA)(G:Nat→Prop)(k:Nat):Prop:=G k∨k=A.g∨k=A.bk∨k=A.nb
section
variable {A:EA} {w w' w0:World} {m:Nat} {V V':PV} {G G' F F':Nat→Prop} {S S':ES} {T T':TS}
theorem Eg.lt (h:Eg A w m V G S T):∀ k,EF A G k→k<w.heap.size:=fun k hk=>by
 rcases hk with hk|rfl|rfl|rfl
 ·exact h.sys.lt k hk
 ·exact h.g.lt
 ·exact h.t.b.lt
 ·exact h.t.m.lt
theorem Eg.xlt (h:Eg A w m V G S T):A.x<w.heap.size∧A.tt<w.heap.size:=⟨h.x.lt,h.t.t.lt⟩
theorem Eg.next (h:Eg A w m V G S T)(hb:Below w.heap.size w w'):Eg A w' m V G S T:=⟨h.sys.next hb,h.x.next hb,h.g.next hb,h.t.next hb,h.out,h.ne,h.zt⟩
theorem Eg.mod (h:Eg A w m V G S T)(hm:Mod F w w')(h1:∀ k,F k→¬ G k)(h2:¬ F A.x)(h3:¬ F A.g)(h4:¬ F A.tt)(h5:¬ F A.bk)(h6:¬ F A.nb)(h7:¬ F 1):Eg A w' m V G S T :=
 ⟨h.sys.mod hm (fun k hk hf=>h1 k hf hk) h7,h.x.mod hm h2,h.g.mod hm h3,h.t.mod hm h4 h5 h6,h.out,h.ne,h.zt⟩
theorem Eg.tblB (h:Eg A w m V G S T)(ht:Tbl w' A.tt A.bk A.nb T'.n T'.top T'.C T'.op T'.a0 T'.many T'.bnd T'.s0)(hm:Turn w (·=A.bk) w' (·=A.bk)):Eg A w' m V G S T'∧Turn w (EF A G) w' (EF A G):=by
 obtain ⟨n1,n2,n3,n4,n5,n6,n7⟩:=h.ne;exact ⟨⟨h.sys.mod hm.mod (fun k hk e=>(h.out k hk).2.2.2.1 e) h.zt.2.1,h.x.mod hm.mod n6,h.g.mod hm.mod n3,ht,h.out,h.ne,h.zt⟩,hm.mod.mono fun k hk _=>.inr (.inr (.inl hk)),fun k hk=>.inl hk⟩
theorem Eg.tblN (h:Eg A w m V G S T)(ht:Tbl w' A.tt A.bk A.nb T'.n T'.top T'.C T'.op T'.a0 T'.many T'.bnd T'.s0)(hm:Turn w (·=A.nb) w' (·=A.nb)):Eg A w' m V G S T'∧Turn w (EF A G) w' (EF A G):=by
 obtain ⟨n1,n2,n3,n4,n5,n6,n7⟩:=h.ne;exact ⟨⟨h.sys.mod hm.mod (fun k hk e=>(h.out k hk).2.2.2.2 e) h.zt.2.2,h.x.mod hm.mod n7,h.g.mod hm.mod n4,ht,h.out,h.ne,h.zt⟩,hm.mod.mono fun k hk _=>.inr (.inr (.inr hk)),fun k hk=>.inl hk⟩
theorem Eg.eng (h:Eg A w m V G S T)(hB:Blk w' A.g (engC A S') 81)(hm:Turn w (·=A.g) w' (·=A.g)):Eg A w' m V G S' T∧Turn w (EF A G) w' (EF A G):=by
 obtain ⟨n1,n2,n3,n4,n5,n6,n7⟩:=h.ne;exact ⟨⟨h.sys.mod hm.mod (fun k hk e=>(h.out k hk).2.1 e) h.zt.1,h.x.mod hm.mod fun e=>n1 e.symm,hB,h.t.mod hm.mod (fun e=>n2 e.symm) (fun e=>n3 e.symm) fun e=>n4 e.symm,h.out,h.ne,h.zt⟩,hm.mod.mono fun k hk _=>.inr (.inl hk),fun k hk=>.inl hk⟩
theorem Eg.to (h:Eg A w m V G S T)(hs:Sys w' m V' A.b A.p G')(hm:Turn w F w' F')(hF:∀ k,F k→k≠A.x∧k≠A.g∧k≠A.tt∧k≠A.bk∧k≠A.nb)(hG:∀ k,G' k→F' k):Eg A w' m V' G' S T:=by
 refine ⟨hs,h.x.mod hm.mod fun e=>(hF _ e).1 rfl,h.g.mod hm.mod fun e=>(hF _ e).2.1 rfl,h.t.mod hm.mod (fun e=>(hF _ e).2.2.1 rfl) (fun e=>(hF _ e).2.2.2.1 rfl) (fun e=>(hF _ e).2.2.2.2 rfl),fun k hk=>?_,h.ne,h.zt⟩
 rcases hm.new k (hG k hk) with h1|h1
 ·exact hF k h1
 ·have:=h.x.lt;have:=h.g.lt;have:=h.t.t.lt;have:=h.t.b.lt;have:=h.t.m.lt;exact ⟨by omega,by omega,by omega,by omega,by omega⟩
set_option maxHeartbeats 4000000
theorem Eg.c0 (h:Eg A w m V G S T):w.cell? ⟨A.g,0,none⟩=some (.pointer (some ⟨A.p,0,none⟩)):=h.g.cell 0
theorem Eg.c1 (h:Eg A w m V G S T):w.cell? ⟨A.g,1,none⟩=some (.pointer (some ⟨A.b,0,none⟩)):=h.g.cell 1
theorem Eg.c2 (h:Eg A w m V G S T):w.cell? ⟨A.g,2,none⟩=some (.pointer (some ⟨A.x,0,none⟩)):=h.g.cell 2
theorem Eg.c3 (h:Eg A w m V G S T):w.cell? ⟨A.g,3,none⟩=some (.pointer (some ⟨A.tt,0,none⟩)):=h.g.cell 3
theorem Eg.c4 (h:Eg A w m V G S T):w.cell? ⟨A.g,4,none⟩=some (.int .u64 (uv S.slot)):=h.g.cell 4
theorem Eg.c5 (h:Eg A w m V G S T):w.cell? ⟨A.g,5,none⟩=some S.job:=h.g.cell 5
theorem egNone_calls (w0:World)(h:Eg A w0 m V G S T):Ret Tryz.prog 31 #[.pointer (some ⟨A.g,0,none⟩)] w0 fun v w'=>v=.bool false∧w'=w0:=by
 refine ret_of (args:=[_]) _ Tryz.func31 rfl Tryz.ntmps31 (by simp) ?_;simp -implicitDefEqProofs [go_sem,h.c0];refine body_tmp 2 rfl ?_;simp -implicitDefEqProofs [go_sem]
theorem egBusyN_calls (w0:World)(h:Eg A w0 m V G S T)(hj:S.job=.nilIface):Ret Tryz.prog 43 #[.pointer (some ⟨A.g,0,none⟩)] w0 fun v w'=>v=.bool false∧w'=w0:=by
 have h5:=h.c5;rw [hj] at h5;refine ret_of (args:=[_]) _ Tryz.func43 rfl Tryz.ntmps43 (by simp) ?_;simp -implicitDefEqProofs [go_sem,h5];refine body_tmp 2 rfl ?_;simp -implicitDefEqProofs [go_sem]
theorem egBusyY_calls {t:TypeId}{u:Value}(w0:World)(h:Eg A w0 m V G S T)(hj:S.job=.iface t u):Ret Tryz.prog 43 #[.pointer (some ⟨A.g,0,none⟩)] w0 fun v w'=>v=.bool true∧w'=w0:=by
 have h5:=h.c5;rw [hj] at h5;refine ret_of (args:=[_]) _ Tryz.func43 rfl Tryz.ntmps43 (by simp) ?_;simp -implicitDefEqProofs [go_sem,h5];refine body_tmp 2 rfl ?_;simp -implicitDefEqProofs [go_sem]
theorem egMay_calls (w0:World)(h:Eg A w0 m V G S T)(ho:T.op=true):Ret Tryz.prog 42 #[.pointer (some ⟨A.g,0,none⟩),.int .i64 0] w0 fun v w'=>v=.int .i64 0∧w'=w0:=by
 have ht:=h.t;rw [ho] at ht;refine ret_of (args:=[_,_]) _ Tryz.func42 rfl Tryz.ntmps42 (by simp) ?_;simp -implicitDefEqProofs [go_sem];refine callE_of (egNone_calls w0 h) ?_;rintro v w1 ⟨rfl,rfl⟩;simp -implicitDefEqProofs [go_sem,h.c3];refine callE_of (txnAt_calls w1 ht) ?_;rintro v w2 ⟨rfl,rfl⟩;simp -implicitDefEqProofs [go_sem];refine body_tmp 4 rfl ?_;simp -implicitDefEqProofs [go_sem]
theorem egFree_calls (w0:World)(h:Eg A w0 m V G S T)(ho:T.op=true)(hj:S.job=.nilIface):Ret Tryz.prog 60 #[.pointer (some ⟨A.g,0,none⟩),.int .i64 0] w0 fun v w'=>v=.int .i64 0∧w'=w0:=by
 refine ret_of (args:=[_,_]) _ Tryz.func60 rfl Tryz.ntmps60 (by simp) ?_;simp -implicitDefEqProofs [go_sem];refine callE_of (egMay_calls w0 h ho) ?_;rintro v w1 ⟨rfl,rfl⟩;simp -implicitDefEqProofs [go_sem];refine callE_of (egBusyN_calls w1 h hj) ?_;rintro v w2 ⟨rfl,rfl⟩;simp -implicitDefEqProofs [go_sem];refine body_tmp 4 rfl ?_;simp -implicitDefEqProofs [go_sem]
theorem egBegin_calls (w0:World)(h:Eg A w0 m V G S T)(ho:T.op=false)(hm:T.many<16)(hb:T.bnd≤S.slot.toNat) :
  Ret Tryz.prog 19 #[.pointer (some ⟨A.g,0,none⟩)] w0 fun v w'=>v=.tuple #[.int .i64 0,.int .i64 0]∧∃ C',Eg A w' m V G S ⟨C',T.n,T.top,T.many+1,S.slot.toNat,true,S.slot,.slice none 0 0⟩∧Turn w0 (EF A G) w' (EF A G):=by
 have bel0:=Below.refl w0.heap.size w0;refine ret_of (args:=[_]) _ Tryz.func19 rfl Tryz.ntmps19 (by simp) ?_;simp -implicitDefEqProofs [go_sem];refine callE_of (egNone_calls w0 h) ?_;rintro v w1 ⟨rfl,rfl⟩;simp -implicitDefEqProofs [go_sem];refine drawE_mix [.pure 0,.pure 1,.pure 2,.pure 4,.pure 5,.pure 6,.take 3,.run 7 [3],.run 8 [],.pure 9,.pure 10,.pure 11,.pure 12] mixed (by decide +kernel) (by simp only [wo];rfl) ?_;have bd:=(Below.refl w1.heap.size w1).drew;generalize World.drew w1=w2 at *
 have h2:=h.next bd
 have ht:=h2.t;rw [ho] at ht;simp -implicitDefEqProofs [go_sem];refine onTake_of (fun w'=>w'.cell? ⟨A.g,3,none⟩=some (.pointer (some ⟨A.tt,0,none⟩))) (.pointer (some ⟨A.tt,0,none⟩)) h2.c3 (fun w' hw=>by simp -implicitDefEqProofs [go_sem,hw]) ?_;simp -implicitDefEqProofs [go_sem,h2.c4];refine callE_of (txnBegin_calls S.slot w2 ht hm hb) ?_;rintro v w3 ⟨rfl,C',ht3,t3⟩;refine ⟨.inr (by simp),?_⟩;simp -implicitDefEqProofs [go_sem];refine body_tmp2 2 3 rfl ?_;simp -implicitDefEqProofs [go_sem]
 obtain ⟨h3,t4⟩:=h2.tblB (T':=⟨C',T.n,T.top,T.many+1,S.slot.toNat,true,S.slot,.slice none 0 0⟩) ht3 t3;exact ⟨⟨C',h3⟩,(Turn.of bd).trans t4⟩
def EWrP (A:EA)(m:Nat)(V:PV)(G:Nat→Prop)(S:ES)(T:TS)(l:List WrV)(a:Option Addr)(x:WrV)(w0:World)(v:Value)(w':World):Prop :=
 ∃ (l':List WrV) (a':Option Addr) (c':Nat) (C':Array Value) (e:Int),v=.int .i64 e∧Eg A w' m V G S ⟨C',T.n,T.top,T.many,T.bnd,true,T.a0,.slice a' l'.length c'⟩∧RIn w' 3 a' (l'.map WrV.cs) c'∧SetOk l' ∧
   (∀ y,a'=some y→∃ b,y=⟨b,0,none⟩)∧(∀ y,a'=some y→y.block≠A.bk)∧Turn w0 (EF A G) w' (EF A G)∧((e=0∧x.right∧l'≠[])∨(e≠0∧l'=l))∧(l=[]→x.right→l'=[x]∧e=0)∧(∀ y,a'=some y→a'=a∨w0.heap.size≤y.block∧y.block<w'.heap.size)
theorem egWrite_calls {a:Option Addr}{l:List WrV}{cap:Nat}(x:WrV)(w0:World)(h:Eg A w0 m V G S T)(ho:T.op=true)(hj:S.job=.nilIface)(hs0:T.s0=.slice a l.length cap)(hin:RIn w0 3 a (l.map WrV.cs) cap)(hs:SetOk l)(hfm:∀ y,a=some y→∃ b,y=⟨b,0,none⟩)(hab:∀ y,a=some y→y.block≠A.bk) :
  Ret Tryz.prog 39 #[.pointer (some ⟨A.g,0,none⟩),.int .i64 0,.agg x.cs] w0 (EWrP A m V G S T l a x w0):=by
 have bel0:=Below.refl w0.heap.size w0;have hbk:=h.t.b.lt;refine ret_of (args:=[_,_,_]) _ Tryz.func39 rfl Tryz.ntmps39 (by simp) ?_;simp -implicitDefEqProofs [go_sem];generalize hw1:World.alloc w0 _=w1 at *;obtain ⟨hB1,b1,sz1,bel1⟩:=newF hw1 bel0;replace h:=h.next b1
 replace hin:=hin.next b1
 refine callE_of (egFree_calls w1 h ho hj) ?_;rintro v w2 ⟨rfl,rfl⟩;simp -implicitDefEqProofs [go_sem];refine drawE_mix [.pure 0,.pure 1,.pure 2,.pure 4,.take 3,.run 5 [3],.run 6 [],.pure 7] mixed (by decide +kernel) (by simp only [wo];rfl) ?_;have bd:=(Below.refl w2.heap.size w2).drew;have bel3:Below w0.heap.size w0 (World.drew w2):=bel1.drew;generalize World.drew w2=w3 at *;have h3:=h.next bd
 have hB3:=hB1.next bd
 have hin3:=hin.next bd
 have ldX:=ldAll (P:=Tryz.prog) hB3 Tryz.underlying104 rfl wrI (n:=3) x.cs_size;have ht:=h3.t;rw [ho,hs0] at ht;simp -implicitDefEqProofs [go_sem];refine onTake_of (fun w'=>w'.cell? ⟨A.g,3,none⟩=some (.pointer (some ⟨A.tt,0,none⟩))) (.pointer (some ⟨A.tt,0,none⟩)) h3.c3 (fun w' hw=>by simp -implicitDefEqProofs [go_sem,hw]) ?_;simp -implicitDefEqProofs [go_sem,↓ldX];refine callE_of (txnWrite_calls x w3 ht hin3 hs hfm hab) ?_;rintro v w4 ⟨l',a',c',C',e,rfl,ht4,hin4,hs4,hfm4,t4,hcase,hone⟩
 refine ⟨.inr (by simp),?_⟩;simp -implicitDefEqProofs [go_sem];refine body_tmp 6 rfl ?_;simp -implicitDefEqProofs [go_sem];obtain ⟨h5,t5⟩:=h3.tblB (T':=⟨C',T.n,T.top,T.many,T.bnd,true,T.a0,.slice a' l'.length c'⟩) ht4 t4;have hnew:∀ y,a'=some y→a'=a∨w0.heap.size≤y.block∧y.block<w4.heap.size:=fun y hy=>by
  rcases hcase with h|h
  ·have:=h.2.2.2 y hy;have:=bel3.size;exact .inr (by omega)
  ·exact .inl h.2.2
 refine ⟨l',a',c',C',e,rfl,h5,hin4,hs4,hfm4,fun y hy=>?_,(Turn.of bel3).trans t5,?_,hone,hnew⟩
 ·rcases hnew y hy with h6|h6
  ·exact hab y (h6▸hy)
  ·omega
 ·rcases hcase with h|h
  ·exact .inl ⟨h.1,h.2.1,h.2.2.1⟩
  ·exact .inr ⟨h.1,h.2.1⟩
theorem egPut_calls {a:Option Addr}{l:List WrV}{cap:Nat}(key text:ByteArray)(w0:World)(h:Eg A w0 m V G S T)(ho:T.op=true)(hj:S.job=.nilIface)(hs0:T.s0=.slice a l.length cap)(hin:RIn w0 3 a (l.map WrV.cs) cap)(hs:SetOk l)(hfm:∀ y,a=some y→∃ b,y=⟨b,0,none⟩)(hab:∀ y,a=some y→y.block≠A.bk) :
  Ret Tryz.prog 21 #[.pointer (some ⟨A.g,0,none⟩),.int .i64 0,.string key,.string text] w0 (EWrP A m V G S T l a ⟨key,text,false⟩ w0):=by
 refine ret_of (args:=[_,_,_,_]) _ Tryz.func21 rfl Tryz.ntmps21 (by simp) ?_;simp -implicitDefEqProofs [go_sem];refine callE_of (egWrite_calls ⟨key,text,false⟩ w0 h ho hj hs0 hin hs hfm hab) ?_;rintro v w1 hP;have hv:∃ e,v=.int .i64 e:=by obtain ⟨_,_,_,_,e,h,_⟩:=hP;exact ⟨e,h⟩
 obtain ⟨e,rfl⟩:=hv;simp -implicitDefEqProofs [go_sem];refine body_tmp 8 rfl ?_;simp -implicitDefEqProofs [go_sem];exact hP
theorem egDel_calls {a:Option Addr}{l:List WrV}{cap:Nat}(key:ByteArray)(w0:World)(h:Eg A w0 m V G S T)(ho:T.op=true)(hj:S.job=.nilIface)(hs0:T.s0=.slice a l.length cap)(hin:RIn w0 3 a (l.map WrV.cs) cap)(hs:SetOk l)(hfm:∀ y,a=some y→∃ b,y=⟨b,0,none⟩)(hab:∀ y,a=some y→y.block≠A.bk) :
  Ret Tryz.prog 20 #[.pointer (some ⟨A.g,0,none⟩),.int .i64 0,.string key] w0 (EWrP A m V G S T l a ⟨key,⟨#[]⟩,true⟩ w0):=by
 refine ret_of (args:=[_,_,_]) _ Tryz.func20 rfl Tryz.ntmps20 (by simp) ?_;simp -implicitDefEqProofs [go_sem];refine callE_of (egWrite_calls ⟨key,⟨#[]⟩,true⟩ w0 h ho hj hs0 hin hs hfm hab) ?_;rintro v w1 hP;have hv:∃ e,v=.int .i64 e:=by obtain ⟨_,_,_,_,e,h,_⟩:=hP;exact ⟨e,h⟩
 obtain ⟨e,rfl⟩:=hv;simp -implicitDefEqProofs [go_sem];refine body_tmp 6 rfl ?_;simp -implicitDefEqProofs [go_sem];exact hP
theorem egAbort_calls (w0:World)(h:Eg A w0 m V G S T)(ho:T.op=true)(hj:S.job=.nilIface) :
  Ret Tryz.prog 29 #[.pointer (some ⟨A.g,0,none⟩),.int .i64 0] w0 fun v w'=>v=.int .i64 0∧∃ C',Eg A w' m V G S ⟨C',T.n,T.top,T.many,T.bnd,false,0#64,.slice none 0 0⟩∧Turn w0 (EF A G) w' (EF A G):=by
 refine ret_of (args:=[_,_]) _ Tryz.func29 rfl Tryz.ntmps29 (by simp) ?_;simp -implicitDefEqProofs [go_sem];refine callE_of (egFree_calls w0 h ho hj) ?_;rintro v w1 ⟨rfl,rfl⟩;have ht:=h.t;rw [ho] at ht;simp -implicitDefEqProofs [go_sem,h.c3];refine callE_of (txnEnd_calls w1 ht) ?_;rintro v w2 ⟨rfl,C',ht2,t2⟩;simp -implicitDefEqProofs [go_sem];refine body_tmp 4 rfl ?_;simp -implicitDefEqProofs [go_sem];obtain ⟨h3,t3⟩:=h.tblB (T':=⟨C',T.n,T.top,T.many,T.bnd,false,0#64,.slice none 0 0⟩) ht2 t2
 exact ⟨⟨C',h3⟩,t3⟩
theorem egSlot_calls (w0:World)(h:Eg A w0 m V G S T):Ret Tryz.prog 13 #[.pointer (some ⟨A.g,0,none⟩)] w0 fun v w'=>v=.int .u64 (uv S.slot)∧w'=w0:=by
 refine ret_of (args:=[_]) _ Tryz.func13 rfl Tryz.ntmps13 (by simp) ?_;simp -implicitDefEqProofs [go_sem];refine callE_of (egNone_calls w0 h) ?_;rintro v w1 ⟨rfl,rfl⟩;simp -implicitDefEqProofs [go_sem,h.c4];refine body_tmp 2 rfl ?_;simp -implicitDefEqProofs [go_sem]
theorem egBlocks_calls (w0:World)(h:Eg A w0 m V G S T)(hr:Rest m V)(hm:m=6∨m=24):Ret Tryz.prog 15 #[.pointer (some ⟨A.g,0,none⟩)] w0 fun v w'=>∃ a c,v=.slice a (allK (shN m) V.T m).length c∧VsIn w' a (nats (allK (shN m) V.T m)) c∧Below w0.heap.size w0 w':=by
 obtain ⟨tb,tc,hb,hc,F,hP,hG⟩:=h.sys.pd;have hl:=hr.well.len;refine ret_of (args:=[_]) _ Tryz.func15 rfl Tryz.ntmps15 (by simp) ?_;simp -implicitDefEqProofs [go_sem];refine callE_of (egNone_calls w0 h) ?_;rintro v w1 ⟨rfl,rfl⟩;have hA:=poolAll_calls w1 hP.pool (by omega) (shN_data hm);rw [hl] at hA;simp -implicitDefEqProofs [go_sem,h.c1];refine callE_of hA ?_;rintro v w2 ⟨a,c,rfl,hv,b2⟩;simp -implicitDefEqProofs [go_sem];refine body_tmp 2 rfl ?_;simp -implicitDefEqProofs [go_sem]
 exact ⟨a,c,⟨rfl,rfl⟩,hv,b2⟩
end
end
section
open Go Go.RowKit
open TR
theorem taskI:(Tryz.prog.info? 79).map (·.size)=some 4:=by kernel_rfl
structure EgJ (A:EA) (w:World) (m:Nat) (V:PV) (G:Nat→Prop) (S:ES) (T:TS) (B0 j:Nat) (l:List WrV) (L:List PastV) (aq ad aset:Option Addr) (cs cd cset:Nat):Prop where
 eg:Eg A w m V G S T
 cj:CJ w A.p A.b A.x j G S.stamp l L aq ad cs cd
 lo:A.x<B0∧A.g<B0∧A.tt<B0∧A.bk<B0∧A.nb<B0
 hj:B0≤j
 hd:∀ y,ad=some y→B0≤y.block
 set:RIn w 3 aset (l.map WrV.cs) cset
 hs:∀ y,aset=some y→B0≤y.block∧y.block<w.heap.size∧¬ G y.block∧y.block≠j∧(∀ z,ad=some z→z.block≠y.block)
 job:S.job=.iface 111 (.pointer (some ⟨j,0,none⟩))
 id:S.id=0
 sv:S.set=.slice aset l.length cset
section
variable {A:EA} {w w' w0:World} {m:Nat} {V V':PV} {G G' F F':Nat→Prop} {S S':ES} {T T':TS} {a:Option Addr} {l:List WrV} {cap:Nat}
set_option maxHeartbeats 4000000
theorem egCommit0_calls (w0:World)(h:Eg A w0 m V G S T)(ho:T.op=true)(hj:S.job=.nilIface)(hs0:T.s0=.slice a ([]:List WrV).length cap)(hin:RIn w0 3 a (([]:List WrV).map WrV.cs) cap) :
  Ret Tryz.prog 23 #[.pointer (some ⟨A.g,0,none⟩),.int .i64 0] w0 fun v w'=>v=.int .i64 0∧∃ C',Eg A w' m V G S ⟨C',T.n,T.top,T.many,T.bnd,false,0#64,.slice none 0 0⟩∧Turn w0 (EF A G) w' (EF A G):=by
 have bel0:=Below.refl w0.heap.size w0;have ht:=h.t;rw [ho,hs0] at ht;refine ret_of (args:=[_,_]) _ Tryz.func23 rfl Tryz.ntmps23 (by simp) ?_;simp -implicitDefEqProofs [go_sem];refine callE_of (egMay_calls w0 h ho) ?_;rintro v w1 ⟨rfl,rfl⟩;simp -implicitDefEqProofs [go_sem];refine callE_of (egBusyN_calls w1 h hj) ?_;rintro v w2 ⟨rfl,rfl⟩;simp -implicitDefEqProofs [go_sem,h.c3];refine callE_of (txnSet_calls w2 ht hin (by simp)) ?_;rintro v w3 ⟨a3,c3,rfl,hrow3,b3⟩;have h3:=h.next b3
 have ht3:=ht.next b3
 simp -implicitDefEqProofs [go_sem,h3.c3];refine callE_of (txnEnd_calls w3 ht3) ?_;rintro v w4 ⟨rfl,C',ht4,t4⟩;simp -implicitDefEqProofs [go_sem];refine body_tmp 4 rfl ?_;simp -implicitDefEqProofs [go_sem];obtain ⟨h4,t5⟩:=h3.tblB (T':=⟨C',T.n,T.top,T.many,T.bnd,false,0#64,.slice none 0 0⟩) ht4 t4;exact ⟨⟨C',h4⟩,(Turn.of b3).trans t5⟩
theorem egCommit_calls (w0:World)(h:Eg A w0 m V G S T)(ho:T.op=true)(hj:S.job=.nilIface)(hs0:T.s0=.slice a l.length cap)(hin:RIn w0 3 a (l.map WrV.cs) cap)(hs:SetOk l)(hne:l≠[])(hr:Rest m V)(hm:m=6∨m=24)(hw:V.D.word 64=S.slot)(hsl:S.slot.toNat<60000)(htop:T.top≤T.a0.toNat) :
  Ret Tryz.prog 23 #[.pointer (some ⟨A.g,0,none⟩),.int .i64 0] w0 fun v w'=>v=.int .i64 0∧∃ j aq aset cs cset,EgJ A w' m V G ⟨S.slot,.iface 111 (.pointer (some ⟨j,0,none⟩)),0,.slice aset l.length cset,S.slot+1#64⟩ T w0.heap.size j l [] aq none aset cs 0 cset∧Turn w0 (EF A G) w' (EF A G):=by
 have bel0:=Below.refl w0.heap.size w0;have ht:=h.t;have hlt:=h.lt;have hxlt:=h.xlt;rw [ho,hs0] at ht;have hl16:=hs.len;have hl0:(l.length:Int)≠0:=by
  intro e;exact hne (List.eq_nil_of_length_eq_zero (by omega))
 have e1:(S.slot+1#64).toNat=S.slot.toNat+1:=by
  rw [BitVec.toNat_add];show (S.slot.toNat+1)%18446744073709551616=_;omega
 refine ret_of (args:=[_,_]) _ Tryz.func23 rfl Tryz.ntmps23 (by simp) ?_;simp -implicitDefEqProofs [go_sem];refine callE_of (egMay_calls w0 h ho) ?_;rintro v w1 ⟨rfl,rfl⟩;simp -implicitDefEqProofs [go_sem];refine callE_of (egBusyN_calls w1 h hj) ?_;rintro v w2 ⟨rfl,rfl⟩;simp -implicitDefEqProofs [go_sem,h.c3];refine callE_of (txnSet_calls w2 ht hin (by omega)) ?_;rintro v w3 ⟨a3,c3,rfl,hrow3,b3⟩;have h3:=h.next b3
 have ht3:=ht.next b3
 have hin3:=hin.next b3
 have hl0b:((l.length:Int)==0)=false:=beq_eq_false_iff_ne.2 hl0;simp -implicitDefEqProofs [go_sem,h3.c3,hl0b];refine callE_of (txnClash_calls w3 ht3 hin3 hs htop) ?_;rintro v w4 ⟨rfl,b4⟩;have h4:=h3.next b4
 have c60:¬ (60000#64:BitVec 64)≤S.slot:=by rw [BitVec.le_def];show ¬ 60000≤S.slot.toNat;omega
 simp -implicitDefEqProofs [go_sem,h4.c4,c60];refine drawE_mix [.pure 0,.pure 1,.pure 2,.pure 4,.pure 5,.pure 6,.pure 8,.pure 9,.pure 10,.pure 12,.pure 13,.pure 14,.pure 17,.take 3,.take 7,.take 11,.run 15 [3,7,11],.pure 16,.run 18 [],.pure 19,.pure 20,.pure 21,.pure 22,.pure 23] mixed (by decide +kernel) (by simp only [wo];rfl) ?_;have bd:=(Below.refl w4.heap.size w4).drew;generalize World.drew w4=w5 at *;have h5:=h4.next bd
 have hin5:=((owns_rin (wr_size l) (by simp) hrow3).next b4).next bd
 have k0:CellIs w5 ⟨A.g,0,none⟩ (.pointer (some ⟨A.p,0,none⟩)):=h5.c0;have k1:CellIs w5 ⟨A.g,1,none⟩ (.pointer (some ⟨A.b,0,none⟩)):=h5.c1;have k2:CellIs w5 ⟨A.g,2,none⟩ (.pointer (some ⟨A.x,0,none⟩)):=h5.c2;simp -implicitDefEqProofs [go_sem];refine onTake_of (fun w'=>CellIs w' ⟨A.g,0,none⟩ (.pointer (some ⟨A.p,0,none⟩))) (.pointer (some ⟨A.p,0,none⟩)) k0 (fun w' hw=>by
  have hw:w'.cell? _=_:=hw;simp -implicitDefEqProofs [go_sem,hw]) ?_
 simp -implicitDefEqProofs [go_sem];refine onTake_of (fun w'=>CellIs w' ⟨A.g,1,none⟩ (.pointer (some ⟨A.b,0,none⟩))) (.pointer (some ⟨A.b,0,none⟩)) k1 (fun w' hw=>by
  have hw:w'.cell? _=_:=hw;simp -implicitDefEqProofs [go_sem,hw]) ?_
 simp -implicitDefEqProofs [go_sem];refine onTake_of (fun w'=>CellIs w' ⟨A.g,2,none⟩ (.pointer (some ⟨A.x,0,none⟩))) (.pointer (some ⟨A.x,0,none⟩)) k2 (fun w' hw=>by
  have hw:w'.cell? _=_:=hw;simp -implicitDefEqProofs [go_sem,hw]) ?_
 simp -implicitDefEqProofs [go_sem,h5.c4];have hN:=cnew_calls (x:=A.x) (st:=S.slot+1#64) w5 h5.sys hr hm hin5 hs (by rw [hw,e1];omega) (by rw [e1];omega);refine callE_of hN ?_;rintro v w6 ⟨j,aq,cq,rfl,hjB,hq6,hjge,hqn,b6⟩;refine ⟨.inr (by simp),?_⟩;have h6:=h5.next b6
 have stT:=stE (P:=Tryz.prog) (ty:=79) (o:=5) (cs:=#[.iface 111 (.pointer (some ⟨j,0,none⟩)),.int .i64 0,.slice a3 l.length c3,.int .u64 (uv (S.slot+1#64))]) h6.g taskI (by show 5+4≤9;decide) (by simp [Value.oneCell']);simp -implicitDefEqProofs [go_sem,h6.c4,↓stT];have eS:segPut (engC A S) 5 #[.iface 111 (.pointer (some ⟨j,0,none⟩)),.int .i64 0,.slice a3 l.length c3,.int .u64 (uv (S.slot+1#64))]=engC A ⟨S.slot,.iface 111 (.pointer (some ⟨j,0,none⟩)),0,.slice a3 l.length c3,S.slot+1#64⟩:=rfl
 rw [eS];have hB7:=h6.g.row (engC A ⟨S.slot,.iface 111 (.pointer (some ⟨j,0,none⟩)),0,.slice a3 l.length c3,S.slot+1#64⟩);have t7:Turn w6 (·=A.g) (w6.setRow A.g (engC A ⟨S.slot,.iface 111 (.pointer (some ⟨j,0,none⟩)),0,.slice a3 l.length c3,S.slot+1#64⟩)) (·=A.g):=⟨(Mod.refl (fun k=>k=A.g) w6).row (.inl rfl) _,fun k hk=>.inl hk⟩;obtain ⟨h7,t8⟩:=h6.eng hB7 t7;have b36:=b4.trans (btr bd b6 |>.mono b4.size);have hs3:=b3.size;have hs6:=b36.size;have hs5:=bd.size;have hs4:=b4.size
 have lG:=hlt A.g (.inr (.inl rfl));have lK:=hlt A.bk (.inr (.inr (.inl rfl)));have lN:=hlt A.nb (.inr (.inr (.inr rfl)));have hltG:∀ k,G k→k<w2.heap.size:=fun k hk=>hlt k (.inl hk)
 have hblk3:=ownsRow_blk hrow3;have htlt:=h.sys.tabs.lt;refine body_tmp 4 rfl ?_;simp -implicitDefEqProofs [go_sem];refine ⟨⟨j,aq,a3,cq,c3,⟨h7,⟨hjB.mod t7.mod (fun e=>by omega),fun hG=>by have:=hltG _ hG;omega,hq6.mod t7.mod (fun k ⟨y,hy,hk⟩ e=>by have:=hqn y hy;omega),World.ownsRow_nil _ _ _ _,fun y hy=>?_,(fun y hy=>by cases hy),fun e=>by omega⟩,⟨hxlt.1,lG,hxlt.2,lK,lN⟩,by omega,(fun y hy=>by cases hy),?_,fun y hy=>?_,rfl,rfl,rfl⟩⟩,(Turn.of (btr b3 b36)).trans t8⟩
 ·have h1:=hqn y hy;exact ⟨by have:=t7.size;omega,fun hG=>by have:=hltG _ hG;omega,h1.2.2⟩
 ·exact ((owns_rin (wr_size l) (by simp) hrow3).next b36).mod t7.mod (fun k ⟨y,hy,hk⟩ e=>by have:=hblk3 k ⟨y,hy,hk⟩;omega)
 ·have h1:=hblk3 _ ⟨y,hy,rfl⟩;exact ⟨by omega,by have:=t7.size;omega,fun hG=>by have:=hltG _ hG;omega,by omega,fun z hz=>by cases hz⟩
def EStepP (A:EA)(m:Nat)(V:PV)(G:Nat→Prop)(S:ES)(T:TS)(o:Option Tr)(ch:ChF)(I0:List TR.Item)(ch0:ChF)(B0 j:Nat)(l:List WrV)(L:List PastV)(aq ad aset:Option Addr)(cs cset:Nat)(w0:World)(v:Value)(w':World):Prop :=
 ∃ (over:Bool) (e:Int) (V':PV) (G':Nat→Prop) (o':Option Tr),v=.tuple #[.int .i64 0,.bool over,.int .i64 e]∧Turn w0 (fun k=>EF A G k∨B0≤k) w' (fun k=>EF A G' k∨B0≤k)∧V'.D.steps≤V.D.steps+70000 ∧
  ((over=false∧e=0∧∃ (q:PastV) (ch':ChF) (ad':Option Addr) (cd':Nat) (hq:L.length<l.length),EgJ A w' m V' G' S T B0 j l (L++[q]) aq ad' aset cs cd' cset∧JSt m V' o' ch' I0 ch0 S.stamp l (L++[q])∧V'.D.word 64=V.D.word 64 ∧
    ((q.place=0#64∧l[L.length].gone=true)∨∃ off r,Stp (itemsO o) (itemsO o') ch ch' q off r∧q.key=l[L.length].key∧r.stamp=S.stamp∧r.gone=l[L.length].gone∧r.text=l[L.length].text)) ∨
   (over=true∧e=0∧L.length=l.length∧o'=o∧Sto m V' o ch [] S.stamp.toNat∧V'.D.word 64=S.stamp∧∃ C',Eg A w' m V' G' ⟨S.stamp,.nilIface,0,.slice none 0 0,0#64⟩ ⟨C',T.n+l.length,S.stamp.toNat,T.many,T.bnd,false,0#64,.slice none 0 0⟩) ∨
   (over=true∧e=6∧L.length<l.length∧Sto m V' o' ch0 [] S.stamp.toNat∧itemsO o'=I0∧V'.D.word 64=V.D.word 64∧(∃ V1 L1,Grew m V V1 L1∧L1.length≤5∧Many m V1 m)∧∃ C',Eg A w' m V' G' ⟨S.slot,.nilIface,0,.slice none 0 0,0#64⟩ ⟨C',T.n,T.top,T.many,T.bnd,false,0#64,.slice none 0 0⟩))
theorem inv_step (n:Nat)(w:World)(j:Nat):(method (n+1) 111 (.pointer (some ⟨j,0,none⟩)) "Step").run Tryz.prog w=.ok (247,.pointer (some ⟨j,0,none⟩)) w:=method_ptr n w (by kernel_rfl) Tryz.underlying111
theorem egStep_calls {o:Option Tr}{ch ch0:ChF}{I0:List TR.Item}{B0 j:Nat}{L:List PastV}{aq ad aset:Option Addr}{cs cd cset:Nat}(w0:World)(h:EgJ A w0 m V G S T B0 j l L aq ad aset cs cd cset)(hS:JSt m V o ch I0 ch0 S.stamp l L)(ho:T.op=true)(hl:SetOk l)(hm:m=6∨m=24)(hst:V.D.steps+3400000<1099511627776)(h0:S.stamp≠0#64)(hn:T.n≤1000)(htop:T.top≤S.stamp.toNat) :
  Ret Tryz.prog 24 #[.pointer (some ⟨A.g,0,none⟩)] w0 fun v w'=>EStepP A m V G S T o ch I0 ch0 B0 j l L aq ad aset cs cset w0 v w':=by
 have bel0:=Below.refl w0.heap.size w0;obtain ⟨lx,lg,lt,lk,ln⟩:=h.lo;have hlt:=h.eg.lt;refine ret_of (args:=[_]) _ Tryz.func24 rfl Tryz.ntmps24 (by simp) ?_;simp -implicitDefEqProofs [go_sem];refine callE_of (egNone_calls w0 h.eg) ?_;rintro v w1 ⟨rfl,rfl⟩;simp -implicitDefEqProofs [go_sem];refine callE_of (egBusyY_calls w1 h.eg h.job) ?_;rintro v w2 ⟨rfl,rfl⟩
 have ldT:=ldE (P:=Tryz.prog) (ty:=79) (o:=5) (n:=4) (cs:=#[S.job,.int .i64 S.id,S.set,.int .u64 (uv S.stamp)]) h.eg.g Tryz.underlying79 rfl taskI (by show 5+4≤9;decide) rfl;have stT:=stNew (P:=Tryz.prog) (t:=79) (cs:=#[S.job,.int .i64 S.id,S.set,.int .u64 (uv S.stamp)]) (C0:=#[.nilIface,.int .i64 0,.slice none 0 0,.int .u64 0]) taskI rfl (by rw [h.job,h.sv];simp [Value.oneCell']);have hjob:=h.job;have hinv:=inv_step;simp -implicitDefEqProofs [go_sem,↓ldT,↓stT,hjob,hinv];have bel2:=bel0
 rw [← hjob];generalize hw3:World.alloc w2 _=w3 at *;obtain ⟨hB3,b3,sz3,bel3⟩:=newF hw3 bel2;have hid:=h.id;have heg3:=h.eg.next b3
 refine callE_of (cstep_calls w3 heg3.sys hm hst heg3.x (fun hG=>(h.eg.out _ hG).1 rfl) (h.cj.next b3) hS hl h0) ?_;rintro v w4 ⟨over,e,V4,G4,o4,ad4,rfl,h4,t4,hs4,hcase⟩;have hsz3:=b3.size;have hjlt:=h.cj.blk.lt;have hCF:∀ k,CF G j ad k→k≠A.x∧k≠A.g∧k≠A.tt∧k≠A.bk∧k≠A.nb:=fun k hk=>by
  rcases hk with hk|rfl|⟨y,hy,rfl⟩
  ·exact h.eg.out k hk
  ·have:=h.hj;exact ⟨by omega,by omega,by omega,by omega,by omega⟩
  ·have:=h.hd y hy;exact ⟨by omega,by omega,by omega,by omega,by omega⟩
 have hCFlt:∀ k,CF G j ad k→k<w2.heap.size:=fun k hk=>by
  rcases hk with hk|rfl|⟨y,hy,rfl⟩
  ·exact hlt k (.inl hk)
  ·exact hjlt
  ·exact (h.cj.sd y hy).1
 have heg4:Eg A w4 m V4 G4 S T:=heg3.to h4 t4 hCF fun k hk=>.inl hk
 have hB4:=hB3.mod t4.mod (fun hk=>by have:=hCFlt _ hk;omega);have t24:Turn w2 (fun k=>EF A G k∨B0≤k) w4 (fun k=>EF A G4 k∨B0≤k):=by
  have hB0:∀ k,CF G j ad k→G k∨B0≤k:=fun k hk=>by
   rcases hk with hk|rfl|⟨y,hy,rfl⟩
   ·exact .inl hk
   ·exact .inr h.hj
   ·exact .inr (h.hd y hy)
  refine ⟨(Mod.of (F:=fun k=>EF A G k∨B0≤k) b3).trans t4.mod fun k hk _=>?_,fun k hk=>?_⟩
  ·rcases hB0 k hk with h1|h1
   ·exact .inl (.inl h1)
   ·exact .inr h1
  ·rcases hk with (hk|hk)|hk
   ·rcases t4.new k (.inl hk) with h1|h1
    ·rcases hB0 k h1 with h2|h2
     ·exact .inl (.inl (.inl h2))
     ·exact .inl (.inr h2)
    ·exact .inr (by omega)
   ·exact .inl (.inl (.inr hk))
   ·exact .inl (.inr hk)
 have hset4:=(h.set.next b3).mod t4.mod (fun k ⟨y,hy,hk⟩ hc=>by
  have h1:=h.hs y hy
  rcases hc with hc|hc|⟨z,hz,hc⟩
  ·exact h1.2.2.1 (by rw [hk];exact hc)
  ·exact h1.2.2.2.1 (by rw [hk];exact hc)
  ·exact h1.2.2.2.2 z hz (by rw [hc,hk]))
 rcases hcase with ⟨rfl,rfl,q,ch4,cd4,hq,hcj,hjs,hw64,had,hfin⟩|⟨rfl,rfl,hLe,rfl,hS4,hw4⟩|⟨rfl,rfl,hLt,hS4,hI4,hw4,hmany⟩
 ·simp -implicitDefEqProofs [go_sem,hB4.cell,hid];refine body_tmp3 2 3 4 rfl ?_;simp -implicitDefEqProofs [go_sem];have hadB:∀ y,ad4=some y→B0≤y.block:=fun y hy=>by
   rcases had y hy with ⟨z,hz,hb⟩|h1
   ·rw [← hb];exact h.hd z hz
   ·have:=h.hj;omega
  refine ⟨false,0,V4,G4,o4,rfl,t24,hs4,.inl ⟨rfl,rfl,q,ch4,ad4,cd4,hq,⟨heg4,hcj,h.lo,h.hj,hadB,hset4,fun y hy=>?_,h.job,h.id,h.sv⟩,hjs,hw64,hfin⟩⟩;have h1:=h.hs y hy;have h4s:=t4.size;refine ⟨h1.1,by omega,fun hG=>?_,h1.2.2.2.1,fun z hz e=>?_⟩
  ·rcases t4.new _ (.inl hG) with (h2|h2|⟨z,hz,h2⟩)|h2
   ·exact h1.2.2.1 h2
   ·exact h1.2.2.2.1 h2
   ·exact h1.2.2.2.2 z hz h2
   ·omega
  ·rcases had z hz with ⟨u,hu,hb⟩|h2
   ·exact h1.2.2.2.2 u hu (hb.trans e)
   ·omega
 all_goals
  simp -implicitDefEqProofs [go_sem];refine drawE_mix [.pure 0,.pure 1,.pure 2,.pure 4,.take 3,.run 5 [3],.run 6 []] mixed (by decide +kernel) (by simp only [wo];rfl) ?_;have bd:=(Below.refl w4.heap.size w4).drew;generalize World.drew w4=w5 at *;have h5:=heg4.next bd
  have hB5:=hB4.next bd
  have hset5:=hset4.next bd
  have ht5:=h5.t;rw [ho] at ht5;have k3:CellIs w5 ⟨A.g,3,none⟩ (.pointer (some ⟨A.tt,0,none⟩)):=h5.c3;have hh4:=t4.size;have hh5:=bd.size;simp -implicitDefEqProofs [go_sem];refine onTake_of (fun w'=>CellIs w' ⟨A.g,3,none⟩ (.pointer (some ⟨A.tt,0,none⟩))) (.pointer (some ⟨A.tt,0,none⟩)) k3 (fun w' hw=>by
   have hw:w'.cell? _=_:=hw;simp -implicitDefEqProofs [go_sem,hw]) ?_
  simp -implicitDefEqProofs [go_sem,hB5.cell,hid];refine callE_of (txnEnd_calls w5 ht5) ?_;rintro v w6 ⟨rfl,C6,ht6,t6⟩;refine ⟨.inr (by simp),?_⟩;have hBne:w2.heap.size≠A.bk∧w2.heap.size≠A.g∧w2.heap.size≠A.nb:=by have:=h.hj;exact ⟨by omega,by omega,by omega⟩
  obtain ⟨h6,t6'⟩:=h5.tblB (T':=⟨C6,T.n,T.top,T.many,T.bnd,false,0#64,.slice none 0 0⟩) ht6 t6;have hB6:=hB5.mod t6.mod hBne.1;have hset6:=hset5.mod t6.mod (fun k ⟨y,hy,hk⟩ e=>by have:=(h.hs y hy).1;have:=h.lo.2.2.2.1;omega);have stZ:=stE (P:=Tryz.prog) (ty:=79) (o:=5) (cs:=#[.nilIface,.int .i64 0,.slice none 0 0,.int .u64 0]) h6.g taskI (by show 5+4≤9;decide) (by simp [Value.oneCell'])
  have eS:segPut (engC A S) 5 #[.nilIface,.int .i64 0,.slice none 0 0,.int .u64 0]=engC A ⟨S.slot,.nilIface,0,.slice none 0 0,0#64⟩:=rfl;rw [eS] at stZ;have hB7:=h6.g.row (engC A ⟨S.slot,.nilIface,0,.slice none 0 0,0#64⟩);have t7:Turn w6 (·=A.g) (w6.setRow A.g (engC A ⟨S.slot,.nilIface,0,.slice none 0 0,0#64⟩)) (·=A.g):=⟨(Mod.refl (fun k=>k=A.g) w6).row (.inl rfl) _,fun k hk=>.inl hk⟩;obtain ⟨h7,t7'⟩:=h6.eng hB7 t7;have hB67:=hB6.mod t7.mod hBne.2.1
  have hset7:=hset6.mod t7.mod (fun k ⟨y,hy,hk⟩ e=>by have:=(h.hs y hy).1;have:=h.lo.2.1;omega);have lift:∀ {X Y:World},Turn X (EF A G4) Y (EF A G4)→Turn X (fun k=>EF A G4 k∨B0≤k) Y (fun k=>EF A G4 k∨B0≤k):=fun ht=>⟨ht.mod.mono fun k hk _=>.inl hk,fun k hk=>.inl hk⟩
  have t27:=((t24.trans (Turn.of bd)).trans (lift t6')).trans (lift t7')
 ·simp -implicitDefEqProofs [go_sem,↓stZ];generalize World.setRow w6 _ _=w7 at *;have c74:=h7.c4;have f74:=h7.g.thaw 4;have hh7:=t7.size;have hh6:=t6.size;have m8:Turn w7 (·=A.g) (w7.setCell ⟨A.g,4,none⟩ (.int .u64 (uv S.stamp))) (·=A.g):=⟨(Mod.refl (fun k=>k=A.g) w7).setCell (a:=⟨A.g,4,none⟩) (.inl rfl) _,fun k hk=>.inl hk⟩;have hB8:Blk (w7.setCell ⟨A.g,4,none⟩ (.int .u64 (uv S.stamp))) A.g (engC A ⟨S.stamp,.nilIface,0,.slice none 0 0,0#64⟩) 81:=h7.g.set 4 (.int .u64 (uv S.stamp))
  obtain ⟨h8,t8'⟩:=h7.eng hB8 m8;have hB68:=hB67.mod m8.mod hBne.2.1;have hset8:=hset7.mod m8.mod (fun k ⟨y,hy,hk⟩ e=>by have:=(h.hs y hy).1;have:=h.lo.2.1;omega);simp -implicitDefEqProofs [go_sem,hB67.cell,c74,f74];generalize World.setCell w7 _ _=w8 at *;refine drawE_mix [.pure 0,.pure 1,.pure 2,.pure 4,.pure 6,.take 3,.take 5,.run 7 [3,5],.run 8 []] mixed (by decide +kernel) (by simp only [wo];rfl) ?_;have bd9:=(Below.refl w8.heap.size w8).drew;generalize World.drew w8=w9 at *
  have h9:=h8.next bd9
  have hB9:=hB68.next bd9
  have hset9:=hset8.next bd9
  have k93:CellIs w9 ⟨A.g,3,none⟩ (.pointer (some ⟨A.tt,0,none⟩)):=h9.c3;have k92:CellIs w9 ⟨w2.heap.size,2,none⟩ (.slice aset l.length cset):=by
   have:=hB9.cell 2;rw [h.sv] at this;exact this
  have hh8:=m8.size;have hh9:=bd9.size;simp -implicitDefEqProofs [go_sem];refine onTake_of (fun w'=>CellIs w' ⟨A.g,3,none⟩ (.pointer (some ⟨A.tt,0,none⟩))) (.pointer (some ⟨A.tt,0,none⟩)) k93 (fun w' hw=>by
   have hw:w'.cell? _=_:=hw;simp -implicitDefEqProofs [go_sem,hw]) ?_
  simp -implicitDefEqProofs [go_sem];refine onTake_of (fun w'=>CellIs w' ⟨w2.heap.size,2,none⟩ (.slice aset l.length cset)) (.slice aset l.length cset) k92 (fun w' hw=>by
   have hw:w'.cell? _=_:=hw;simp -implicitDefEqProofs [go_sem,hw]) ?_
  simp -implicitDefEqProofs [go_sem,hB9.cell];have hsp:SepA w9 (·=A.nb) aset:=fun y hy=>by
   have h1:=h.hs y hy;have:=h.lo.2.2.2.2;exact ⟨by omega,fun e=>by omega⟩
  refine callE_of (txnNote_calls w9 h9.t hset9 hl hn htop hsp) ?_;rintro v w10 ⟨rfl,ht10,t10⟩;refine ⟨.inr (by simp),?_⟩;obtain ⟨h10,t10'⟩:=h9.tblN (T':=⟨C6,T.n+l.length,S.stamp.toNat,T.many,T.bnd,false,0#64,.slice none 0 0⟩) ht10 t10;have hB10:=hB9.mod t10.mod hBne.2.2;simp -implicitDefEqProofs [go_sem,hB10.cell,hid];refine body_tmp3 2 3 4 rfl ?_;simp -implicitDefEqProofs [go_sem]
  exact ⟨true,0,V4,G4,_,rfl,(((t27.trans (lift t8')).trans (Turn.of bd9)).trans (lift t10')),hs4,.inr (.inl ⟨rfl,rfl,hLe,rfl,hS4,hw4,C6,h10⟩)⟩
 ·simp -implicitDefEqProofs [go_sem,↓stZ];generalize World.setRow w6 _ _=w7 at *;simp -implicitDefEqProofs [go_sem,hB67.cell,hid];refine body_tmp3 2 3 4 rfl ?_;simp -implicitDefEqProofs [go_sem];exact ⟨true,6,V4,G4,o4,rfl,t27,hs4,.inr (.inr ⟨rfl,rfl,hLt,hS4,hI4,hw4,hmany,C6,h7⟩)⟩
end
end
section
open Go Go.RowKit
open TR
theorem less_nil (x:List UInt8):Op.bytesLess x []=false:=by cases x<;>rfl
theorem pairI:(Tryz.prog.info? 152).map (·.size)=some 2:=by kernel_rfl
theorem pairE:EInfo Tryz.prog 152 2 32:=by unfold EInfo;kernel_rfl
def prC (e:ByteArray × ByteArray):Array Value:=#[.string e.1,.string e.2]
theorem prC_one (e:ByteArray × ByteArray):∀ v∈(prC e).toList,v.oneCell'=true:=by
 intro v hv;simp [prC] at hv
 rcases hv with rfl|rfl<;>rfl
theorem prC_size (l:List (ByteArray × ByteArray)):∀ x∈l.map prC,x.size=2:=by
 intro x hx;obtain ⟨e,_,rfl⟩:=List.mem_map.1 hx;rfl
section
variable {A:EA} {w w' w0:World} {m t:Nat} {V V':PV} {G G' F F':Nat→Prop} {S S':ES} {T T':TS} {o:Option Tr} {ch:ChF}
set_option maxHeartbeats 4000000
theorem ewithin_calls (key:ByteArray)(w0:World):Ret Tryz.prog 57 #[.string key,.string ⟨#[]⟩,.string ⟨#[]⟩] w0 fun v w'=>v=.bool true∧w'=w0:=by
 have h1:Op.bytesLess key.toList []=false:=less_nil _;refine ret_of (args:=[_,_,_]) _ Tryz.func57 rfl Tryz.ntmps57 (by simp) ?_;simp -implicitDefEqProofs [go_sem,h1];refine body_tmp 6 rfl ?_;simp -implicitDefEqProofs [go_sem]
def EReachP (V:PV)(m:Nat)(w0:World)(v:Value)(w':World):Prop:=∃ a c,v=.tuple #[.slice a (allK (shN m) V.T m).length c,.int .i64 0]∧w'.ownsRow w0.heap.size 3 1 (.slice a (allK (shN m) V.T m).length c) (allK (shN m) V.T m).length (offC (allK (shN m) V.T m))∧Below w0.heap.size w0 w'
theorem egReach_calls (w0:World)(h:Eg A w0 m V G S T)(hm:m=6∨m=24)(hS:Sto m V o ch [] t):Ret Tryz.prog 32 #[.pointer (some ⟨A.g,0,none⟩)] w0 fun v w'=>EReachP V m w0 v w':=by
 refine ret_of (args:=[_]) _ Tryz.func32 rfl Tryz.ntmps32 (by simp) ?_;simp -implicitDefEqProofs [go_sem];refine callE_of (egNone_calls w0 h) ?_;rintro v w1 ⟨rfl,rfl⟩;simp -implicitDefEqProofs [go_sem];refine drawE_mix [.pure 0,.pure 1,.pure 2,.pure 4,.pure 5,.pure 6,.pure 8,.pure 9,.pure 10,.take 3,.take 7,.run 11 [3,7],.run 12 [],.pure 13,.pure 14,.pure 15,.pure 16] mixed (by decide +kernel) (by simp only [wo];rfl) ?_;have bd:=(Below.refl w1.heap.size w1).drew;generalize World.drew w1=w2 at *
 have h2:=h.next bd
 have k0:CellIs w2 ⟨A.g,0,none⟩ (.pointer (some ⟨A.p,0,none⟩)):=h2.c0;have k1:CellIs w2 ⟨A.g,1,none⟩ (.pointer (some ⟨A.b,0,none⟩)):=h2.c1;simp -implicitDefEqProofs [go_sem];refine onTake_of (fun w'=>CellIs w' ⟨A.g,0,none⟩ (.pointer (some ⟨A.p,0,none⟩))) (.pointer (some ⟨A.p,0,none⟩)) k0 (fun w' hw=>by
  have hw:w'.cell? _=_:=hw;simp -implicitDefEqProofs [go_sem,hw]) ?_
 simp -implicitDefEqProofs [go_sem];refine onTake_of (fun w'=>CellIs w' ⟨A.g,1,none⟩ (.pointer (some ⟨A.b,0,none⟩))) (.pointer (some ⟨A.b,0,none⟩)) k1 (fun w' hw=>by
  have hw:w'.cell? _=_:=hw;simp -implicitDefEqProofs [go_sem,hw]) ?_
 simp -implicitDefEqProofs [go_sem,h2.c2];refine callE_of (reach_calls A.x w2 h2.sys.pd hm h2.x hS) ?_;rintro v w3 ⟨a3,ss,c3,rfl,hp,hso,hrow,b3⟩;refine ⟨.inr (by simp),?_⟩;have hss:=clean_same hm hS hp hso;rw [hss] at hrow;simp -implicitDefEqProofs [go_sem];refine body_tmp2 2 3 rfl ?_;simp -implicitDefEqProofs [go_sem];rw [hss];exact ⟨a3,c3,rfl,ownsRow_base hrow bd.size,btr bd b3⟩
theorem egSee_calls (first at_:BitVec 64)(w0:World)(h:Eg A w0 m V G S T)(hr:Rest m V)(hm:m=6∨m=24){l:List LinkV}{L:List Nat}(hc:ChAt m V first l L)(hf:FallL l)(hl:l.length≤100000) :
  Ret Tryz.prog 58 #[.pointer (some ⟨A.g,0,none⟩),.int .u64 (uv first),.int .u64 (uv at_)] w0 fun v w'=>v=.tuple #[.string (if (seeP l at_).2=true then (seeP l at_).1 else ⟨#[]⟩),.int .i64 (if (seeP l at_).2=true then 0 else 7)]∧Below w0.heap.size w0 w':=by
 have bel0:=Below.refl w0.heap.size w0;refine ret_of (args:=[_,_,_]) _ Tryz.func58 rfl Tryz.ntmps58 (by simp) ?_;simp -implicitDefEqProofs [go_sem];refine drawE_mix [.pure 0,.pure 1,.pure 2,.pure 4,.pure 5,.pure 6,.pure 8,.take 3,.run 7 [3],.run 9 [],.pure 10,.pure 11,.pure 12,.pure 13,.pure 14] mixed (by decide +kernel) (by simp only [wo];rfl) ?_;have bd:=(Below.refl w0.heap.size w0).drew;generalize World.drew w0=w1 at *;have h1:=h.next bd
 have k0:CellIs w1 ⟨A.g,0,none⟩ (.pointer (some ⟨A.p,0,none⟩)):=h1.c0;simp -implicitDefEqProofs [go_sem];refine onTake_of (fun w'=>CellIs w' ⟨A.g,0,none⟩ (.pointer (some ⟨A.p,0,none⟩))) (.pointer (some ⟨A.p,0,none⟩)) k0 (fun w' hw=>by
  have hw:w'.cell? _=_:=hw;simp -implicitDefEqProofs [go_sem,hw]) ?_
 simp -implicitDefEqProofs [go_sem,h1.c1];refine callE_of (sysList_calls first l L w1 h1.sys.pd hr hm hc hf hl) ?_;rintro v w2 ⟨a2,c2,rfl,hl2,hnew2,b2⟩;refine ⟨.inr (by simp),?_⟩;simp -implicitDefEqProofs [go_sem];refine callE_of (chSee_calls at_ hl2) ?_;rintro v w3 ⟨rfl,b3⟩;have bel3:=bd.trans ((btr b2 b3).mono bd.size);cases hsee:(seeP l at_).2
 ·simp -implicitDefEqProofs [go_sem,hsee];refine body_tmp2 6 7 rfl ?_;simp -implicitDefEqProofs [go_sem];exact bel3
 ·simp -implicitDefEqProofs [go_sem,hsee];refine body_tmp2 6 7 rfl ?_;simp -implicitDefEqProofs [go_sem];exact bel3
theorem over_calls {a:Option Addr}{n cap:Nat}{l:List (ByteArray × ByteArray)}(a2:Option Addr)(c2:Nat)(w0:World)(hin:RIn w0 2 a (l.map prC) cap)(hl:l.length≤1000) :
  Ret Tryz.prog 59 #[.slice a l.length cap,.slice a2 0 c2] w0 fun v w'=>∃ a' c',v=.slice a' l.length c'∧RIn w' 2 a' (l.map prC) c'∧(∀ y,a'=some y→w0.heap.size≤y.block)∧Below w0.heap.size w0 w':=by
 have bel0:=Below.refl w0.heap.size w0;refine ret_of (args:=[_,_]) _ Tryz.func59 rfl Tryz.ntmps59 (by simp) ?_;simp -implicitDefEqProofs [go_sem];refine wpE_rounds 1 ?_;have hown:=World.ownsRow_nil w0 w0.heap.size 152 2;have hfl:(flatR (l.map prC)).length=l.length*2:=by rw [flatR_len (prC_size l),List.length_map]
 have hsrc:=hin.srcT (by decide) l.length;rw [List.take_of_length_le (by simp)] at hsrc;obtain ⟨a5,c5,w5,hr5,hrow5,hg5⟩:=run_appendR (a2:=a) (c2:=cap) (m:=l.length) (news:=flatR (l.map prC)) Tryz.underlying90 pairE (by decide) (by decide) hown hfl hsrc (fun e=>hin.nil e) (fun u hu=>by
  obtain ⟨x,hx,hu⟩:=List.mem_flatMap.1 hu;obtain ⟨e,_,rfl⟩:=List.mem_map.1 hx;exact prC_one e u hu) (by omega) (Nat.le_refl _)
 rw [Nat.zero_add,List.nil_append] at hrow5;rw [Nat.zero_add] at hr5;simp -implicitDefEqProofs [go_sem,hr5];refine body_tmp 4 rfl ?_;simp -implicitDefEqProofs [go_sem];exact ⟨a5,c5,⟨rfl,rfl⟩,owns_rin (prC_size l) (by simp) hrow5,fun y hy=>(ownsRow_blk hrow5 _ ⟨y,hy,rfl⟩).1,bel0.grown hg5 (Nat.le_refl _) (fun k hk=>by simp [Value.ownBlock] at hk)⟩
def OutP (w:World)(e:TypeId)(B:Nat)(ao:Option Addr)(n co:Nat)(out:List (ByteArray × ByteArray)):Prop:=w.ownsRow B e 2 (.slice ao n co) n (flatR (out.map prC))∧out.length=n
theorem OutP.next {e:TypeId}{B n co:Nat}{ao:Option Addr}{out:List (ByteArray × ByteArray)}(h:OutP w e B ao n co out)(hb:Below w.heap.size w w'):OutP w' e B ao n co out:=⟨ownsRow_next h.1 hb,h.2⟩
theorem OutP.push {t e:TypeId}{w4:World}{n co:Nat}{ao:Option Addr}{out:List (ByteArray × ByteArray)}{x:ByteArray × ByteArray}(ht:Tryz.prog.underlying t=some (.slice e))(hI:EInfo Tryz.prog e 2 32)(h:OutP w e w4.heap.size ao n co out)(hs:w4.heap.size≤w.heap.size)(hb:Below w4.heap.size w4 w)(hn:n≤1000) :
  ∃ g c2 w2,(appendB #[t,t] t #[.slice ao n co,.slice (some ⟨w.heap.size,0,none⟩) 1 1]).run Tryz.prog (w.alloc (.cells #[.string x.1,.string x.2] e))=.ok (.slice (some ⟨g,0,none⟩) (n+1) c2) w2 ∧
   OutP w2 e w4.heap.size (some ⟨g,0,none⟩) (n+1) c2 (out++[x])∧Below w4.heap.size w4 w2:=by
 obtain ⟨g,c2,w2,hr,ho,h1,h2,h3,t⟩:=push_own (P:=Tryz.prog) (t:=t) (ty:=t) (cs:=#[.string x.1,.string x.2]) ht hI (by decide) rfl (prC_one x) (by decide) (by omega) hs h.1;refine ⟨g,c2,w2,hr,⟨?_,by rw [List.length_append,h.2];rfl⟩,hb.trans (t.mod.below hs fun q hq=>(ownsRow_blk h.1 q hq).1)⟩;have hfl:flatR (out.map prC)++(#[.string x.1,.string x.2]:Array Value).toList=flatR ((out++[x]).map prC):=by rw [List.map_append,flatR_append,List.map_cons,List.map_nil,flatR_one];rfl
 rw [← hfl];exact ho
def EScanP (out:List (ByteArray × ByteArray))(w0:World)(v:Value)(w':World):Prop:=∃ a c,v=.tuple #[.slice a out.length c,.int .i64 0]∧RIn w' 2 a (out.map prC) c∧(∀ y,a=some y→w0.heap.size≤y.block)∧Below w0.heap.size w0 w'
theorem egScan_calls (w0:World)(h:Eg A w0 m V G S T)(ho:T.op=true)(hs0:T.s0=.slice none 0 0)(hm:m=6∨m=24)(hS:Sto m V o ch [] t) :
  Ret Tryz.prog 28 #[.pointer (some ⟨A.g,0,none⟩),.int .i64 0,.string ⟨#[]⟩,.string ⟨#[]⟩] w0 (EScanP (seenL ch T.a0 (itemsO o)) w0):=by
 have bel0:=Below.refl w0.heap.size w0;have hr:=hS.own.rest;have ht:=h.t;rw [ho,hs0] at ht;refine ret_of (args:=[_,_,_,_]) _ Tryz.func28 rfl Tryz.ntmps28 (by simp) ?_;simp -implicitDefEqProofs [go_sem];refine callE_of (egMay_calls w0 h ho) ?_;rintro v w1 ⟨rfl,rfl⟩;simp -implicitDefEqProofs [go_sem,h.c2];refine callE_of (idxAll_calls A.x w1 h.sys.pd hm h.x hS.own) ?_;rintro v w2 ⟨ai,ci,rfl,hI,-,b2⟩;have h2:=h.next b2
 have ht2:=ht.next b2
 simp -implicitDefEqProofs [go_sem,h2.c3];refine callE_of (txnAt_calls w2 ht2) ?_;rintro v w3 ⟨rfl,rfl⟩;simp -implicitDefEqProofs [go_sem,h2.c3];refine callE_of (txnSet_calls (l:=[]) w3 ht2 (rin_nil (by decide) (fun _=>rfl)) (by simp)) ?_;rintro v w4 ⟨a4,c4,rfl,hrow4,b4⟩;have h4:=h2.next b4
 have hI4:=hI.next b4
 have bel4:=btr b2 b4;simp -implicitDefEqProofs [go_sem];refine wpE_rounds 1 ?_;simp -implicitDefEqProofs [go_sem];obtain ⟨I,hIe⟩:∃ I,I=itemsO o:=⟨_,rfl⟩;have hil:=itemsO_le o;have hlen:=hS.len hm;rw [← hIe] at hI4 hil ⊢
 refine wpE_loop (fun e' w'=>∃ (k:Nat) (ao:Option Addr) (n co:Nat),k≤I.length∧e' 0=.pointer (some ⟨A.g,0,none⟩)∧e' 2=.string ⟨#[]⟩∧e' 3=.string ⟨#[]⟩∧e' 13=.int .u64 (uv T.a0)∧e' 17=.slice none 0 0∧e' 20=.slice ao n co∧e' 76=.slice ai I.length ci∧e' 77=.int .i64 (I.length:Int)∧e' 78=.int .i64 (k:Int) ∧
  OutP w' 152 w4.heap.size ao n co (seenL ch T.a0 (I.take k))∧Below w4.heap.size w4 w') (fun e' _=>I.length-(intOf (e' 78)).toNat) ?_ ?_
 ·refine ⟨0,none,0,0,Nat.zero_le _,?_⟩;simp -implicitDefEqProofs [go_sem];exact ⟨⟨World.ownsRow_nil _ _ _ _,rfl⟩,Below.refl _ _⟩
 ·rintro e' w5 ⟨k,ao,n,co,hk,g0,g2,g3,g13,g17,g20,g76,g77,g78,hown,b5⟩;have hI5:=hI4.next b5
  have h5:=h4.next b5
  have hs5:=b5.size;have hnl:n≤1000:=by
   have h1:=hown.2;have h2:=seenL_len ch T.a0 (I.take k);rw [List.length_take] at h2;omega
  by_cases hlt:k<I.length
  ·have hlt':(k:Int)<(I.length:Int):=by omega
   have i1:=IntWalk.i64_in ((k:Int)+1) (by omega);obtain ⟨ib,io,rfl,hld⟩:=hI5.ld (i:=k) (by simpa using hlt) Tryz.underlying149 rfl itemI;have hkit:(I.map kit)[k]'(by simpa using hlt)=kit I[k]:=by simp
   rw [hkit] at hld;have hst:=stNew (P:=Tryz.prog) (t:=149) (cs:=kit I[k]) (C0:=#[.string ⟨#[]⟩,.int .u64 0]) itemI rfl (kit_one _);have hmem:I[k]∈itemsO o:=by rw [← hIe];exact List.getElem_mem hlt
   obtain ⟨hc1,hc2,hc3⟩:=hS.chain _ hmem;have hc4:=hS.one_len hm hmem;have q0:(kit I[k])[0]?=some (.string (keyS I[k].1)):=rfl;have q1:(kit I[k])[1]?=some (.int .u64 (uv I[k].2)):=rfl;have hB6:=Blk.new w5 (kit I[k]) 149;have b6:=(Below.refl w5.heap.size w5).alloc (Nat.le_refl _) (.cells (kit I[k]) 149);have h6:=h5.next b6
   have hown6:=hown.next b6
   have b46:=btr b5 b6;simp -implicitDefEqProofs [go_sem,g0,g2,g3,g13,g17,g20,g76,g77,g78,hlt,hlt',↓hld,↓hst,hB6.cell,q1];generalize World.alloc w5 _=w6 at *;refine callE_of (egSee_calls I[k].2 T.a0 w6 h6 hr hm hc1 hc2 (by omega)) ?_;rintro v w7 ⟨rfl,b7⟩;have h7:=h6.next b7
   have hB7:=hB6.next b7
   have hown7:=hown6.next b7
   have b47:=btr b46 b7;have htk:=seenL_take (ch:=ch) (t:=T.a0) hlt;unfold seeE at htk;cases hsee:(seeP (ch I[k].2).1 T.a0).2
   ·rw [hsee,if_neg (by decide),List.append_nil] at htk;simp -implicitDefEqProofs [go_sem,g0,g2,g3,g13,g17,g20,g76,g77,g78,i1];refine goE_round ⟨k+1,ao,n,co,by omega,?_⟩ ?_
    ·rw [htk];simp -implicitDefEqProofs [go_sem,g0,g2,g3,g13,g17,g20,g76,g77,g78,i1];exact ⟨hown7,b47⟩
    ·simp -implicitDefEqProofs [go_sem,g78,intOf,i1];omega
   ·rw [hsee,if_pos rfl] at htk;simp -implicitDefEqProofs [go_sem,g0,g2,g3,g13,g17,g20,g76,g77,g78,i1,hB7.cell,q0];refine callE_of (ewithin_calls (keyS I[k].1) w7) ?_;rintro v w8 ⟨rfl,rfl⟩;obtain ⟨g9,c9,w9,hr9,hown9,b9⟩:=hown7.push (x:=(keyS I[k].1,(seeP (ch I[k].2).1 T.a0).1)) Tryz.underlying90 pairE b47.size b47 hnl;simp -implicitDefEqProofs [go_sem,g0,g2,g3,g13,g17,g20,g76,g77,g78,i1,hB7.cell,q0,hr9];refine goE_round ⟨k+1,some ⟨g9,0,none⟩,n+1,c9,by omega,?_⟩ ?_
    ·rw [htk];simp -implicitDefEqProofs [go_sem,g0,g2,g3,g13,g17,g20,g76,g77,g78,i1];exact ⟨hown9,b9⟩
    ·simp -implicitDefEqProofs [go_sem,g78,intOf,i1];omega
  ·obtain rfl:k=I.length:=by omega
   rw [List.take_length] at hown;obtain ⟨out,hout⟩:∃ out,out=seenL ch T.a0 I:=⟨_,rfl⟩;rw [← hout] at hown ⊢;have hol:=hown.2;have hor:=owns_rin (prC_size out) (by rw [List.length_map,hol]) hown.1;have hov:=over_calls (n:=0) none 0 w5 hor (by omega);rw [hol] at hov;simp -implicitDefEqProofs [go_sem,g0,g2,g3,g13,g17,g20,g76,g77,g78];refine callE_of hov ?_;rintro v w6 ⟨a6,c6,rfl,hr6,hn6,b6⟩;simp -implicitDefEqProofs [go_sem];refine body_tmp2 8 9 rfl ?_;simp -implicitDefEqProofs [go_sem]
   exact ⟨a6,c6,by rw [hol],hr6,fun y hy=>by have:=hn6 y hy;have:=b5.size;have:=bel4.size;omega,bel4.trans ((btr b5 b6).mono bel4.size)⟩
end
end
end Go.Proofs.YtaaihijkdhmcdaaGreatDoor
