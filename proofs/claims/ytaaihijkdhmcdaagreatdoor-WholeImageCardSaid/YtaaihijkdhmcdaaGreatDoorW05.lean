/- WholeImage, part 6 of 38: contracts and lemmas of its proof. Conditions: none. -/
import Derived.Test.YtaaihijkdhmcdaaGreatDoorW04
import Derived.Lib.SliceRun
import Derived.Test.YtaaihijkdhmcdaaGreatDoorW03
import Derived.RangeFuncNested
import Derived.RangeFuncBound
import Derived.RangeFuncCalls
import Derived.RangeFuncLeaves
import Derived.Shelf.Abstract
import Derived.Shelf.RegionOpen
import Derived.WalkKit
import Derived.OwnWalkIn
import Derived.TacticsInMore
import Derived.LoopNIn
import Derived.LoopIn
set_option linter.unusedVariables false
set_option linter.unusedSimpArgs false
set_option maxRecDepth 100000
namespace Go.Proofs.YtaaihijkdhmcdaaGreatDoor
section
open Go Go.RowKit
set_option maxRecDepth 10000 in
theorem cloneC_calls (a:Option Addr)(n c:Nat)(xs:List Value)(w0:World)(hn:n≤1099511627776)(hl:xs.length=n*2)(hsrc:SrcAt w0 a xs)(h1:∀ u∈xs,u.oneCell'=true)(hc:a=none→n=0∧c=0) :
  Ret Tryz.prog 144 #[.slice a n c] w0 fun v w'=>∃ a' c',v=.slice a' n c'∧w'.ownsRow w0.heap.size 256 2 (.slice a' n c') n xs∧Below w0.heap.size w0 w':=by
 have nilEq:=fun w a n c=>Lib.run_eql_slice_nil (P:=Tryz.prog) w 86 256 a n c 0 0 Tryz.underlying86
 refine ret_of (args:=[_]) _ Tryz.func144 rfl Tryz.ntmps144 (by simp) ?_;have bel0:=Below.refl w0.heap.size w0;cases a with
 | none =>
  obtain ⟨rfl,rfl⟩:=hc rfl;have hx:xs=[]:=List.eq_nil_of_length_eq_zero (by omega);subst hx;simp -implicitDefEqProofs [go_sem,nilEq];refine body_tmp 2 rfl ?_;simp -implicitDefEqProofs [go_sem];exact ⟨none,0,⟨rfl,rfl⟩,World.ownsRow_nil _ _ _ _,bel0⟩
 | some x =>
  simp -implicitDefEqProofs [go_sem,nilEq];have hlit:=World.ownsRow_lit (base:=w0.heap.size) (e:=256) (size:=2) w0 #[] 0 (Nat.le_refl _) (by decide) rfl;generalize hw1:World.alloc w0 _=w1 at *;have sz1:w1.heap.size=w0.heap.size+1:=by rw [← hw1];simp
  have b1:Below w0.heap.size w0 w1:=by rw [← hw1];exact bel0.alloc (Nat.le_refl _) _
  obtain ⟨ti,tz,hti,htz,hts,htb,htc⟩:=chgI;have hcells:∀ j u,xs[j]?=some u→w1.cell? (x.add j)=some u:=by
   rcases hsrc with ⟨h,_⟩|⟨y,h,hy⟩
   ·cases h
   ·obtain rfl:x=y:=by simpa using h
    intro j u hu;have h2:=hy j u hu;exact (b1.cell (World.block_lt_of_cell? w0 _ h2)).trans h2
  obtain ⟨v',w2,hr2,hown,hgr,_⟩:=run_append_own (P:=Tryz.prog) w1 w0.heap.size 86 86 256 ti tz 2 16 Tryz.underlying86 hti htz hts htb htc (by decide) _ _ _ hlit x n c xs hl hcells h1 (by unfold maxLen;omega) (by omega) (by omega);rw [Nat.zero_add] at hown;have b2:Below w0.heap.size w0 w2:=b1.grown hgr (by omega) (fun j hj=>by simp [Value.ownBlock] at hj;omega);obtain ⟨a',c',rfl⟩:∃ a' c',v'=.slice a' n c':=by
   rcases hown.2 with ⟨h,h0⟩|⟨g,cap,cur,h,_⟩
   ·exact ⟨none,0,by rw [h,h0]⟩
   ·exact ⟨_,_,h⟩
  have hr3:(appendB #[86,86] 86 #[.slice (some ⟨w0.heap.size,0,none⟩) 0 0,.slice (some x) n c]).run Tryz.prog w1=.ok (.slice a' n c') w2:=hr2;simp -implicitDefEqProofs [go_sem,hr3];refine body_tmp 2 rfl ?_;simp -implicitDefEqProofs [go_sem];exact ⟨a',c',⟨rfl,rfl⟩,by simpa using hown,b2⟩
theorem owns_drop {w:World}{B:Nat}{e:TypeId}{a:Option Addr}{n c k:Nat}{xs:List Value}(h:w.ownsRow B e 2 (.slice a n c) n xs)(hk:k≤n) :
  SrcAt w (if c=k then a else Option.map (fun x=>x.add (k*2)) a) (xs.drop (k*2))∧((if c=k then a else Option.map (fun x=>x.add (k*2)) a)=none→n-k=0∧c-k=0):=by
 have hlen:=h.1
 rcases h.2 with ⟨hv,h0⟩|⟨g,cap,cur,hv,hg,hh,hcap,_⟩
 ·simp only [Value.slice.injEq] at hv;obtain ⟨rfl,_,rfl⟩:=hv;subst h0;have:xs=[]:=List.eq_nil_of_length_eq_zero (by omega);subst this;exact ⟨.inl ⟨by split<;>rfl,by simp⟩,fun _=>⟨by omega,by omega⟩⟩
 ·simp only [Value.slice.injEq] at hv;obtain ⟨rfl,_,rfl⟩:=hv;by_cases hck:c=k
  ·subst hck;have:xs.drop (c*2)=[]:=List.drop_eq_nil_of_le (by omega);rw [this,if_pos rfl];exact ⟨.inr ⟨_,rfl,fun j u hu=>by simp at hu⟩,fun h=>by cases h⟩
  ·rw [if_neg hck];refine ⟨.inr ⟨_,rfl,fun j u hu=>?_⟩,fun h=>by cases h⟩;rw [List.getElem?_drop] at hu;have:=h.cells (g:=g) rfl _ _ hu;rw [Addr.add_lit] at this;show w.cell? (((⟨g,0,none⟩:Addr).add (k*2)).add j)=some u;rw [Addr.add_lit,Addr.add_lit,← this,Nat.add_assoc]
theorem chgCells_one (cs:List (Nat × BitVec 64)):∀ u∈chgCells cs,u.oneCell'=true:=by
 intro u hu;simp [chgCells] at hu;obtain ⟨a,b,_,rfl|rfl⟩:=hu<;>rfl
theorem below_undrew {B:Nat}{w w':World}(h:Below B w.drew w'):Below B w w':=⟨h.os,h.tape,h.output,h.size,h.block⟩
theorem chgCells_drop:∀ (cs:List (Nat × BitVec 64)) (k:Nat),chgCells (cs.drop k)=(chgCells cs).drop (k*2)
 | cs,0=>by simp
 | [],k+1=>by simp [chgCells]
 | c::cs,k+1=>by
  rw [List.drop_succ_cons,chgCells_drop cs k,show (k+1)*2=k*2+1+1 by omega];simp [chgCells]
theorem ownsRow_base {w:World}{B B':Nat}{e:TypeId}{k:Nat}{v:Value}{n:Nat}{xs:List Value}(h:w.ownsRow B e k v n xs)(hB:B'≤B):w.ownsRow B' e k v n xs:=by
 obtain ⟨h1,h2⟩:=h;refine ⟨h1,?_⟩
 rcases h2 with h2|⟨g,cap,cur,hv,hg,r⟩
 ·exact .inl h2
 ·exact .inr ⟨g,cap,cur,hv,by omega,r⟩
theorem setLn_same (D:NM.Dv)(i:Nat)(hi:i<D.ls.length):D.setLn i (D.ln i)=D:=by
 have:D.ln i=D.ls[i]:=by simp [NM.Dv.ln,List.getD,hi]
 unfold NM.Dv.setLn;rw [this,List.set_getElem_self]
set_option maxHeartbeats 1000000 in
theorem lfence_calls {p lb:Nat}{D:NM.Dv}{S:Nat→Spot}(i:Nat)(w0:World)(h:DevAt w0 p lb D S)(hi:i<D.ls.length)(hn:(D.ln i).chg.length≤1099511627776) :
  Ret Tryz.prog 106 #[.pointer (some ⟨lb,i*66,none⟩)] w0 fun v w'=>v=.tuple #[]∧∃ s',DevAt w' p lb (D.setLn i (D.ln i).fence) (setS S i s')∧Mod (fun k=>k=lb) w0 w' ∧
   (∀ k,Value.ownBlock (spotV (D.ln i).fence s')=some k→Value.ownBlock (spotV (D.ln i) (S i))=some k∨w0.heap.size≤k):=by
 obtain ⟨C,hL⟩:=h.lines;have hl:=NM.Dv.Ok0.ln h.ok i;have g64:=hL.blk.cell (i*66+64);rw [hL.chg i hi,spotV] at g64;have g65:=hL.blk.cell (i*66+65);rw [hL.mark i hi] at g65;refine ret_of (args:=[_]) _ Tryz.func106 rfl Tryz.ntmps106 (by simp) ?_;by_cases hm:0<(D.ln i).mark
 ·have hm':(0:Int)<(D.ln i).mark:=by omega
  have hwm:=IntWalk.i64_in (((D.ln i).mark:Int)-1) (by have:=hl.mark;omega);simp -implicitDefEqProofs [go_sem,g65,hm,hm'];have c64:=fun w' (hw:Below w0.heap.size w0 w')=>(hL.blk.next hw).cell (i*66+64)
  have c65:=fun w' (hw:Below w0.heap.size w0 w')=>(hL.blk.next hw).cell (i*66+65)
  rw [hL.chg i hi,spotV] at c64;rw [hL.mark i hi] at c65
  refine drawE_perm [0,1,2,3,4,5,6,7,8,9,10] [11] [12,13,14] (fun w'=>Below w0.heap.size w0 w') mixed (by decide +kernel) (by decide +kernel) (by simp only [List.filterMap_cons,List.filterMap_nil,List.getElem?_cons_succ,List.getElem?_cons_zero];rfl) (by simp only [List.filterMap_cons,List.filterMap_nil,List.getElem?_cons_succ,List.getElem?_cons_zero];rfl) (by simp only [List.filterMap_cons,List.filterMap_nil,List.getElem?_cons_succ,List.getElem?_cons_zero];rfl) (by first|exact (Below.refl _ _).drew|(subst_vars;exact (Below.refl _ _).drew)) (fun hsome=>?_)
  simp -implicitDefEqProofs [go_sem,hsome];refine onHeld_of (.slice (S i).1 (D.ln i).chg.length (S i).2) (fun w' hw=>by simp -implicitDefEqProofs [go_sem,c64 w' hw]) ?_;simp -implicitDefEqProofs [go_sem,hsome];refine onHeld_of (.int .i64 ((D.ln i).mark:Int)) (fun w' hw=>by simp -implicitDefEqProofs [go_sem,c65 w' hw]) ?_;simp -implicitDefEqProofs [go_sem,hsome,hwm];have hmk:=hl.mark;have hm1:1≤(D.ln i).mark:=by omega
  have hm2:((D.ln i).mark:Int)-1≤((D.ln i).chg.length:Int):=by omega
  obtain ⟨k,hk⟩:∃ k,(D.ln i).mark=k+1:=⟨(D.ln i).mark-1,by omega⟩;have hkn:k≤(D.ln i).chg.length:=by omega
  have hfe:(D.ln i).fence={ D.ln i with chg:=(D.ln i).chg.drop k,mark:=0 }:=by unfold NM.Ln.fence;rw [if_pos hm,hk];rfl
  obtain ⟨hsrc,hnil⟩:=owns_drop (h.own i hi) hkn;have hxl:((chgCells (D.ln i).chg).drop (k*2)).length=((D.ln i).chg.length-k)*2:=by rw [List.length_drop,(h.own i hi).1];omega
  have hx1:∀ u∈(chgCells (D.ln i).chg).drop (k*2),u.oneCell'=true:=fun u hu=>chgCells_one _ u (List.mem_of_mem_drop hu)
  have hcl:=cloneC_calls _ ((D.ln i).chg.length-k) ((S i).2-k) _ w0.drew (by omega) hxl hsrc hx1 hnil;refine onHeld_of (.slice (if (S i).2=k then (S i).1 else Option.map (fun x=>x.add (k*2)) (S i).1) ((D.ln i).chg.length-k) ((S i).2-k)) (fun w' hw=>by simp -implicitDefEqProofs [go_sem,hk,show ¬ ((k:Int)+1<1) by omega,show k≤(D.ln i).chg.length by omega]) ?_;simp -implicitDefEqProofs [go_sem,hsome];unfold endE;simp -implicitDefEqProofs [go_sem];refine callE_of hcl ?_
  rintro v w1 ⟨a',c',rfl,hown,bel⟩;have bel':Below w0.heap.size w0 w1:=below_undrew bel;refine ⟨bel',?_⟩;have hB1:=hL.blk.next bel'
  have f64:=hB1.thaw (i*66+64);have f65:=hB1.thaw (i*66+65);have g64:=hB1.cell (i*66+64);rw [hL.chg i hi,spotV] at g64;have hB2:=hB1.set (i*66+64) (.slice a' ((D.ln i).chg.length-k) c');have f65':=hB2.thaw (i*66+65);have g65:=hB2.cell (i*66+65);rw [Array.getElem?_setIfInBounds,if_neg (by omega),hL.mark i hi] at g65;have hB3:=hB2.set (i*66+65) (.int .i64 0);simp -implicitDefEqProofs [go_sem,f64,f65,g64,g65,f65'];refine body_end (body_none rfl ?_)
  have hmL:Mod (fun k=>k=lb) w1 ((w1.setCell ⟨lb,i*66+64,none⟩ (.slice a' ((D.ln i).chg.length-k) c')).setCell ⟨lb,i*66+65,none⟩ (.int .i64 0)):=((Mod.refl (fun k=>k=lb) w1).setCell (a:=⟨lb,i*66+64,none⟩) (.inl rfl) _).setCell (a:=⟨lb,i*66+65,none⟩) (.inl rfl) _;have hmA:Mod (fun k=>k=lb) w0 _:=(Mod.of bel').trans hmL (fun k hk _=>hk);have hlbw:=hL.blk.lt;have howns:=ownsRow_mod hown hmL (fun g hg e=>by have:=(hown.lt g hg).1;have:w0.drew.heap.size=w0.heap.size:=rfl;omega)
  have hCs:i*66+66≤C.size:=by rw [hL.size];omega
  have hsp:spotV (D.ln i).fence (a',c')=.slice a' ((D.ln i).chg.length-k) c':=by unfold spotV;rw [hfe];simp
  have hwh:∀ k,Value.ownBlock (spotV (D.ln i).fence (a',c'))=some k→Value.ownBlock (spotV (D.ln i) (S i))=some k∨w0.heap.size≤k:=fun g hg=>by
   rw [hsp] at hg;exact .inr (hown.lt g hg).1
  have hg:∀ j,((C.setIfInBounds (i*66+64) (.slice a' ((D.ln i).chg.length-k) c')).setIfInBounds (i*66+65) (.int .i64 0))[j]?=if j=i*66+65 then some (.int .i64 0) else if j=i*66+64 then some (.slice a' ((D.ln i).chg.length-k) c') else C[j]?:=fun j=>by
   rw [Array.getElem?_setIfInBounds,Array.getElem?_setIfInBounds];by_cases e:j=i*66+65
   ·subst e;rw [if_pos rfl,if_pos rfl,if_pos (by simp;omega)]
   ·rw [if_neg (fun e2=>e e2.symm),if_neg e];by_cases e2:j=i*66+64
    ·subst e2;rw [if_pos rfl,if_pos rfl,if_pos (by omega)]
    ·rw [if_neg (fun e3=>e2 e3.symm),if_neg e2]
  refine ⟨rfl,(a',c'),?_,hmA,hwh⟩;refine h.setLine hL hi hl.fence hB3 (by simp) (fun j hj=>by rw [hg,if_neg (by omega),if_neg (by omega)]) (fun j hj=>by rw [hg,if_neg (by omega),if_neg (by omega),hfe];exact hL.now i hi j hj)
   (by rw [hg,if_neg (by omega),if_pos rfl,hsp]) (by rw [hg,if_pos rfl,hfe];rfl) hmA (fun k hk=>.inl hk) ?_ hwh
  rw [hsp,hfe];have e1:chgCells ((D.ln i).chg.drop k)=(chgCells (D.ln i).chg).drop (k*2):=chgCells_drop _ _;rw [e1,List.length_drop];exact ownsRow_base howns (Nat.zero_le _)
 ·have hm':¬ (0:Int)<(D.ln i).mark:=by omega
  have hf:(D.ln i).fence=D.ln i:=by unfold NM.Ln.fence;rw [if_neg hm]
  simp -implicitDefEqProofs [go_sem,g65,hm,hm'];refine body_end (body_none rfl ?_);rw [hf,setLn_same D i hi];exact ⟨rfl,S i,by rw [setS_same];exact h,Mod.refl _ _,fun k hk=>.inl hk⟩
end
section
open Go Go.RowKit
def fenceK (D:NM.Dv)(k:Nat):NM.Dv:={ D with ls:=(D.ls.take k).map NM.Ln.fence++D.ls.drop k }
theorem fenceK_zero (D:NM.Dv):fenceK D 0=D:=by simp [fenceK]
theorem fenceK_all (D:NM.Dv):fenceK D D.ls.length={ D with ls:=D.ls.map NM.Ln.fence }:=by simp [fenceK]
theorem fenceK_len (D:NM.Dv)(k:Nat)(hk:k≤D.ls.length):(fenceK D k).ls.length=D.ls.length:=by simp [fenceK];omega
theorem fenceK_ln (D:NM.Dv)(k:Nat)(hk:k<D.ls.length):(fenceK D k).ln k=D.ln k:=by
 unfold NM.Dv.ln fenceK;simp only [List.getD_eq_getElem?_getD];rw [List.getElem?_append_right (by simp;omega)]
 simp;congr 2;omega
theorem fenceK_succ (D:NM.Dv)(k:Nat)(hk:k<D.ls.length):(fenceK D k).setLn k ((fenceK D k).ln k).fence=fenceK D (k+1):=by
 rw [fenceK_ln D k hk];have e:D.ln k=D.ls[k]:=by simp [NM.Dv.ln,List.getD,hk]
 unfold NM.Dv.setLn fenceK;simp only [NM.Dv.mk.injEq,and_true];rw [List.set_append_right _ _ (by simp;omega),List.take_succ_eq_append_getElem hk,List.map_append,List.append_assoc]
 congr 1
 have hl:((D.ls.take k).map NM.Ln.fence).length=k:=by simp;omega
 rw [hl,Nat.sub_self,List.drop_eq_getElem_cons hk,e];rfl
set_option maxHeartbeats 1000000 in
theorem fence_calls {p lb:Nat}{D:NM.Dv}{S:Nat→Spot}(w0:World)(h:DevAt w0 p lb D S)(hc:D.steps<1099511627776)(hok:D.Ok) :
  Ret Tryz.prog 71 #[.pointer (some ⟨p,0,none⟩)] w0 fun v w'=>v=.int .i64 D.fence.2∧DevStep w0 p lb D S D.fence.1 w':=by
 have hmost:=h.ok.most;refine ret_of (args:=[_]) _ Tryz.func71 rfl Tryz.ntmps71 (by simp) ?_;simp -implicitDefEqProofs [go_sem];refine callE_of (ask_calls 0 1 w0 h (by decide)) ?_;rintro v w1 ⟨rfl,rfl⟩;by_cases ha:D.ask 0 1=0
 ·have hfn:D.fence=(({ D with ls:=D.ls.map NM.Ln.fence }:NM.Dv).done,0):=by unfold NM.Dv.fence;rw [if_pos ha]
  simp -implicitDefEqProofs [go_sem,ha,h.dev.cell];refine wpE_loop (fun e' w'=>∃ k,k≤D.ls.length∧e' 0=.pointer (some ⟨p,0,none⟩)∧e' 14=.int .i64 D.ls.length∧e' 15=.int .i64 k∧DevStep w1 p lb D S (fenceK D k) w') (fun e' _=>D.ls.length-(intOf (e' 15)).toNat) ?_ ?_
  ·refine ⟨0,by omega,?_⟩;simp -implicitDefEqProofs [go_sem,fenceK_zero];exact DevStep.refl h
  ·rintro e' w' ⟨k,hk,g0,g14,g15,S',hA,hm,hw⟩;have hlk:=fenceK_len D k hk;by_cases hlt:k<D.ls.length
   ·have hlt':(k:Int)<D.ls.length:=by omega
    have hwk:=IntWalk.i64_in ((k:Int)+1) (by omega);have hdev:=hA.dev;rw [hlk] at hdev;have hlf:=lfence_calls k w' hA (by omega) (by rw [fenceK_ln D k hlt];have:=NM.Dv.Ok.lnChg hok k;omega);simp -implicitDefEqProofs [go_sem,g0,g14,g15,hlt,hlt',hdev.cell];refine callE_of hlf ?_;rintro v w2 ⟨rfl,s',hA2,hm2,hwh2⟩;rw [fenceK_succ D k hlt] at hA2;simp -implicitDefEqProofs [go_sem,g0,g14,g15,hwk];refine goE_round ⟨k+1,by omega,?_⟩ ?_
    ·simp -implicitDefEqProofs [go_sem,g0,g14];refine DevStep.head hA hm hw ⟨_,hA2,hm2.mono (fun k hk _=>.inr (.inl hk)),?_⟩;have:=setLine_F (p:=p) (lb:=lb) (D:=fenceK D k) (S:=S') (i:=k) (l':=((fenceK D k).ln k).fence) (s':=s') (w:=w') (by omega) hwh2;rw [fenceK_succ D k hlt] at this;exact this
    ·simp -implicitDefEqProofs [go_sem,intOf,g15,hwk];omega
   ·have hk':k=D.ls.length:=by omega
    subst hk';rw [fenceK_all] at *;simp -implicitDefEqProofs [go_sem,g0,g14,g15];refine callE_of (done_calls w' hA (by exact hc)) ?_;rintro v w2 ⟨rfl,hA2,hmd,_⟩;simp -implicitDefEqProofs [go_sem];refine body_tmp 2 rfl ?_;simp -implicitDefEqProofs [go_sem,hfn];exact DevStep.head hA hm hw (step_done hA2 hmd)
 ·have ha':(D.ask 0 1 != 0)=true:=by rw [bne_iff_ne];exact ha
  simp -implicitDefEqProofs [go_sem,ha,ha'];refine body_tmp 2 rfl ?_;simp -implicitDefEqProofs [go_sem,NM.Dv.fence,ha];exact DevStep.refl h
end
section
open Go Go.RowKit Go.Shelf
attribute [local go_sem] Oper.semAt_some
end
section
open Go Go.RowKit Go.Shelf
attribute [local go_sem] Oper.semAt_some
theorem mod_of_grown {W W':World}{row:Option Nat}(hg:W.grownBy W' row):Mod (fun k=>row=some k) W W':=⟨hg.os,hg.tape,hg.output,hg.size,fun k hlt hk=>hg.block k hlt (fun e=>hk e.symm)⟩
end
section
open Go Go.RowKit
theorem SlIn.mod {n:Nat}{k:IntKind}{w w':World}{a:Option Addr}{l:List (BitVec n)}{cap:Nat}{F:Nat→Prop}(h:SlIn k w a l cap)(hm:Mod F w w')(hF:∀ b,(∃ o,a=some ⟨b,o,none⟩)→¬ F b):SlIn k w' a l cap:=⟨h.at_.mod hm hF,h.le,h.max,h.nil⟩
end
section
open Go Go.RowKit
def DevB (w:World)(p:Nat)(F:Nat→Prop)(D:NM.Dv):Prop:=∃ lb S,DevAt w p lb D S∧F=DevF p lb D S∧D.Ok
structure Turn (w:World) (F:Nat→Prop) (w':World) (F':Nat→Prop):Prop where
 mod:Mod F w w'
 new:∀ k,F' k→F k∨w.heap.size≤k
section
variable {w w1 w':World} {F F1 F' G:Nat→Prop} {p q:Nat} {D E:NM.Dv} {B:Nat}
theorem Turn.refl (w:World)(F:Nat→Prop):Turn w F w F:=⟨Mod.refl _ _,fun _ h=>.inl h⟩
theorem Turn.trans (h:Turn w F w1 F1)(k:Turn w1 F1 w' F'):Turn w F w' F' :=
 ⟨h.mod.trans k.mod (fun i hi hlt=>by rcases h.new i hi with h2|h2;exact h2;omega),fun i hi=>by
  rcases k.new i hi with h2|h2
  ·exact h.new i h2
  ·right;have:=h.mod.size;omega⟩
theorem Turn.of (h:Below w.heap.size w w'):Turn w F w' F:=⟨Mod.of h,fun _ h=>.inl h⟩
theorem Turn.size (h:Turn w F w' F'):w.heap.size≤w'.heap.size:=h.mod.size
theorem Turn.below (h:Turn w F w' F')(hB:B≤w.heap.size)(hF:∀ k,F k→B≤k):Below B w w':=h.mod.below hB hF
theorem Turn.ge (h:Turn w F w' F')(hB:B≤w.heap.size)(hF:∀ k,F k→B≤k):∀ k,F' k→B≤k:=fun k hk=>by
 rcases h.new k hk with h2|h2
 ·exact hF k h2
 ·omega
theorem DevB.lt (h:DevB w p F D):∀ k,F k→k<w.heap.size:=by
 obtain ⟨lb,S,hA,rfl,_⟩:=h;exact hA.lt
theorem DevB.ok (h:DevB w p F D):D.Ok:=by obtain ⟨_,_,_,_,h⟩:=h;exact h
theorem DevB.pos (h:DevB w p F D):0<D.ls.length:=by obtain ⟨_,_,h,_⟩:=h;exact h.pos
theorem DevB.next (h:DevB w p F D)(hb:Below w.heap.size w w'):DevB w' p F D:=by
 obtain ⟨lb,S,hA,rfl,hok⟩:=h;exact ⟨lb,S,hA.next hb,rfl,hok⟩
theorem devB_step {lb:Nat}{S:Nat→Spot}{D':NM.Dv}(h:DevStep w p lb D S D' w')(hok:D'.Ok):∃ F',DevB w' p F' D'∧Turn w (DevF p lb D S) w' F':=by
 obtain ⟨S',hA,hm,hw⟩:=h;exact ⟨_,⟨lb,S',hA,rfl,hok⟩,hm,hw⟩
end
section
variable {p:Nat} {F:Nat→Prop} {D:NM.Dv}
theorem sizeB (w:World)(h:DevB w p F D):Ret Tryz.prog 27 #[.pointer (some ⟨p,0,none⟩)] w fun v w'=>v=.int .i64 (D.size:Int)∧w'=w:=by
 obtain ⟨lb,S,hA,rfl,_⟩:=h;exact size_calls w hA
theorem loadB (off:Int)(w:World)(h:DevB w p F D)(ho:I64 off):Ret Tryz.prog 52 #[.pointer (some ⟨p,0,none⟩),.int .i64 off] w fun v w'=>v=.tuple #[.int .u64 (uv (D.load off).1),.int .i64 (D.load off).2]∧w'=w:=by
 obtain ⟨lb,S,hA,rfl,_⟩:=h;exact load_calls off w hA ho
theorem storeB (off:Int)(n:BitVec 64)(w:World)(h:DevB w p F D)(ho:I64 off)(hc:D.steps<1099511627776):Ret Tryz.prog 103 #[.pointer (some ⟨p,0,none⟩),.int .i64 off,.int .u64 (uv n)] w fun v w'=>v=.int .i64 (D.store off n).2∧∃ F',DevB w' p F' (D.store off n).1∧Turn w F w' F':=by
 obtain ⟨lb,S,hA,rfl,hok⟩:=h;exact (store_calls off n w hA ho hc hok).mono fun v w' h=>⟨h.1,devB_step h.2 (hok.store off n)⟩
theorem flushB (off:Int)(w:World)(h:DevB w p F D)(ho:I64 off)(hc:D.steps<1099511627776):Ret Tryz.prog 105 #[.pointer (some ⟨p,0,none⟩),.int .i64 off] w fun v w'=>v=.int .i64 (D.flush off).2∧∃ F',DevB w' p F' (D.flush off).1∧Turn w F w' F':=by
 obtain ⟨lb,S,hA,rfl,hok⟩:=h;exact (flush_calls off w hA ho hc hok).mono fun v w' h=>⟨h.1,devB_step h.2 (hok.flush off)⟩
theorem fenceB (w:World)(h:DevB w p F D)(hc:D.steps<1099511627776):Ret Tryz.prog 71 #[.pointer (some ⟨p,0,none⟩)] w fun v w'=>v=.int .i64 D.fence.2∧∃ F',DevB w' p F' D.fence.1∧Turn w F w' F':=by
 obtain ⟨lb,S,hA,rfl,hok⟩:=h;exact (fence_calls w hA hc hok).mono fun v w' h=>⟨h.1,devB_step h.2 hok.fence⟩
theorem imageB (w:World)(h:DevB w p F D):Ret Tryz.prog 10 #[.pointer (some ⟨p,0,none⟩)] w fun v w'=>∃ a c,v=.slice a D.size c∧SlIn .u8 w' a D.image c∧Below w.heap.size w w'∧(∀ y,a=some y→w.heap.size≤y.block∧y.block<w'.heap.size):=by
 obtain ⟨lb,S,hA,rfl,_⟩:=h;exact image_calls w hA
theorem newB (n:Int)(w:World)(hn:I64 n):Ret Tryz.prog 17 #[.int .i64 n] w fun v w'=>Below w.heap.size w w' ∧
   ((¬ (1≤n∧n≤1024)∧v=.pointer none)∨((1≤n∧n≤1024)∧∃ p F,v=.pointer (some ⟨p,0,none⟩)∧DevB w' p F (NM.dev0 n.toNat)∧∀ k,F k→w.heap.size≤k)):=by
 refine (new_calls n w hn).mono ?_;rintro v w' ⟨hb,h|⟨h1,p,lb,hv,hA,hp,hlb⟩⟩
 ·exact ⟨hb,.inl h⟩
 ·refine ⟨hb,.inr ⟨h1,p,_,hv,⟨lb,S0,hA,rfl,NM.dev0_ok _ (by omega)⟩,?_⟩⟩;rintro k (rfl|rfl|⟨i,hi,hk⟩)
  ·exact hp
  ·exact hlb
  ·have:i<n.toNat:=by simpa [NM.dev0] using hi
   rw [dev0_ln _ i this] at hk;cases hk
end
end
section
open Go
theorem flush_steps (D:NM.Dv)(off:Int):(D.flush off).1.steps≤D.steps+1:=by unfold NM.Dv.flush;split<;>simp [NM.Dv.done,NM.Dv.setLn]
theorem fence_steps (D:NM.Dv):D.fence.1.steps≤D.steps+1:=by unfold NM.Dv.fence;split<;>simp [NM.Dv.done]
theorem store_steps (D:NM.Dv)(off:Int)(n:BitVec 64):(D.store off n).1.steps≤D.steps+1:=by
 unfold NM.Dv.store;split
 ·simp only;split<;>simp [NM.Dv.done,NM.Dv.setLn]
 ·simp
namespace NM
open Go.Proofs.YtaaihijkdhmcdaaGreatDoor.WM (getM putM putM_length putM_getD hasB get_put byteOf byteOf_wd wd)
structure Dv.Up (D:Dv):Prop where
 down:D.down=false
 left:D.left=-1
theorem dev0_up (n:Nat):(dev0 n).Up:=⟨rfl,rfl⟩
theorem Dv.Up.done {D:Dv}(h:D.Up):D.done.Up:=by
 have h1:=h.left;have h2:=h.down;constructor
 ·simp only [Dv.done];rw [if_neg (by omega)];exact h2
 ·simp only [Dv.done];rw [if_neg (by omega)];exact h1
theorem Dv.Up.store {D:Dv}(h:D.Up)(off:Int)(n:BitVec 64):(D.store off n).1.Up:=by
 unfold Dv.store;split
 ·simp only;split
  ·exact h.done
  ·exact Dv.Up.done (D:=D.setLn _ _) ⟨h.down,h.left⟩
 ·exact h
theorem Dv.Up.flush {D:Dv}(h:D.Up)(off:Int):(D.flush off).1.Up:=by
 unfold Dv.flush;split
 ·exact Dv.Up.done (D:=D.setLn _ _) ⟨h.down,h.left⟩
 ·exact h
theorem Dv.Up.fence {D:Dv}(h:D.Up):D.fence.1.Up:=by
 unfold Dv.fence;split
 ·exact Dv.Up.done (D:={ D with ls:=D.ls.map Ln.fence }) ⟨h.down,h.left⟩
 ·exact h
theorem store_len (D:Dv)(off:Int)(n:BitVec 64):(D.store off n).1.ls.length=D.ls.length:=by
 unfold Dv.store;split
 ·simp only;split<;>simp [Dv.done,Dv.setLn]
 ·rfl
theorem flush_len (D:Dv)(off:Int):(D.flush off).1.ls.length=D.ls.length:=by unfold Dv.flush;split<;>simp [Dv.done,Dv.setLn]
theorem fence_len (D:Dv):D.fence.1.ls.length=D.ls.length:=by unfold Dv.fence;split<;>simp [Dv.done]
theorem list_ext_getD {a b:List (BitVec 8)}(hl:a.length=b.length)(h:∀ i,i<a.length→a.getD i 0#8=b.getD i 0#8):a=b:=by
 apply List.ext_getElem hl;intro i h1 h2;have:=h i h1;simpa [List.getD,h1,h2] using this
theorem put_same (l:List (BitVec 8))(p:Nat)(hp:p+8≤l.length):putM l p (getM l p)=l:=by
 apply list_ext_getD (by rw [putM_length]);intro i hi;rw [putM_getD l p _ i hp];split
 ·rename_i h;unfold getM;rw [byteOf_wd _ _ (by omega)]
  congr 1;omega
 ·rfl
theorem store_now {D:Dv}(h:D.Ok){o:Nat}(n:BitVec 64)(ha:D.ask (o:Int) 8=0)(ho:o%8=0)(hs:o<D.size)(i:Nat) :
  ((D.store o n).1.ln i).now=if i=o/64 then putM (D.ln i).now (o%64) n else (D.ln i).now:=by
 have hq:o/64<D.ls.length:=by unfold Dv.size at hs;omega
 unfold Dv.store;rw [if_pos ha,Int.toNat_natCast];have hlen:=(Dv.Ok0.ln h.to0 (o/64)).len;by_cases hw:D.word o=n
 ·simp only [hw,if_true];show ((D.done).ln i).now=_;have:D.done.ln i=D.ln i:=rfl;rw [this];split
  ·rename_i hi;subst hi;rw [← hw];unfold Dv.word;rw [put_same _ _ (by omega)]
  ·rfl
 ·simp only [hw,if_false];show (((D.setLn (o/64) _).done).ln i).now=_;have:∀ E:Dv,E.done.ln i=E.ln i:=fun _=>rfl
  rw [this,Dv.setLn_ln D _ _ hq];split
  ·rename_i hi;subst hi;rfl
  ·rfl
theorem store_fail {D:Dv}(off:Int)(n:BitVec 64)(ha:¬ D.ask off 8=0):D.store off n=(D,D.ask off 8):=by unfold Dv.store;rw [if_neg ha]
theorem store_err {D:Dv}(off:Int)(n:BitVec 64):(D.store off n).2=D.ask off 8:=by
 unfold Dv.store;split
 ·rename_i h;simp only;exact h.symm
 ·rfl
end NM
end
end Go.Proofs.YtaaihijkdhmcdaaGreatDoor
