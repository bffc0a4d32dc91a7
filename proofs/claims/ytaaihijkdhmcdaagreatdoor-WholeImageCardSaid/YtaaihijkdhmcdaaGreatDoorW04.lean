/- WholeImage, part 5 of 38: contracts and lemmas of its proof. Conditions: none. -/
import Derived.Test.YtaaihijkdhmcdaaGreatDoorW01
import Derived.Test.YtaaihijkdhmcdaaGreatDoorW02
import Derived.Laws.Cover3
set_option linter.unusedVariables false
set_option linter.unusedSimpArgs false
set_option maxRecDepth 100000
namespace Go.Proofs.YtaaihijkdhmcdaaGreatDoor
namespace NM
open Go.Proofs.YtaaihijkdhmcdaaGreatDoor.WM (getM putM putM_length putM_getD hasB)
structure Ln where
 now:List (BitVec 8)
 chg:List (Nat × BitVec 64)
 mark:Nat
structure Ln.Ok (l:Ln):Prop where
 len:l.now.length=64
 at_:∀ c∈l.chg,∃ q,c.1=8*q∧q<8
 mark:l.mark≤l.chg.length+1
structure Dv where
 ls:List Ln
 down:Bool
 left:Int
 steps:Nat
structure Dv.Ok (D:Dv):Prop where
 line:∀ l∈D.ls,l.Ok
 most:D.ls.length≤1024
 chg:∀ l∈D.ls,l.chg.length≤D.steps
 left:-1≤D.left∧D.left≤9223372036854775807
structure Dv.Ok0 (D:Dv):Prop where
 line:∀ l∈D.ls,l.Ok
 most:D.ls.length≤1024
 left:-1≤D.left∧D.left≤9223372036854775807
theorem Dv.Ok.to0 {D:Dv}(h:D.Ok):D.Ok0:=⟨h.line,h.most,h.left⟩
def zeros:List (BitVec 8):=List.replicate 64 0#8
def line0:Ln:=⟨zeros,[],0⟩
theorem line0_ok:line0.Ok:=⟨by simp [line0,zeros],by simp [line0],by simp [line0]⟩
def dev0 (n:Nat):Dv:=⟨List.replicate n line0,false,-1,0⟩
theorem dev0_ok (n:Nat)(hn:n≤1024):(dev0 n).Ok :=
 ⟨fun l hl=>by rw [(List.mem_replicate.1 hl).2];exact line0_ok,by simpa [dev0] using hn,fun l hl=>by rw [(List.mem_replicate.1 hl).2];simp [line0],by simp [dev0]⟩
def Dv.size (D:Dv):Nat:=64*D.ls.length
def Dv.ln (D:Dv)(i:Nat):Ln:=D.ls.getD i line0
def Dv.ask (D:Dv)(off each:Int):Int :=
 if D.ls.length=0 then 1 else if D.down then 12 else if off<0∨(D.size:Int)≤off∨off.tmod each≠0 then 4 else 0
def Dv.done (D:Dv):Dv:={ D with steps:=D.steps+1,left:=if 0<D.left then D.left-1 else D.left,down:=if 0<D.left then decide (D.left-1=0) else D.down }
def Dv.setLn (D:Dv)(i:Nat)(l:Ln):Dv:={ D with ls:=D.ls.set i l }
def Ln.store (l:Ln)(p:Nat)(n:BitVec 64):Ln:={ l with now:=putM l.now p n,chg:=l.chg++[(p,getM l.now p)] }
def Ln.fence (l:Ln):Ln:=if 0<l.mark then { l with chg:=l.chg.drop (l.mark-1),mark:=0 } else l
def Dv.word (D:Dv)(off:Nat):BitVec 64:=getM (D.ln (off/64)).now (off%64)
def Dv.load (D:Dv)(off:Int):BitVec 64 × Int:=if D.ask off 8=0 then (D.word off.toNat,0) else (0#64,D.ask off 8)
def Dv.store (D:Dv)(off:Int)(n:BitVec 64):Dv × Int :=
 if D.ask off 8=0 then
  ((if D.word off.toNat=n then D else D.setLn (off.toNat/64) ((D.ln (off.toNat/64)).store (off.toNat%64) n)).done,0)
 else (D,D.ask off 8)
def Dv.flush (D:Dv)(off:Int):Dv × Int :=
 if D.ask off 1=0 then
  ((D.setLn (off.toNat/64) { D.ln (off.toNat/64) with mark:=(D.ln (off.toNat/64)).chg.length+1 }).done,0)
 else (D,D.ask off 1)
def Dv.fence (D:Dv):Dv × Int:=if D.ask 0 1=0 then (({ D with ls:=D.ls.map Ln.fence }:Dv).done,0) else (D,D.ask 0 1)
def Dv.image (D:Dv):List (BitVec 8):=(D.ls.map Ln.now).flatten
theorem Ln.Ok.store {l:Ln}(h:l.Ok){p:Nat}(hp:∃ q,p=8*q∧q<8)(n:BitVec 64):(l.store p n).Ok:=by
 refine ⟨by simp [Ln.store,putM_length,h.len],?_,by have:=h.mark;simp [Ln.store];omega⟩;intro c hc;simp [Ln.store] at hc
 rcases hc with hc|rfl
 ·exact h.at_ c hc
 ·exact hp
theorem Ln.Ok.fence {l:Ln}(h:l.Ok):l.fence.Ok:=by
 unfold Ln.fence;split
 ·exact ⟨h.len,fun c hc=>h.at_ c (List.mem_of_mem_drop hc),by simp⟩
 ·exact h
theorem Dv.Ok0.ln {D:Dv}(h:D.Ok0)(i:Nat):(D.ln i).Ok:=by
 unfold Dv.ln
 rcases Nat.lt_or_ge i D.ls.length with hi|hi
 ·have:D.ls.getD i line0=D.ls[i]:=by simp [List.getD,hi]
  rw [this];exact h.line _ (List.getElem_mem hi)
 ·have:D.ls.getD i line0=line0:=by simp [List.getD,hi]
  rw [this];exact line0_ok
theorem Dv.Ok.lnChg {D:Dv}(h:D.Ok)(i:Nat):(D.ln i).chg.length≤D.steps:=by
 unfold Dv.ln
 rcases Nat.lt_or_ge i D.ls.length with hi|hi
 ·have:D.ls.getD i line0=D.ls[i]:=by simp [List.getD,hi]
  rw [this];exact h.chg _ (List.getElem_mem hi)
 ·have:D.ls.getD i line0=line0:=by simp [List.getD,hi]
  rw [this];simp [line0]
theorem Dv.Ok.setLn_done {D:Dv}(h:D.Ok)(i:Nat){l:Ln}(hl:l.Ok)(hc:l.chg.length≤D.steps+1):(D.setLn i l).done.Ok:=by
 refine ⟨fun x hx=>?_,by simpa [Dv.setLn,Dv.done] using h.most,fun x hx=>?_,?_⟩
 ·rcases List.mem_or_eq_of_mem_set hx with hx|rfl
  ·exact h.line x hx
  ·exact hl
 ·rcases List.mem_or_eq_of_mem_set hx with hx|rfl
  ·have:=h.chg x hx;simp [Dv.setLn,Dv.done];omega
  ·simpa [Dv.setLn,Dv.done] using hc
 ·have:=h.left;by_cases h0:0<D.left<;>simp only [Dv.setLn,Dv.done,h0,if_true,if_false]<;>omega
theorem Dv.Ok.done {D:Dv}(h:D.Ok):D.done.Ok:=by
 refine ⟨h.line,h.most,fun x hx=>by have:=h.chg x hx;simp [Dv.done];omega,?_⟩;have:=h.left;by_cases h0:0<D.left<;>simp only [Dv.done,h0,if_true,if_false]<;>omega
theorem Dv.Ok.store {D:Dv}(h:D.Ok)(off:Int)(n:BitVec 64):(D.store off n).1.Ok:=by
 unfold Dv.store;split
 ·rename_i ha;simp only;split
  ·exact Dv.Ok.done h
  ·have hl:=Dv.Ok0.ln (Dv.Ok.to0 h) (off.toNat/64);refine Dv.Ok.setLn_done h _ (hl.store ?_ n) (by have:=Dv.Ok.lnChg h (off.toNat/64);simp [Ln.store];exact this);have hm:off.tmod 8=0∧0≤off:=by
    unfold Dv.ask at ha;split at ha
    ·cases ha
    ·split at ha
     ·cases ha
     ·split at ha
      ·cases ha
      ·rename_i h3;constructor
       ·apply Classical.byContradiction;intro h4;exact h3 (.inr (.inr h4))
       ·apply Classical.byContradiction;intro h4;exact h3 (.inl (by omega))
   have h8:off%8=0:=by rw [← Int.tmod_eq_emod_of_nonneg hm.2];exact hm.1
   exact ⟨off.toNat%64/8,by omega,by omega⟩
 ·exact h
theorem Dv.Ok.flush {D:Dv}(h:D.Ok)(off:Int):(D.flush off).1.Ok:=by
 unfold Dv.flush;split
 ·have hl:=Dv.Ok0.ln (Dv.Ok.to0 h) (off.toNat/64);exact Dv.Ok.setLn_done h _ ⟨hl.len,hl.at_,Nat.le_refl _⟩ (by have:=Dv.Ok.lnChg h (off.toNat/64);simp;omega)
 ·exact h
theorem Dv.Ok.fence {D:Dv}(h:D.Ok):D.fence.1.Ok:=by
 unfold Dv.fence;split
 ·refine Dv.Ok.done ⟨fun l hl=>?_,by simpa using h.most,fun l hl=>?_,h.left⟩
  ·obtain ⟨x,hx,rfl⟩:=List.mem_map.1 hl;exact (h.line x hx).fence
  ·obtain ⟨x,hx,rfl⟩:=List.mem_map.1 hl;have:=h.chg x hx;show x.fence.chg.length≤D.steps;unfold Ln.fence;split
   ·simp;omega
   ·exact this
 ·exact h
theorem Dv.Ok0.done {D:Dv}(h:D.Ok0):D.done.Ok0:=by
 refine ⟨h.line,h.most,?_⟩;have:=h.left;by_cases h0:0<D.left<;>simp only [Dv.done,h0,if_true,if_false]<;>omega
theorem Dv.Ok0.setLn {D:Dv}(h:D.Ok0)(i:Nat){l:Ln}(hl:l.Ok):(D.setLn i l).Ok0:=by
 refine ⟨fun x hx=>?_,by simpa [Dv.setLn] using h.most,h.left⟩
 rcases List.mem_or_eq_of_mem_set hx with hx|rfl
 ·exact h.line x hx
 ·exact hl
theorem Dv.setLn_len (D:Dv)(i:Nat)(l:Ln):(D.setLn i l).ls.length=D.ls.length:=by simp [Dv.setLn]
theorem Dv.setLn_ln (D:Dv)(i:Nat)(l:Ln)(hi:i<D.ls.length)(j:Nat):(D.setLn i l).ln j=if j=i then l else D.ln j:=by
 unfold Dv.ln Dv.setLn;simp only [List.getD_eq_getElem?_getD,List.getElem?_set];by_cases h:j=i
 ·subst h;simp [hi]
 ·rw [if_neg (fun e=>h e.symm),if_neg h]
end NM
section
open Go Go.RowKit
abbrev Spot:=Option Addr × Nat
def spotV (l:NM.Ln)(s:Spot):Value:=.slice s.1 l.chg.length s.2
def chgCells (cs:List (Nat × BitVec 64)):List Value:=cs.flatMap fun c=>[.int .i64 (c.1:Int),.int .u64 (uv c.2)]
structure LinesAt (w:World) (lb:Nat) (D:NM.Dv) (S:Nat→Spot) (C:Array Value):Prop where
 blk:Blk w lb C 88
 size:C.size=66*D.ls.length
 now:∀ i,i<D.ls.length→∀ j,j<64→C[i*66+j]?=some (.int .u8 (uv ((D.ln i).now.getD j 0#8)))
 chg:∀ i,i<D.ls.length→C[i*66+64]?=some (spotV (D.ln i) (S i))
 mark:∀ i,i<D.ls.length→C[i*66+65]?=some (.int .i64 ((D.ln i).mark:Int))
def DevF (p lb:Nat)(D:NM.Dv)(S:Nat→Spot)(k:Nat):Prop:=k=p∨k=lb∨∃ i,i<D.ls.length∧Value.ownBlock (spotV (D.ln i) (S i))=some k
structure DevAt (w:World) (p lb:Nat) (D:NM.Dv) (S:Nat→Spot):Prop where
 dev:Blk w p #[.slice (some ⟨lb,0,none⟩) D.ls.length D.ls.length,.bool D.down,.int .i64 D.left,.int .i64 (D.steps:Int)] 84
 lines:∃ C,LinesAt w lb D S C
 own:∀ i,i<D.ls.length→w.ownsRow 0 256 2 (spotV (D.ln i) (S i)) (D.ln i).chg.length (chgCells (D.ln i).chg)
 ne:p≠lb
 notp:∀ i,i<D.ls.length→Value.ownBlock (spotV (D.ln i) (S i))≠some p∧Value.ownBlock (spotV (D.ln i) (S i))≠some lb
 apart:∀ i j,i<D.ls.length→j<D.ls.length→i≠j→∀ k,Value.ownBlock (spotV (D.ln i) (S i))=some k→Value.ownBlock (spotV (D.ln j) (S j))≠some k
 ok:D.Ok0
 pos:0<D.ls.length
section
variable {w w':World} {p lb:Nat} {D:NM.Dv} {S:Nat→Spot}
theorem DevAt.lt (h:DevAt w p lb D S):∀ k,DevF p lb D S k→k<w.heap.size:=by
 rintro k (rfl|rfl|⟨i,hi,hk⟩)
 ·exact h.dev.lt
 ·obtain ⟨C,hC⟩:=h.lines;exact hC.blk.lt
 ·exact ((h.own i hi).lt k hk).2
theorem DevAt.mod {F:Nat→Prop}(h:DevAt w p lb D S)(hm:Mod F w w')(hF:∀ k,DevF p lb D S k→¬ F k):DevAt w' p lb D S:=by
 obtain ⟨C,hC⟩:=h.lines;refine ⟨h.dev.mod hm (hF _ (.inl rfl)),⟨C,hC.blk.mod hm (hF _ (.inr (.inl rfl))),hC.size,hC.now,hC.chg,hC.mark⟩,fun i hi=>?_,h.ne,h.notp,h.apart,h.ok,h.pos⟩;obtain ⟨h1,h2⟩:=h.own i hi;refine ⟨h1,?_⟩
 rcases h2 with h2|⟨g,cap,cur,hv,hg,hh,r⟩
 ·exact Or.inl h2
 ·have hB:Blk w g cur 256:=hh;exact Or.inr ⟨g,cap,cur,hv,hg,hB.mod hm (hF g (.inr (.inr ⟨i,hi,by rw [hv];rfl⟩))),r⟩
theorem DevAt.next (h:DevAt w p lb D S)(hb:Below w.heap.size w w'):DevAt w' p lb D S:=h.mod (Mod.of (F:=fun _=>False) hb) (fun _ _ h=>h)
theorem DevAt.now (h:DevAt w p lb D S){i:Nat}(hi:i<D.ls.length):SlIn .u8 w (some ⟨lb,i*66,none⟩) (D.ln i).now 64:=by
 obtain ⟨C,hC⟩:=h.lines;have hl:=(NM.Dv.Ok0.ln h.ok i).len;refine ⟨Or.inr ⟨_,_,rfl,fun j hj=>?_⟩,by omega,by decide,fun h=>by cases h⟩;rw [hC.blk.cell,hC.now i hi j (by omega)];simp [List.getD,hj]
theorem DevAt.head {D':NM.Dv}(h:DevAt w p lb D S)(hb:Blk w' p #[.slice (some ⟨lb,0,none⟩) D'.ls.length D'.ls.length,.bool D'.down,.int .i64 D'.left,.int .i64 (D'.steps:Int)] 84)
  (hm:Mod (fun k=>k=p) w w') (hl:D'.ls=D.ls) (hok:D'.Ok0):DevAt w' p lb D' S:=by
 have hln:∀ i,D'.ln i=D.ln i:=fun i=>by unfold NM.Dv.ln;rw [hl]
 have hlen:D'.ls.length=D.ls.length:=by rw [hl]
 obtain ⟨C,hC⟩:=h.lines;refine ⟨hb,⟨C,hC.blk.mod hm (fun e=>h.ne e.symm),by rw [hlen];exact hC.size,fun i hi j hj=>by rw [hln];exact hC.now i (hlen▸hi) j hj,fun i hi=>by rw [hln];exact hC.chg i (hlen▸hi),fun i hi=>by rw [hln];exact hC.mark i (hlen▸hi)⟩,fun i hi=>?_,h.ne,fun i hi=>by rw [hln];exact h.notp i (hlen▸hi),fun i j hi hj hij=>by rw [hln,hln];exact h.apart i j (hlen▸hi) (hlen▸hj) hij,hok,by rw [hlen];exact h.pos⟩;rw [hln];obtain ⟨h1,h2⟩:=h.own i (hlen▸hi);refine ⟨h1,?_⟩
 rcases h2 with h2|⟨g,cap,cur,hv,hg,hh,r⟩
 ·exact Or.inl h2
 ·have hB:Blk w g cur 256:=hh;exact Or.inr ⟨g,cap,cur,hv,hg,hB.mod hm (fun e=>(h.notp i (hlen▸hi)).1 (by rw [hv,← e];rfl)),r⟩
def setS (S:Nat→Spot)(i:Nat)(s:Spot):Nat→Spot:=fun j=>if j=i then s else S j
theorem DevAt.setLine {C C':Array Value}{F:Nat→Prop}{i:Nat}{l':NM.Ln}{s':Spot}(h:DevAt w p lb D S)(hL:LinesAt w lb D S C)(hi:i<D.ls.length)(hl:l'.Ok)
  (hb:Blk w' lb C' 88) (hs:C'.size=C.size) (hout:∀ k,(k<i*66∨i*66+66≤k)→C'[k]?=C[k]?)
  (hnow:∀ j,j<64→C'[i*66+j]?=some (.int .u8 (uv (l'.now.getD j 0#8)))) (hchg:C'[i*66+64]?=some (spotV l' s')) (hmark:C'[i*66+65]?=some (.int .i64 (l'.mark:Int)))
  (hm:Mod F w w') (hF:∀ k,F k→k=lb∨Value.ownBlock (spotV (D.ln i) (S i))=some k)
  (hown:w'.ownsRow 0 256 2 (spotV l' s') l'.chg.length (chgCells l'.chg))
  (hwhere:∀ k,Value.ownBlock (spotV l' s')=some k→Value.ownBlock (spotV (D.ln i) (S i))=some k∨w.heap.size≤k) :
  DevAt w' p lb (D.setLn i l') (setS S i s'):=by
 have hlen:=NM.Dv.setLn_len D i l';have hln:=NM.Dv.setLn_ln D i l' hi;have hnotF:∀ j,j<D.ls.length→j≠i→∀ k,Value.ownBlock (spotV (D.ln j) (S j))=some k→¬ F k:=by
  intro j hj hji k hk hf
  rcases hF k hf with rfl|h2
  ·exact (h.notp j hj).2 hk
  ·exact h.apart j i hj hi hji k hk h2
 have hp:¬ F p:=fun hf=>by
  rcases hF p hf with h2|h2
  ·exact h.ne h2
  ·exact (h.notp i hi).1 h2
 have hlt:∀ j,j<D.ls.length→∀ k,Value.ownBlock (spotV (D.ln j) (S j))=some k→k<w.heap.size:=fun j hj k hk=>((h.own j hj).lt k hk).2
 refine ⟨?_,⟨C',hb,by rw [hs,hlen];exact hL.size,fun j hj t ht=>?_,fun j hj=>?_,fun j hj=>?_⟩,fun j hj=>?_,h.ne,fun j hj=>?_,fun j k hj hk hjk g hg=>?_,NM.Dv.Ok0.setLn h.ok i hl,by rw [hlen];exact h.pos⟩
 ·have:=h.dev.mod hm hp;rw [hlen];exact this
 ·rw [hlen] at hj;rw [hln];by_cases e:j=i
  ·subst e;rw [if_pos rfl];exact hnow t ht
  ·rw [if_neg e,hout _ (by omega)];exact hL.now j hj t ht
 ·rw [hlen] at hj;rw [hln];by_cases e:j=i
  ·subst e;rw [if_pos rfl];simp only [setS,if_true];exact hchg
  ·rw [if_neg e,hout _ (by omega)];simp only [setS,e,if_false];exact hL.chg j hj
 ·rw [hlen] at hj;rw [hln];by_cases e:j=i
  ·subst e;rw [if_pos rfl];exact hmark
  ·rw [if_neg e,hout _ (by omega)];exact hL.mark j hj
 ·rw [hlen] at hj;rw [hln];by_cases e:j=i
  ·subst e;rw [if_pos rfl];simp only [setS,if_true];exact hown
  ·rw [if_neg e];simp only [setS,e,if_false];obtain ⟨h1,h2⟩:=h.own j hj;refine ⟨h1,?_⟩
   rcases h2 with h2|⟨g,cap,cur,hv,hg,hh,r⟩
   ·exact Or.inl h2
   ·have hB:Blk w g cur 256:=hh;exact Or.inr ⟨g,cap,cur,hv,hg,hB.mod hm (hnotF j hj e g (by rw [hv];rfl)),r⟩
 ·rw [hlen] at hj;rw [hln];by_cases e:j=i
  ·subst e;rw [if_pos rfl];simp only [setS,if_true];have hplt:=h.dev.lt;have hlblt:=hL.blk.lt;refine ⟨fun h2=>?_,fun h2=>?_⟩
   ·rcases hwhere p h2 with h3|h3
    ·exact (h.notp j hi).1 h3
    ·omega
   ·rcases hwhere lb h2 with h3|h3
    ·exact (h.notp j hi).2 h3
    ·omega
  ·rw [if_neg e];simp only [setS,e,if_false];exact h.notp j hj
 ·rw [hlen] at hj hk;rw [hln] at hg ⊢;by_cases e:j=i
  ·subst e;have e2:¬ k=j:=fun e2=>hjk e2.symm
   rw [if_pos rfl] at hg;rw [if_neg e2];simp only [setS,if_true] at hg;simp only [setS,e2,if_false];intro hk2
   rcases hwhere g hg with h3|h3
   ·exact h.apart j k hj hk hjk g h3 hk2
   ·have:=hlt k hk g hk2;omega
  ·rw [if_neg e] at hg;simp only [setS,e,if_false] at hg;by_cases e2:k=i
   ·subst e2;rw [if_pos rfl];simp only [setS,if_true];intro hk2
    rcases hwhere g hk2 with h3|h3
    ·exact h.apart j k hj hk hjk g hg h3
    ·have:=hlt j hj g hg;omega
   ·rw [if_neg e2];simp only [setS,e2,if_false];exact h.apart j k hj hk hjk g hg
end
theorem size_calls {p lb:Nat}{D:NM.Dv}{S:Nat→Spot}(w:World)(h:DevAt w p lb D S):Ret Tryz.prog 27 #[.pointer (some ⟨p,0,none⟩)] w fun v w'=>v=.int .i64 (D.size:Int)∧w'=w:=by
 have hm:=h.ok.most;have hw:=IntWalk.i64_in ((D.ls.length:Int)*64) (by omega);refine ret_of (args:=[_]) _ Tryz.func27 rfl Tryz.ntmps27 (by simp) ?_;simp -implicitDefEqProofs [go_sem,h.dev.cell,hw];refine body_tmp 2 rfl ?_;simp -implicitDefEqProofs [go_sem,NM.Dv.size];omega
end
section
open Go Go.RowKit
theorem Blk.eq' {w:World}{b:Nat}{C C':Array Value}{e:TypeId}(h:Blk w b C e)(hC:C=C'):Blk w b C' e:=hC▸h
theorem decide_beq (z:Int):(z==0)=decide (z=0):=by rw [Bool.eq_iff_iff,beq_iff_eq,decide_eq_true_iff]
theorem ask8 {D:NM.Dv}{off:Int}(hp:0<D.ls.length)(h:D.ask off 8=0):∃ o:Nat,off=(o:Int)∧o%8=0∧o<D.size:=by
 unfold NM.Dv.ask at h;rw [if_neg (by omega)] at h;split at h
 ·cases h
 ·split at h
  ·cases h
  ·rename_i h3;have h4:0≤off:=by
    apply Classical.byContradiction;intro h4;exact h3 (.inl (by omega))
   obtain ⟨o,rfl⟩:=Int.eq_ofNat_of_zero_le h4;refine ⟨o,rfl,?_,?_⟩
   ·have h5:(o:Int).tmod 8=0:=by
     apply Classical.byContradiction;intro h5;exact h3 (.inr (.inr h5))
    rw [Int.tmod_eq_emod_of_nonneg h4] at h5;omega
   ·apply Classical.byContradiction;intro h5;exact h3 (.inr (.inl (by omega)))
theorem ask_calls {p lb:Nat}{D:NM.Dv}{S:Nat→Spot}(off each:Int)(w:World)(h:DevAt w p lb D S)(he:0<each) :
  Ret Tryz.prog 88 #[.pointer (some ⟨p,0,none⟩),.int .i64 off,.int .i64 each] w fun v w'=>v=.int .i64 (D.ask off each)∧w'=w:=by
 have hpos:=h.pos;have hl0:¬ D.ls.length=0:=by omega
 have hs0:((D.size:Int)==0)=false:=by rw [beq_eq_false_iff_ne];unfold NM.Dv.size;omega
 have hs0':¬ D.size=0:=by unfold NM.Dv.size;omega
 have he0:¬ each=0:=by omega
 refine ret_of (args:=[_,_,_]) _ Tryz.func88 rfl Tryz.ntmps88 (by simp) ?_;simp -implicitDefEqProofs [go_sem];refine callE_of (size_calls w h) ?_;rintro v w1 ⟨rfl,rfl⟩;cases hd:D.down
 ·by_cases h1:off<0
  ·simp -implicitDefEqProofs [go_sem,hs0,hs0',h.dev.cell,hd,h1];refine body_tmp 6 rfl ?_;simp -implicitDefEqProofs [go_sem,NM.Dv.ask,hl0,hd,h1]
  ·simp -implicitDefEqProofs [go_sem,hs0,hs0',h.dev.cell,hd,h1];refine callE_of (size_calls w1 h) ?_;rintro v w2 ⟨rfl,rfl⟩;by_cases h2:(D.size:Int)≤off
   ·simp -implicitDefEqProofs [go_sem,h2];refine body_tmp 6 rfl ?_;simp -implicitDefEqProofs [go_sem,NM.Dv.ask,hl0,hd,h1,h2]
   ·by_cases h3:off.tmod each=0
    ·have h3':(off.tmod each != 0)=false:=by rw [bne_eq_false_iff_eq];exact h3
     simp -implicitDefEqProofs [go_sem,h2,he0,h3'];refine body_tmp 6 rfl ?_;simp -implicitDefEqProofs [go_sem,NM.Dv.ask,hl0,hd,h1,h2,h3]
    ·have h3':(off.tmod each != 0)=true:=by rw [bne_iff_ne];exact h3
     simp -implicitDefEqProofs [go_sem,h2,he0,h3'];refine body_tmp 6 rfl ?_;simp -implicitDefEqProofs [go_sem,NM.Dv.ask,hl0,hd,h1,h2,h3]
 ·simp -implicitDefEqProofs [go_sem,hs0,hs0',h.dev.cell,hd];refine body_tmp 6 rfl ?_;simp -implicitDefEqProofs [go_sem,NM.Dv.ask,hl0,hd]
theorem done_calls {p lb:Nat}{D:NM.Dv}{S:Nat→Spot}(w:World)(h:DevAt w p lb D S)(hst:D.steps<1099511627776) :
  Ret Tryz.prog 107 #[.pointer (some ⟨p,0,none⟩)] w fun v w'=>v=.tuple #[]∧DevAt w' p lb D.done S∧Mod (fun k=>k=p) w w'∧w'.heap.size=w.heap.size:=by
 have hw:=IntWalk.i64_in ((D.steps:Int)+1) (by omega);have hl:=h.ok.left;have hw2:=IntWalk.i64_in (D.left-1) (by omega);have hB:=h.dev;have hB1:=hB.set 3 (.int .i64 ((D.steps:Int)+1));have hm1:=(Mod.refl (fun k=>k=p) w).setCell (a:=⟨p,3,none⟩) (.inl rfl) (.int .i64 ((D.steps:Int)+1));refine ret_of (args:=[_]) _ Tryz.func107 rfl Tryz.ntmps107 (by simp) ?_;by_cases h0:0<D.left
 ·have hB2:=hB1.set 2 (.int .i64 (D.left-1));have hm2:=hm1.setCell (a:=⟨p,2,none⟩) (.inl rfl) (.int .i64 (D.left-1));have hB3:=hB2.set 1 (.bool (D.left-1==0));have hm3:=hm2.setCell (a:=⟨p,1,none⟩) (.inl rfl) (.bool (D.left-1==0));simp -implicitDefEqProofs [go_sem,hB.cell,hB.thaw,hw,hw2,h0];refine body_end (body_none rfl ?_);refine ⟨rfl,h.head (D':=D.done) ?_ hm3 rfl (NM.Dv.Ok0.done h.ok),hm3,by simp [World.setCell]⟩
  have e:D.done=⟨D.ls,decide (D.left-1=0),D.left-1,D.steps+1⟩:=by simp [NM.Dv.done,h0]
  rw [e];refine (show Blk _ p _ _ from hB3).eq' ?_;simp [decide_beq]
 ·simp -implicitDefEqProofs [go_sem,hB.cell,hB.thaw,hw,hw2,h0];refine body_end (body_none rfl ?_);refine ⟨rfl,h.head (D':=D.done) ?_ hm1 rfl (NM.Dv.Ok0.done h.ok),hm1,by simp [World.setCell]⟩;have e:D.done=⟨D.ls,D.down,D.left,D.steps+1⟩:=by simp [NM.Dv.done,h0]
  rw [e];refine (show Blk _ p _ _ from hB1).eq' ?_;simp
theorem load_calls {p lb:Nat}{D:NM.Dv}{S:Nat→Spot}(off:Int)(w:World)(h:DevAt w p lb D S)(ho:I64 off) :
  Ret Tryz.prog 52 #[.pointer (some ⟨p,0,none⟩),.int .i64 off] w fun v w'=>v=.tuple #[.int .u64 (uv (D.load off).1),.int .i64 (D.load off).2]∧w'=w:=by
 obtain ⟨ho1,ho2⟩:=ho;refine ret_of (args:=[_,_]) _ Tryz.func52 rfl Tryz.ntmps52 (by simp) ?_;simp -implicitDefEqProofs [go_sem];refine callE_of (ask_calls off 8 w h (by decide)) ?_;rintro v w1 ⟨rfl,rfl⟩;by_cases ha:D.ask off 8=0
 ·obtain ⟨o,rfl,ho8,hos⟩:=ask8 h.pos ha;have hQ:o/64<D.ls.length:=by unfold NM.Dv.size at hos;omega
  have hnow:=h.now hQ;have hl:=(NM.Dv.Ok0.ln h.ok (o/64)).len;have hgc:=get_calls (some ⟨lb,o/64*66,none⟩) (D.ln (o/64)).now 64 64 ((o%64:Nat):Int) w1 hl (by decide) hnow.at_;have hhas:WM.hasB 64 ((o%64:Nat):Int)=true:=by unfold WM.hasB;rw [decide_eq_true_iff];omega
  rw [hhas,if_pos rfl,Int.toNat_natCast] at hgc;have hwq:IntKind.i64.wrap ((o:Int)/64)=((o/64:Nat):Int):=by rw [IntWalk.i64_in _ (by omega)];rfl
  have hwr:(o:Int).tmod 64=((o%64:Nat):Int):=by rw [Int.tmod_eq_emod_of_nonneg (by omega)];rfl
  have hQ':((o/64:Nat):Int)<D.ls.length:=by omega
  have hld:D.load (o:Int)=(D.word o,0):=by unfold NM.Dv.load;rw [if_pos ha,Int.toNat_natCast]
  have hwd:D.word o=WM.getM (D.ln (o/64)).now (o%64):=rfl;rw [hld,hwd];generalize o/64=Q at *;generalize o%64=T at *;simp -implicitDefEqProofs [go_sem,ha,h.dev.cell,hwq,hwr,hQ,hQ'];refine callE_of hgc ?_;rintro v w2 ⟨rfl,rfl⟩;simp -implicitDefEqProofs [go_sem];refine body_tmp2 4 5 rfl ?_;simp -implicitDefEqProofs [go_sem]
 ·have ha':(D.ask off 8 != 0)=true:=by rw [bne_iff_ne];exact ha
  simp -implicitDefEqProofs [go_sem,ha,ha'];refine body_tmp2 4 5 rfl ?_;simp -implicitDefEqProofs [go_sem,NM.Dv.load,ha,show uv 0#64=0 from rfl]
end
section
open Go Go.RowKit
theorem setS_same (S:Nat→Spot)(i:Nat):setS S i (S i)=S:=by
 funext j;unfold setS;by_cases h:j=i
 ·subst h;simp
 ·simp [h]
theorem DevAt.ownMod {w w':World}{p lb:Nat}{D:NM.Dv}{S:Nat→Spot}{F:Nat→Prop}(h:DevAt w p lb D S){i:Nat}(hi:i<D.ls.length)(hm:Mod F w w')(hF:∀ k,Value.ownBlock (spotV (D.ln i) (S i))=some k→¬ F k) :
  w'.ownsRow 0 256 2 (spotV (D.ln i) (S i)) (D.ln i).chg.length (chgCells (D.ln i).chg):=by
 obtain ⟨h1,h2⟩:=h.own i hi;refine ⟨h1,?_⟩
 rcases h2 with h2|⟨g,cap,cur,hv,hg,hh,r⟩
 ·exact Or.inl h2
 ·have hB:Blk w g cur 256:=hh;exact Or.inr ⟨g,cap,cur,hv,hg,hB.mod hm (hF g (by rw [hv];rfl)),r⟩
def byteCs (l:List (BitVec 8)):Array Value:=(cellsK .u8 l).toArray
theorem byteCs_size (l:List (BitVec 8)):(byteCs l).size=l.length:=by simp [byteCs,cellsK]
theorem byteCs_get (l:List (BitVec 8))(j:Nat)(hj:j<l.length):(byteCs l)[j]?=some (.int .u8 (uv (l.getD j 0#8))):=by simp [byteCs,cellsK,hj]
theorem byteCs_one (l:List (BitVec 8)):∀ v∈(byteCs l).toList,v.oneCell'=true:=by
 intro v hv;simp [byteCs] at hv;exact cellsK_one v hv
theorem arrI:(Tryz.prog.info? 85).map (·.size)=some 64:=by kernel_rfl
theorem set_calls {p lb:Nat}{D:NM.Dv}{S:Nat→Spot}(i q:Nat)(n:BitVec 64)(w0:World)(h:DevAt w0 p lb D S)(hi:i<D.ls.length)(hq:q<8) :
  Ret Tryz.prog 143 #[.pointer (some ⟨lb,i*66,none⟩),.int .i64 ((8*q:Nat):Int),.int .u64 (uv n)] w0 fun v w'=>v=.tuple #[]∧DevAt w' p lb (D.setLn i { D.ln i with now:=WM.putM (D.ln i).now (8*q) n }) S∧Mod (fun k=>k=lb) w0 w':=by
 have hl:=(NM.Dv.Ok0.ln h.ok i);have harr:=Tryz.underlying85;refine ret_of (args:=[_,_,_]) _ Tryz.func143 rfl Tryz.ntmps143 (by simp) ?_;have hP:=put_calls (some ⟨lb,i*66,none⟩) (D.ln i).now 64 64 ((8*q:Nat):Int) n w0 hl.len (by decide) (h.now hi);have hhas:WM.hasB 64 ((8*q:Nat):Int)=true:=by unfold WM.hasB;rw [decide_eq_true_iff];omega
 have hput:putB (D.ln i).now ((8*q:Nat):Int) n=WM.putM (D.ln i).now (8*q) n:=by
  unfold putB;rw [hl.len,if_pos hhas,Int.toNat_natCast]
 rw [hhas,hput] at hP;generalize hy:8*q=y at *;simp -implicitDefEqProofs [go_sem];refine callE_of hP ?_;rintro v w1 ⟨a1,c1,rfl,hin1,b1⟩;have h1:=h.next b1
 have hlen:(WM.putM (D.ln i).now y n).length=64:=by rw [WM.putM_length,hl.len]
 generalize hnw:WM.putM (D.ln i).now y n=N at *;obtain h0|⟨b,o,rfl,hc⟩:=hin1.at_
 ·rw [h0] at hlen;simp at hlen
 obtain ⟨C,hL⟩:=h1.lines;have hsz:i*66+66≤C.size:=by rw [hL.size];omega
 have hb64:(byteCs N).size=64:=by rw [byteCs_size,hlen]
 have hld:=ldCells (P:=Tryz.prog) (w:=w1) (g:=b) (o:=o) (cs:=byteCs N) harr rfl arrI hb64 (fun j hj=>by
  have hj':j<N.length:=by rw [byteCs_size] at hj;exact hj
  rw [hc j hj'];simp [byteCs,cellsK])
 have hst:=stE (P:=Tryz.prog) (ty:=85) (o:=i*66) (cs:=byteCs N) hL.blk (by rw [hb64];exact arrI) (by omega) (byteCs_one N);have har:=fun w a c=>run_arrayAt (P:=Tryz.prog) (w:=w) 85 5 64 a 64 c harr (Nat.le_refl _)
 have hm2:Mod (fun k=>k=lb) w1 (w1.setRow lb (segPut C (i*66) (byteCs N))):=(Mod.refl (fun k=>k=lb) w1).row (g:=lb) (.inl rfl) _;have hown:=h1.ownMod hi hm2 (fun k hk e=>(h1.notp i hi).2 (e▸hk));have hg:=segPut_get C (i*66) (byteCs N) (by omega);rw [hb64] at hg;have hD:=h1.setLine (l':={ D.ln i with now:=N }) (s':=S i) hL hi ⟨hlen,hl.at_,hl.mark⟩ (hL.blk.row _) (segPut_size _ _ _ (by omega)) (fun k hk=>by rw [hg,if_neg (by omega)])
  (fun j hj=>by rw [hg,if_pos (by omega),show i*66+j-i*66=j by omega,byteCs_get _ _ (by omega)])
  (by rw [hg,if_neg (by omega)];exact hL.chg i hi) (by rw [hg,if_neg (by omega)];exact hL.mark i hi) hm2 (fun k hk=>.inl hk) hown (fun k hk=>.inl hk)
 rw [setS_same] at hD;simp -implicitDefEqProofs [go_sem,har,↓hld,↓hst];refine body_end (body_none rfl ?_);exact ⟨rfl,hD,(Mod.of b1).trans hm2 (fun k hk _=>hk)⟩
end
section
open Go Go.RowKit
def DevStep (w:World)(p lb:Nat)(D:NM.Dv)(S:Nat→Spot)(D':NM.Dv)(w':World):Prop :=
 ∃ S',DevAt w' p lb D' S'∧Mod (DevF p lb D S) w w'∧∀ k,DevF p lb D' S' k→DevF p lb D S k∨w.heap.size≤k
theorem DevStep.refl {w:World}{p lb:Nat}{D:NM.Dv}{S:Nat→Spot}(h:DevAt w p lb D S):DevStep w p lb D S D w:=⟨S,h,Mod.refl _ _,fun _ hk=>.inl hk⟩
theorem DevStep.head {w w1 w':World}{p lb:Nat}{D D1 D':NM.Dv}{S S1:Nat→Spot}(_:DevAt w1 p lb D1 S1)(hm1:Mod (DevF p lb D S) w w1)(hw1:∀ k,DevF p lb D1 S1 k→DevF p lb D S k∨w.heap.size≤k)(h2:DevStep w1 p lb D1 S1 D' w'):DevStep w p lb D S D' w':=by
 obtain ⟨S',hA,hm,hw⟩:=h2;refine ⟨S',hA,hm1.trans hm (fun k hk hlt=>?_),fun k hk=>?_⟩
 ·rcases hw1 k hk with h|h
  ·exact h
  ·omega
 ·rcases hw k hk with h|h
  ·exact hw1 k h
  ·right;have:=hm1.size;omega
theorem step_done {w w':World}{p lb:Nat}{D:NM.Dv}{S:Nat→Spot}(h:DevAt w' p lb D.done S)(hm:Mod (fun k=>k=p) w w'):DevStep w p lb D S D.done w' :=
 ⟨S,h,hm.mono (fun k hk _=>.inl hk),fun k hk=>.inl (by
  rcases hk with rfl|rfl|⟨i,hi,hk⟩
  ·exact .inl rfl
  ·exact .inr (.inl rfl)
  ·exact .inr (.inr ⟨i,hi,hk⟩))⟩
theorem setLine_F {p lb:Nat}{D:NM.Dv}{S:Nat→Spot}{i:Nat}{l':NM.Ln}{s':Spot}{w:World}(hi:i<D.ls.length)(hwhere:∀ k,Value.ownBlock (spotV l' s')=some k→Value.ownBlock (spotV (D.ln i) (S i))=some k∨w.heap.size≤k) :
  ∀ k,DevF p lb (D.setLn i l') (setS S i s') k→DevF p lb D S k∨w.heap.size≤k:=by
 rintro k (rfl|rfl|⟨j,hj,hk⟩)
 ·exact .inl (.inl rfl)
 ·exact .inl (.inr (.inl rfl))
 ·rw [NM.Dv.setLn_len] at hj;rw [NM.Dv.setLn_ln D i l' hi] at hk;by_cases e:j=i
  ·subst e;rw [if_pos rfl] at hk;simp only [setS,if_true] at hk
   rcases hwhere k hk with h|h
   ·exact .inl (.inr (.inr ⟨j,hi,h⟩))
   ·exact .inr h
  ·rw [if_neg e] at hk;simp only [setS,e,if_false] at hk;exact .inl (.inr (.inr ⟨j,hj,hk⟩))
theorem ask1 {D:NM.Dv}{off:Int}(hp:0<D.ls.length)(h:D.ask off 1=0):∃ o:Nat,off=(o:Int)∧o<D.size:=by
 unfold NM.Dv.ask at h;rw [if_neg (by omega)] at h;split at h
 ·cases h
 ·split at h
  ·cases h
  ·rename_i h3;have h4:0≤off:=by
    apply Classical.byContradiction;intro h4;exact h3 (.inl (by omega))
   obtain ⟨o,rfl⟩:=Int.eq_ofNat_of_zero_le h4;exact ⟨o,rfl,by apply Classical.byContradiction;intro h5;exact h3 (.inr (.inl (by omega)))⟩
theorem flush_calls {p lb:Nat}{D:NM.Dv}{S:Nat→Spot}(off:Int)(w0:World)(h:DevAt w0 p lb D S)(ho:I64 off)(hc:D.steps<1099511627776)(hok:D.Ok) :
  Ret Tryz.prog 105 #[.pointer (some ⟨p,0,none⟩),.int .i64 off] w0 fun v w'=>v=.int .i64 (D.flush off).2∧DevStep w0 p lb D S (D.flush off).1 w':=by
 obtain ⟨ho1,ho2⟩:=ho;refine ret_of (args:=[_,_]) _ Tryz.func105 rfl Tryz.ntmps105 (by simp) ?_;simp -implicitDefEqProofs [go_sem];refine callE_of (ask_calls off 1 w0 h (by decide)) ?_;rintro v w1 ⟨rfl,rfl⟩;by_cases ha:D.ask off 1=0
 ·obtain ⟨o,rfl,hos⟩:=ask1 h.pos ha;have hQ:o/64<D.ls.length:=by unfold NM.Dv.size at hos;omega
  have hwq:IntKind.i64.wrap ((o:Int)/64)=((o/64:Nat):Int):=by rw [IntWalk.i64_in _ (by omega)];rfl
  have hQ':((o/64:Nat):Int)<D.ls.length:=by omega
  have hfl:D.flush (o:Int)=((D.setLn (o/64) { D.ln (o/64) with mark:=(D.ln (o/64)).chg.length+1 }).done,0):=by unfold NM.Dv.flush;rw [if_pos ha,Int.toNat_natCast]
  rw [hfl];generalize o/64=Q at *;have hl:=NM.Dv.Ok0.ln h.ok Q;have hcl:=NM.Dv.Ok.lnChg hok Q;have hw65:=IntWalk.i64_in (((D.ln Q).chg.length:Int)+1) (by omega);obtain ⟨C,hL⟩:=h.lines;have g64:=hL.blk.cell (Q*66+64);rw [hL.chg Q hQ,spotV] at g64;have g65:=hL.blk.cell (Q*66+65);rw [hL.mark Q hQ] at g65;have f65:=hL.blk.thaw (Q*66+65);have hCs:Q*66+66≤C.size:=by rw [hL.size];omega
  have hm2:Mod (fun k=>k=lb) w1 (w1.setCell ⟨lb,Q*66+65,none⟩ (.int .i64 (((D.ln Q).chg.length:Int)+1))):=(Mod.refl (fun k=>k=lb) w1).setCell (a:=⟨lb,Q*66+65,none⟩) (.inl rfl) _;have hown:=h.ownMod hQ hm2 (fun k hk e=>(h.notp Q hQ).2 (e▸hk));have hg:∀ k,(C.setIfInBounds (Q*66+65) (.int .i64 (((D.ln Q).chg.length:Int)+1)))[k]?=if k=Q*66+65 then some (.int .i64 (((D.ln Q).chg.length:Int)+1)) else C[k]?:=fun k=>by
   rw [Array.getElem?_setIfInBounds];by_cases e:k=Q*66+65
   ·subst e;rw [if_pos rfl,if_pos rfl,if_pos (by omega)]
   ·rw [if_neg (fun e2=>e e2.symm),if_neg e]
  have hD:=h.setLine (l':={ D.ln Q with mark:=(D.ln Q).chg.length+1 }) (s':=S Q) hL hQ ⟨hl.len,hl.at_,Nat.le_refl _⟩ (hL.blk.set _ _) (by simp) (fun k hk=>by rw [hg,if_neg (by omega)])
   (fun j hj=>by rw [hg,if_neg (by omega)];exact hL.now Q hQ j hj) (by rw [hg,if_neg (by omega)];exact hL.chg Q hQ) (by rw [hg,if_pos rfl];rfl) hm2 (fun k hk=>.inl hk) hown (fun k hk=>.inl hk)
  have hF:=setLine_F (p:=p) (lb:=lb) (S:=S) (l':={ D.ln Q with mark:=(D.ln Q).chg.length+1 }) (s':=S Q) (w:=w1) hQ (fun k hk=>.inl hk);have hdone:=done_calls (w1.setCell ⟨lb,Q*66+65,none⟩ (.int .i64 (((D.ln Q).chg.length:Int)+1))) hD (by simpa [NM.Dv.setLn] using hc);simp -implicitDefEqProofs [go_sem,ha,h.dev.cell,hwq,hQ,hQ',g64,g65,f65,hw65];refine callE_of hdone ?_;rintro v w2 ⟨rfl,hA2,hmd,_⟩;simp -implicitDefEqProofs [go_sem];refine body_tmp 4 rfl ?_;simp -implicitDefEqProofs [go_sem]
  exact DevStep.head hD (hm2.mono (fun k hk _=>.inr (.inl hk))) hF (step_done hA2 hmd)
 ·have ha':(D.ask off 1 != 0)=true:=by rw [bne_iff_ne];exact ha
  simp -implicitDefEqProofs [go_sem,ha,ha'];refine body_tmp 4 rfl ?_;simp -implicitDefEqProofs [go_sem,NM.Dv.flush,ha];exact DevStep.refl h
end
section
open Go Go.RowKit
theorem setLn_setLn (D:NM.Dv)(i:Nat)(a b:NM.Ln):(D.setLn i a).setLn i b=D.setLn i b:=by simp [NM.Dv.setLn]
theorem chgI:∃ i z,Tryz.prog.info? 256=some i∧i.zero=some z∧i.size=2∧i.bytes=16∧z.cells.size=2:=by
 have h:(Tryz.prog.info? 256).map (fun i=>(i.zero.map (fun z=>z.cells.size),i.size,i.bytes))=some (some 2,2,16):=by kernel_rfl
 obtain ⟨i,hi,h2⟩:=Option.map_eq_some_iff.1 h;simp only [Prod.mk.injEq] at h2;obtain ⟨z,hz,h3⟩:=Option.map_eq_some_iff.1 h2.1;exact ⟨i,z,hi,hz,h2.2.1,h2.2.2,h3⟩
theorem ownsRow_mod {w w':World}{F:Nat→Prop}{B:Nat}{e:TypeId}{k:Nat}{v:Value}{n:Nat}{xs:List Value}(h:w.ownsRow B e k v n xs)(hm:Mod F w w')(hF:∀ g,v.ownBlock=some g→¬ F g):w'.ownsRow B e k v n xs:=by
 obtain ⟨h1,h2⟩:=h;refine ⟨h1,?_⟩
 rcases h2 with h2|⟨g,cap,cur,hv,hg,hh,r⟩
 ·exact Or.inl h2
 ·have hB:Blk w g cur e:=hh;exact Or.inr ⟨g,cap,cur,hv,hg,hB.mod hm (hF g (by rw [hv];rfl)),r⟩
set_option maxHeartbeats 1000000 in
theorem store_calls {p lb:Nat}{D:NM.Dv}{S:Nat→Spot}(off:Int)(n:BitVec 64)(w0:World)(h:DevAt w0 p lb D S)(ho:I64 off)(hc:D.steps<1099511627776)(hok:D.Ok) :
  Ret Tryz.prog 103 #[.pointer (some ⟨p,0,none⟩),.int .i64 off,.int .u64 (uv n)] w0 fun v w'=>v=.int .i64 (D.store off n).2∧DevStep w0 p lb D S (D.store off n).1 w':=by
 have ho':=ho;obtain ⟨ho1,ho2⟩:=ho;refine ret_of (args:=[_,_,_]) _ Tryz.func103 rfl Tryz.ntmps103 (by simp) ?_;simp -implicitDefEqProofs [go_sem];refine callE_of (load_calls off w0 h ho') ?_;rintro v w1 ⟨rfl,rfl⟩;by_cases ha:D.ask off 8=0
 ·obtain ⟨o,rfl,ho8,hos⟩:=ask8 h.pos ha;have hld:D.load (o:Int)=(D.word o,0):=by unfold NM.Dv.load;rw [if_pos ha,Int.toNat_natCast]
  rw [hld];by_cases hn:D.word o=n
  ·have hn':(D.word o != n)=false:=by rw [hn];simp
   have hst:D.store (o:Int) n=(D.done,0):=by unfold NM.Dv.store;rw [if_pos ha,Int.toNat_natCast,if_pos hn]
   simp -implicitDefEqProofs [go_sem,hn'];refine callE_of (done_calls w1 h hc) ?_;rintro v w2 ⟨rfl,hA2,hmd,_⟩;simp -implicitDefEqProofs [go_sem];refine body_tmp 6 rfl ?_;simp -implicitDefEqProofs [go_sem,hst];exact step_done hA2 hmd
  ·have hn':(D.word o != n)=true:=by rw [bne_iff_ne];exact hn
   have hQ:o/64<D.ls.length:=by unfold NM.Dv.size at hos;omega
   have hwq:IntKind.i64.wrap ((o:Int)/64)=((o/64:Nat):Int):=by rw [IntWalk.i64_in _ (by omega)];rfl
   have hwr:(o:Int).tmod 64=((o%64:Nat):Int):=by rw [Int.tmod_eq_emod_of_nonneg (by omega)];rfl
   have hQ':((o/64:Nat):Int)<D.ls.length:=by omega
   have hst:D.store (o:Int) n=((D.setLn (o/64) ((D.ln (o/64)).store (o%64) n)).done,0):=by unfold NM.Dv.store;rw [if_pos ha,Int.toNat_natCast,if_neg hn]
   obtain ⟨q,hq,hq8⟩:∃ q,o%64=8*q∧q<8:=⟨o%64/8,by omega,by omega⟩;have hwd:D.word o=WM.getM (D.ln (o/64)).now (o%64):=rfl;rw [hst];generalize hold:D.word o=old at *;generalize o/64=Q at *;generalize o%64=T at *;have hl:=NM.Dv.Ok0.ln h.ok Q;have hcl:=NM.Dv.Ok.lnChg hok Q;obtain ⟨C,hL⟩:=h.lines;have g64:=hL.blk.cell (Q*66+64);rw [hL.chg Q hQ,spotV] at g64;have hCs:Q*66+66≤C.size:=by rw [hL.size];omega
   obtain ⟨ti,tz,hti,htz,hts,htb,htc⟩:=chgI;have belA:Below w1.heap.size w1 (w1.alloc (.cells #[.int .i64 (T:Int),.int .u64 (uv old)] 256)):=(Below.refl _ _).alloc (Nat.le_refl _) _;have szA:(w1.alloc (.cells #[.int .i64 (T:Int),.int .u64 (uv old)] 256)).heap.size=w1.heap.size+1:=by simp
   have hNew:=Blk.new w1 #[.int .i64 (T:Int),.int .u64 (uv old)] 256;have ownA:=ownsRow_next (h.own Q hQ) belA;obtain ⟨g,cap',w2,hr2,hown2,hgr,hwh⟩:=run_append_where (P:=Tryz.prog) 0 (t:=86) (ty:=86) Tryz.underlying86 hti htz hts htb htc (by decide) ownA ⟨w1.heap.size,0,none⟩ (m:=1) (c:=1) (news:=[.int .i64 (T:Int),.int .u64 (uv old)]) rfl
    (fun j u hu=>by
     rw [Addr.add_lit,Nat.zero_add,hNew.cell];simpa using hu) (by simp [Value.oneCell']) (by decide) (by omega) (by omega) (by omega)
   have hm1:Mod (fun k=>Value.ownBlock (spotV (D.ln Q) (S Q))=some k) w1 w2:=(Mod.of belA).grown hgr (fun k hk=>.inl hk);have hlb2:=hL.blk.mod hm1 (fun e=>(h.notp Q hQ).2 e);obtain ⟨l1,hl1⟩:∃ l1:NM.Ln,l1={ D.ln Q with chg:=(D.ln Q).chg++[(T,old)] }:=⟨_,rfl⟩;have hlen1:l1.chg.length=(D.ln Q).chg.length+1:=by rw [hl1];simp
   have hgb:Value.ownBlock (spotV (D.ln Q) (S Q))=some g∨w1.heap.size≤g:=by
    rcases hwh with h2|h2
    ·exact .inl h2
    ·right;omega
   have hglb:g≠lb:=by
    rintro rfl
    rcases hgb with h2|h2
    ·exact (h.notp Q hQ).2 h2
    ·have:=hL.blk.lt;omega
   have hmL:Mod (fun k=>k=lb) w2 (w2.setCell ⟨lb,Q*66+64,none⟩ (.slice (some ⟨g,0,none⟩) ((D.ln Q).chg.length+1) cap')):=(Mod.refl (fun k=>k=lb) w2).setCell (a:=⟨lb,Q*66+64,none⟩) (.inl rfl) _;have hm3:Mod (fun k=>k=lb∨Value.ownBlock (spotV (D.ln Q) (S Q))=some k) w1 (w2.setCell ⟨lb,Q*66+64,none⟩ (.slice (some ⟨g,0,none⟩) ((D.ln Q).chg.length+1) cap')) :=
    (hm1.mono (fun k hk _=>.inr hk)).trans hmL (fun k hk _=>.inl hk)
   have hown3:=ownsRow_mod hown2 hmL (fun k hk e=>hglb (by
    have:some g=some k:=hk;rw [e] at this;exact Option.some.inj this))
   have hg:∀ k,(C.setIfInBounds (Q*66+64) (.slice (some ⟨g,0,none⟩) ((D.ln Q).chg.length+1) cap'))[k]?=if k=Q*66+64 then some (.slice (some ⟨g,0,none⟩) ((D.ln Q).chg.length+1) cap') else C[k]?:=fun k=>by
    rw [Array.getElem?_setIfInBounds];by_cases e:k=Q*66+64
    ·subst e;rw [if_pos rfl,if_pos rfl,if_pos (by omega)]
    ·rw [if_neg (fun e2=>e e2.symm),if_neg e]
   have hchg1:chgCells l1.chg=chgCells (D.ln Q).chg++[.int .i64 (T:Int),.int .u64 (uv old)]:=by rw [hl1];simp [chgCells]
   have hsp:spotV l1 (some ⟨g,0,none⟩,cap')=.slice (some ⟨g,0,none⟩) ((D.ln Q).chg.length+1) cap':=by unfold spotV;rw [hlen1]
   have hok1:l1.Ok:=by
    rw [hl1];refine ⟨hl.len,fun c hc=>?_,by have:=hl.mark;simp;omega⟩
    rcases List.mem_append.1 hc with hc|hc
    ·exact hl.at_ c hc
    ·rw [List.mem_singleton.1 hc];exact ⟨q,hq,hq8⟩
   have hwh1:∀ k,Value.ownBlock (spotV l1 (some ⟨g,0,none⟩,cap'))=some k→Value.ownBlock (spotV (D.ln Q) (S Q))=some k∨w1.heap.size≤k:=fun k hk=>by
    have:some g=some k:=hk;rw [← Option.some.inj this];exact hgb
   have hD1:=h.setLine (l':=l1) (s':=(some ⟨g,0,none⟩,cap')) hL hQ hok1 (hlb2.set _ _) (by simp) (fun k hk=>by rw [hg,if_neg (by omega)])
    (fun j hj=>by rw [hg,if_neg (by omega)];rw [hl1];exact hL.now Q hQ j hj) (by rw [hg,if_pos rfl,hsp]) (by rw [hg,if_neg (by omega),hl1];exact hL.mark Q hQ) hm3 (fun k hk=>hk) (by rw [hsp,hlen1,hchg1];exact hown3) hwh1
   have hF1:=setLine_F (p:=p) (lb:=lb) (S:=S) (l':=l1) (s':=(some ⟨g,0,none⟩,cap')) (w:=w1) hQ hwh1;have hQ1:Q<(D.setLn Q l1).ls.length:=by rw [NM.Dv.setLn_len];exact hQ
   have hset:=set_calls Q q n _ hD1 hQ1 hq8;have hln1:(D.setLn Q l1).ln Q=l1:=by rw [NM.Dv.setLn_ln D Q l1 hQ,if_pos rfl]
   have hD2:(D.setLn Q l1).setLn Q { l1 with now:=WM.putM l1.now (8*q) n }=D.setLn Q ((D.ln Q).store T n):=by
    rw [setLn_setLn,hl1,hwd,← hq];rfl
   rw [hln1,hD2,← hq] at hset;have f64:=hlb2.thaw (Q*66+64);have c64:=hlb2.cell (Q*66+64);rw [hL.chg Q hQ,spotV] at c64;generalize hw3:World.setCell w2 _ _=w3 at *;simp -implicitDefEqProofs [go_sem,ha,hn',h.dev.cell,hwq,hwr,hQ,hQ',g64,hr2,f64,c64,hw3];refine callE_of hset ?_;rintro v w4 ⟨rfl,hA4,hm4⟩;simp -implicitDefEqProofs [go_sem];refine callE_of (done_calls w4 hA4 (by simpa [NM.Dv.setLn] using hc)) ?_;rintro v w5 ⟨rfl,hA5,hmd,_⟩;simp -implicitDefEqProofs [go_sem];refine body_tmp 6 rfl ?_
   simp -implicitDefEqProofs [go_sem];refine DevStep.head hD1 (hm3.mono (fun k hk _=>?_)) hF1 (DevStep.head hA4 (hm4.mono (fun k hk _=>.inr (.inl hk))) (fun k hk=>.inl ?_) (step_done hA5 hmd))
   ·rcases hk with hk|hk
    ·exact .inr (.inl hk)
    ·exact .inr (.inr ⟨Q,hQ,hk⟩)
   ·rcases hk with hk|hk|⟨i,hi,hk⟩
    ·exact .inl hk
    ·exact .inr (.inl hk)
    ·refine .inr (.inr ⟨i,by rw [NM.Dv.setLn_len] at hi ⊢;exact hi,?_⟩);rw [NM.Dv.setLn_ln _ _ _ hQ] at hk ⊢;by_cases e:i=Q
     ·subst e;rw [if_pos rfl] at hk ⊢;simp only [setS,if_true] at hk ⊢;exact hk
     ·rw [if_neg e] at hk ⊢;exact hk
 ·have hld:D.load off=(0#64,D.ask off 8):=by unfold NM.Dv.load;rw [if_neg ha]
  have ha':(D.ask off 8 != 0)=true:=by rw [bne_iff_ne];exact ha
  simp -implicitDefEqProofs [go_sem,hld,ha,ha'];refine body_tmp 6 rfl ?_;simp -implicitDefEqProofs [go_sem,NM.Dv.store,ha];exact DevStep.refl h
end
section
open Go Go.RowKit
def lineZ:Array Value:=((List.replicate 64 (Value.int .u8 0))++[Value.slice none 0 0,Value.int .i64 0]).toArray
theorem lineI:∃ i z,Tryz.prog.info? 88=some i∧i.zero=some z∧i.size=66∧i.bytes=96∧z.cells=lineZ:=by
 have h:(Tryz.prog.info? 88).map (fun i=>(i.zero.map (fun z=>z.cells),i.size,i.bytes))=some (some lineZ,66,96):=by kernel_rfl
 obtain ⟨i,hi,h2⟩:=Option.map_eq_some_iff.1 h;simp only [Prod.mk.injEq] at h2;obtain ⟨z,hz,h3⟩:=Option.map_eq_some_iff.1 h2.1;exact ⟨i,z,hi,hz,h2.2.1,h2.2.2,h3⟩
theorem lineZ_size:lineZ.size=66:=by simp [lineZ]
theorem madeC_get (n i j:Nat)(hi:i<n)(hj:j<66):(madeCells lineZ (n*66))[i*66+j]?=lineZ[j]?:=by
 have h1:i*66+j<n*66:=by omega
 have h2:(i*66+j)%lineZ.size=j:=by rw [lineZ_size];omega
 have h3:j<lineZ.size:=by rw [lineZ_size];exact hj
 simp [madeCells,h1,h2,h3]
theorem lineZ_now (j:Nat)(hj:j<64):lineZ[j]?=some (.int .u8 0):=by
 unfold lineZ;rw [List.getElem?_toArray,List.getElem?_append_left (by rw [List.length_replicate];exact hj),List.getElem?_replicate,if_pos hj]
def S0:Nat→Spot:=fun _=>(none,0)
theorem dev0_ln (n i:Nat)(hi:i<n):(NM.dev0 n).ln i=NM.line0:=by simp [NM.Dv.ln,NM.dev0,hi]
theorem new_calls (n:Int)(w0:World)(hn:I64 n) :
  Ret Tryz.prog 17 #[.int .i64 n] w0 fun v w'=>Below w0.heap.size w0 w' ∧
   ((¬ (1≤n∧n≤1024)∧v=.pointer none)∨((1≤n∧n≤1024)∧∃ p lb,v=.pointer (some ⟨p,0,none⟩)∧DevAt w' p lb (NM.dev0 n.toNat) S0∧w0.heap.size≤p∧w0.heap.size≤lb)):=by
 have bel0:=Below.refl w0.heap.size w0;refine ret_of (args:=[_]) _ Tryz.func17 rfl Tryz.ntmps17 (by simp) ?_;by_cases h1:n<1
 ·simp -implicitDefEqProofs [go_sem,h1];refine body_tmp 2 rfl ?_;simp -implicitDefEqProofs [go_sem];exact ⟨bel0,fun h=>by omega⟩
 by_cases h2:1024<n
 ·simp -implicitDefEqProofs [go_sem,h1,h2];refine body_tmp 2 rfl ?_;simp -implicitDefEqProofs [go_sem];exact ⟨bel0,fun _=>by omega⟩
 obtain ⟨m,rfl⟩:=Int.eq_ofNat_of_zero_le (by omega:0≤n);obtain ⟨ti,tz,hti,htz,hts,htb,htc⟩:=lineI;have hmk:=fun w=>run_make (P:=Tryz.prog) w 82 88 ti tz Tryz.underlying82 hti htz .i64 .i64 (m:Int) (m:Int) (by omega) (Int.le_refl _) (by rw [htb];omega) (by omega)
 rw [hts,htc,Int.toNat_natCast] at hmk;simp -implicitDefEqProofs [go_sem,h1,h2,hmk];generalize hw1:World.alloc w0 _=w1 at *;obtain ⟨hB1,b1,sz1,bel1⟩:=newF hw1 bel0;generalize hw2:World.alloc w1 _=w2 at *;obtain ⟨hB2,b2,sz2,bel2⟩:=newF hw2 bel1;replace hB1:=hB1.next b2
 refine body_tmp 2 rfl ?_;have hln:=dev0_ln m;have hlen:(NM.dev0 m).ls.length=m:=by simp [NM.dev0]
 refine ⟨bel2,Or.inr ⟨by omega,w0.heap.size+1,w0.heap.size,(by simp -implicitDefEqProofs [go_sem]),?_,by omega,Nat.le_refl _⟩⟩;rw [← sz1];refine ⟨?_,⟨madeCells lineZ (m*66),hB1,by rw [hlen];simp [madeCells];omega,fun i hi j hj=>?_,fun i hi=>?_,fun i hi=>?_⟩,fun i hi=>?_,by omega,fun i hi=>?_,fun i j hi hj _ k hk=>?_,(NM.dev0_ok m (by omega)).to0,by rw [hlen];omega⟩
 ·refine hB2.eq' ?_;rw [hlen];rfl
 ·rw [hlen] at hi;rw [madeC_get m i j hi (by omega),lineZ_now j hj,hln i hi];have hz:NM.zeros.getD j 0#8=0#8:=by unfold NM.zeros;rw [List.getD_eq_getElem?_getD,List.getElem?_replicate,if_pos hj];rfl
  show _=some (Value.int .u8 (uv (NM.zeros.getD j 0#8)));rw [hz];rfl
 ·rw [hlen] at hi;rw [madeC_get m i 64 hi (by omega),hln i hi];rfl
 ·rw [hlen] at hi;rw [madeC_get m i 65 hi (by omega),hln i hi];rfl
 ·rw [hlen] at hi;rw [hln i hi];exact World.ownsRow_nil _ _ _ _
 ·rw [hlen] at hi;rw [hln i hi];simp [spotV,S0,Value.ownBlock]
 ·rw [hlen] at hi;rw [hln i hi] at hk;simp [spotV,S0,Value.ownBlock] at hk
end
section
open Go Go.RowKit
def imgK (D:NM.Dv)(k:Nat):List (BitVec 8):=((D.ls.take k).map NM.Ln.now).flatten
theorem imgK_zero (D:NM.Dv):imgK D 0=[]:=rfl
theorem imgK_succ (D:NM.Dv)(k:Nat)(hk:k<D.ls.length):imgK D (k+1)=imgK D k++(D.ln k).now:=by
 have:D.ln k=D.ls[k]:=by simp [NM.Dv.ln,List.getD,hk]
 unfold imgK;rw [List.take_succ_eq_append_getElem hk,List.map_append,List.flatten_append,this];simp
theorem imgK_all (D:NM.Dv):imgK D D.ls.length=D.image:=by unfold imgK NM.Dv.image;rw [List.take_length]
theorem imgK_len (D:NM.Dv)(h:D.Ok0):∀ k,k≤D.ls.length→(imgK D k).length=64*k
 | 0,_=>rfl
 | k+1,hk=>by rw [imgK_succ D k (by omega),List.length_append,imgK_len D h k (by omega),(NM.Dv.Ok0.ln h k).len];omega
theorem byteI:∃ i,Tryz.prog.info? 5=some i∧i.zero=some (.int .u8 0)∧i.size=1∧i.bytes=1:=by
 have h:(Tryz.prog.info? 5).map (fun i=>(i.zero,i.size,i.bytes))=some (some (Value.int .u8 0),1,1):=info_u8;obtain ⟨i,hi,h2⟩:=Option.map_eq_some_iff.1 h;simp only [Prod.mk.injEq] at h2;exact ⟨i,hi,h2.1,h2.2.1,h2.2.2⟩
set_option maxRecDepth 10000 in
set_option maxHeartbeats 1000000 in
theorem image_calls {p lb:Nat}{D:NM.Dv}{S:Nat→Spot}(w0:World)(h:DevAt w0 p lb D S) :
  Ret Tryz.prog 10 #[.pointer (some ⟨p,0,none⟩)] w0 fun v w'=>∃ a c,v=.slice a D.size c∧SlIn .u8 w' a D.image c∧Below w0.heap.size w0 w'∧(∀ y,a=some y→w0.heap.size≤y.block∧y.block<w'.heap.size):=by
 have hpos:=h.pos;have hmost:=h.ok.most;have hs0:((D.size:Int)==0)=false:=by rw [beq_eq_false_iff_ne];unfold NM.Dv.size;omega
 have hs0':¬ D.size=0:=by unfold NM.Dv.size;omega
 have hsz:D.size=64*D.ls.length:=rfl;obtain ⟨ti,hti,htz,hts,htb⟩:=byteI;have hmk:=fun w=>run_make (P:=Tryz.prog) w 36 5 ti (.int .u8 0) Tryz.underlying36 hti htz .i64 .i64 0 (D.size:Int) (Int.le_refl _) (by omega) (by rw [htb];omega) (by omega)
 rw [hts,Int.toNat_natCast,Nat.mul_one] at hmk;refine ret_of (args:=[_]) _ Tryz.func10 rfl Tryz.ntmps10 (by simp) ?_;simp -implicitDefEqProofs [go_sem];refine callE_of (size_calls w0 h) ?_;rintro v w1 ⟨rfl,rfl⟩;simp -implicitDefEqProofs [go_sem,hs0,hs0'];refine callE_of (size_calls w1 h) ?_;rintro v w2 ⟨rfl,rfl⟩;have b3:Below w2.heap.size w2 (w2.alloc (.cells (madeCells #[Value.int .u8 0] D.size) 5)):=(Below.refl _ _).alloc (Nat.le_refl _) _
 have hown0:=World.ownsRow_made (base:=w2.heap.size) (e:=5) (size:=1) w2 (madeCells #[Value.int .u8 0] D.size) D.size (Nat.le_refl _) (by unfold maxLen;omega) (by simp [madeCells]);have h3:=h.next b3
 simp -implicitDefEqProofs [go_sem,hmk,h3.dev.cell];generalize World.alloc w2 _=w3 at *;refine wpE_loop (fun e' w'=>∃ (k:Nat) (a:Option Addr) (c:Nat),k≤D.ls.length∧e' 0=.pointer (some ⟨p,0,none⟩)∧e' 3=.slice a (64*k) c∧e' 15=.int .i64 D.ls.length∧e' 16=.int .i64 k ∧
  w'.ownsRow w2.heap.size 5 1 (.slice a (64*k) c) (64*k) (cellsK .u8 (imgK D k))∧Below w2.heap.size w2 w') (fun e' _=>D.ls.length-(intOf (e' 16)).toNat) ?_ ?_
 ·refine ⟨0,some ⟨w2.heap.size,0,none⟩,D.size,by omega,?_⟩;simp -implicitDefEqProofs [go_sem,imgK_zero];exact ⟨by simpa [cellsK] using hown0,b3⟩
 ·rintro e' w' ⟨k,a,c,hk,g0,g3,g15,g16,hown,bel⟩;by_cases hlt:k<D.ls.length
  ·have hlt':(k:Int)<D.ls.length:=by omega
   have hw:=IntWalk.i64_in ((k:Int)+1) (by omega);have h':=h.next bel
   have hnow:=h'.now hlt;have hl64:=(NM.Dv.Ok0.ln h.ok k).len;obtain ⟨a2,c2,w4,hr4,hown4,hgr⟩:=run_append1 (P:=Tryz.prog) w2.heap.size (t:=36) (bytes:=1) (z:=.int .u8 0) 36 Tryz.underlying36 info_u8 rfl hown (a2:=some ⟨lb,k*66,none⟩) (c2:=64) (m:=64) (news:=cellsK .u8 (D.ln k).now) (by rw [cellsK_length,hl64]) hnow.at_.src (by simp) (fun u hu=>cellsK_one u hu) (by omega) (by omega) (by have:=bel.size;omega);have b4:=bel.grown hgr (by have:=bel.size;omega) (fun j hj=>(hown.lt j hj).1)
   simp -implicitDefEqProofs [go_sem,g0,g3,g15,g16,hlt,hlt',h'.dev.cell,hr4,hw];refine goE_round ⟨k+1,a2,c2,by omega,?_⟩ ?_
   ·simp -implicitDefEqProofs [go_sem,g0,g15];refine ⟨by omega,?_,b4⟩;rw [imgK_succ D k hlt,cellsK_append,show 64*(k+1)=64*k+64 by omega];exact hown4
   ·simp -implicitDefEqProofs [go_sem,intOf,g16,hw];omega
  ·have hk':k=D.ls.length:=by omega
   subst hk';rw [imgK_all] at hown;have hlen:D.image.length=64*D.ls.length:=by rw [← imgK_all];exact imgK_len D h.ok _ (Nat.le_refl _)
   simp -implicitDefEqProofs [go_sem,g0,g3,g15,g16];refine body_tmp 2 rfl ?_;simp -implicitDefEqProofs [go_sem];exact ⟨a,c,⟨rfl,by rw [hsz],rfl⟩,owns_slIn hlen hown,bel,fun y hy=>by subst hy;exact hown.lt y.block rfl⟩
end
end Go.Proofs.YtaaihijkdhmcdaaGreatDoor
