/- WholeImage, part 33 of 38: contracts and lemmas of its proof. Conditions: none. -/
import Derived.Test.YtaaihijkdhmcdaaGreatDoorW31
import Derived.OrdersIn
import Derived.Test.YtaaihijkdhmcdaaGreatDoorW05
import Derived.Test.YtaaihijkdhmcdaaGreatDoorW03
import Derived.Test.YtaaihijkdhmcdaaGreatDoorW30
set_option linter.unusedVariables false
set_option linter.unusedSimpArgs false
set_option maxRecDepth 100000
namespace Go.Proofs.YtaaihijkdhmcdaaGreatDoor
section
open Go
def noDef (o:Oper):Bool:=match o.op with | .defer _=>false|_=>true
theorem noDef_spec {o:Oper}(h:noDef o=true):∀ c,o.op≠.defer c:=fun c e=>by
 unfold noDef at h;rw [e] at h;cases h
def noDefC:Code→Bool
 | .region _ ops _=>ops.all noDef
 | .seq x y=>noDefC x&&noDefC y
 | .cond _ x y=>noDefC x&&noDefC y
 | .block _ x=>noDefC x
 | _=>true
def onlyQ (Q:Exit→Env→World→Prop):Exit→Env→World→Prop
 | .normal,e,w=>Q .normal e w
 | _,_,_=>False
section
variable {P:Program} {n l k:Nat}
theorem opIn_of {o:Oper}(hd:∀ c,o.op≠.defer c){a:Act}{w:World}{K K':Act→World→Prop}{Q:Exit→Env→World→Prop}{Q':Exit→Act→World→Prop}(hK:∀ a w,K a w→K' a w)(h:o.wp P a w K (noP (lift n (onlyQ Q)))):o.wpIn (Fence.wide.inRound l) k P a w K' Q':=by
 unfold Oper.wp at h;unfold Oper.wpIn;refine ⟨fun _ _=>trivial,?_⟩;rw [Fence.inRound_round,Oper.semAt_some _ _ _ hd];generalize (execOp a.eval o).run P w=r at h;have hno:¬ LetsOut (noP (lift n (onlyQ Q))):=by
  rintro ⟨a,w,e,_,h⟩;exact h
 cases r with
 | ok x w' =>
  cases x with
  | value v=>exact hK _ _ h
  | skip=>exact hK _ _ h
  | defer d=>exact hK _ _ h
  | enter f args =>
   refine ⟨fun h=>(by cases h),CallsIn.inRound l (callsIn_wide.2 (Calls.mono h ?_))⟩;intro e w2 h2;cases e with
   | returned v=>exact hK _ _ h2
   | panicked c=>exact (h2:False).elim
   | outgrown=>exact (hno h2).elim
  | row r args =>
   refine ⟨fun h=>(by cases h),fun c cs hr=>?_⟩;obtain ⟨v,w2,h2,s⟩:=h c cs;exact ⟨v,w2,hK _ _ h2,stepsIn_wide.2 s⟩
  | _=>exact h.elim
 | halt x w' =>
  cases x with
  | panic v=>exact (h:False).elim
  | _=>exact h.elim
theorem anyIn_of {ops:Array Oper}{md:Region.Mode}{Q:Exit→Env→World→Prop}{Q':Exit→Act→World→Prop}(hd:ops.all noDef=true)(hQ:∀ a w,lift n (onlyQ Q) .normal a w→Q' .normal a w):∀ (fuel:Nat) (listed:Array Bool) (a:Act) (w:World),
  wpAny P md ops (noP (lift n (onlyQ Q))) fuel listed a w→wpAnyIn (Fence.wide.inRound l) k P md ops Q' fuel listed a w
 | 0,listed,a,w,h=>⟨h.1,hQ _ _ h.2⟩
 | fuel+1,listed,a,w,h=>by
  refine ⟨fun hr=>hQ _ _ (h.1 hr),fun i hi=>?_⟩;have h1:=h.2 i hi;unfold wpOp at h1;unfold wpOpIn;cases ho:ops[i]? with
  | none=>rw [ho] at h1;exact anyIn_of hd hQ fuel _ _ _ h1
  | some o =>
   rw [ho] at h1;dsimp only at h1 ⊢;have hm:o∈ops:=Array.mem_of_getElem? ho;have hdo:noDef o=true:=(Array.all_eq_true_iff_forall_mem.1 hd) o hm;by_cases hw:Region.wanted o (yielded ops a.tmps)=true
   ·rw [if_pos hw] at h1 ⊢
    rcases h1 with h1|⟨_,h1⟩
    ·exact opIn_of (noDef_spec hdo) (fun a w h=>anyIn_of hd hQ fuel _ a w h) h1
    ·obtain ⟨a,w,e,_,h⟩:=h1;exact h.elim
   ·rw [if_neg hw] at h1 ⊢;exact ⟨fun _ _=>trivial,anyIn_of hd hQ fuel _ _ _ h1⟩
theorem opsIn_sound {ops:Array Oper}{Q:Exit→Env→World→Prop}:∀ (L:List Oper) (e:Env) (w:World) (a:Act),(∀ o∈L,noDef o=true)→Fits n e a →
  opsR P n ops (Q .normal) L e w→wpListIn (Fence.wide.inRound l) k P ops (lift n Q) L a w:=by
 intro L
 induction L with
 | nil=>intro e w a _ hf h;exact ⟨e,hf,h⟩
 | cons o rest ih =>
  intro e w a hdf hf h;obtain ⟨hd,h⟩:=h;have hn:=noDef_spec (hdf o List.mem_cons_self);have ih:=fun e w a=>ih e w a fun o ho=>hdf o (List.mem_cons_of_mem _ ho)
  unfold wpListIn;rw [wantE_eq hf];split
  ·rename_i hw;rw [if_pos hw] at h;unfold Oper.wpIn;refine ⟨fun _ _=>trivial,?_⟩;rw [Fence.inRound_round,Oper.semAt_some _ _ _ hn,hf.eval];generalize (execOp (ev e) o).run P w=r at h;cases r with
   | halt x w'=>exact h.elim
   | ok x w' =>
    cases x with
    | value v=>exact ih _ _ _ (hf.put _ v hd) h
    | skip=>exact ih _ _ _ (hf.put _ undef hd) h
    | enter f args =>
     refine ⟨fun h=>(by cases h),CallsIn.inRound l (callsIn_wide.2 (Calls.mono h ?_))⟩;rintro x w2 ⟨v,rfl,hv⟩;exact ih _ _ _ (hf.put _ v hd) hv
    | _=>exact h.elim
  ·rename_i hw;rw [if_neg hw] at h;exact ⟨fun _ _=>trivial,ih _ _ _ (hf.put _ undef hd) h⟩
end
def wpI (P:Program)(n l k:Nat):Code→(Exit→Env→World→Prop)→Env→World→Prop
 | .skip,Q,e,w=>Q .normal e w
 | .region _ ops false,Q,e,w=>opsR P n ops (Q .normal) ops.toList e w
 | .seq x y,Q,e,w=>wpI P n l k x (seqR (wpI P n l k y Q) Q) e w
 | .cond c x y,Q,e,w=>condE (wpI P n l k x Q e w) (wpI P n l k y Q e w) ⟨⟩ (ev e c)
 | .block id x,Q,e,w=>wpI P n l k x (blockR id Q) e w
 | .exit id,Q,e,w=>Q (.exit id) e w
 | c,Q,e,w=>∀ a,Fits n e a→c.wpIn (Fence.wide.inRound l) k P (lift n Q) a w
def wpJ (P:Program)(n l k:Nat)(c:Code)(Q:Exit→Env→World→Prop)(_:Tag (P,n,l,k,c,Q))(e:Env)(w:World):Prop:=wpI P n l k c Q e w
section
variable (P:Program) (n l k:Nat) (Q:Exit→Env→World→Prop) (e:Env) (w:World)
theorem wpJ_skip (t:Tag (P,n,l,k,Code.skip,Q)):wpJ P n l k .skip Q t e w=goE Q .normal ⟨⟩ e w:=by simp only [wpJ,wpI,goE]
theorem wpJ_region (id:Nat)(L:List Oper)(t:Tag (P,n,l,k,Code.region id L.toArray false,Q)):wpJ P n l k (.region id L.toArray false) Q t e w=opsE P n L.toArray (Q .normal) L ⟨⟩ e w:=by simp only [wpJ,wpI,opsE]
theorem wpJ_seq (x y:Code)(t:Tag (P,n,l,k,Code.seq x y,Q)):wpJ P n l k (.seq x y) Q t e w=wpJ P n l k x (seqR (wpI P n l k y Q) Q) ⟨⟩ e w:=by simp only [wpJ,wpI]
theorem wpJ_cond (c:Operand)(x y:Code)(t:Tag (P,n,l,k,Code.cond c x y,Q)):wpJ P n l k (.cond c x y) Q t e w=condE (wpJ P n l k x Q ⟨⟩ e w) (wpJ P n l k y Q ⟨⟩ e w) ⟨⟩ (ev e c):=by simp only [wpJ,wpI]
theorem wpJ_block (id:Nat)(x:Code)(t:Tag (P,n,l,k,Code.block id x,Q)):wpJ P n l k (.block id x) Q t e w=wpJ P n l k x (blockR id Q) ⟨⟩ e w:=by simp only [wpJ,wpI]
theorem wpJ_exit (id:Nat)(t:Tag (P,n,l,k,Code.exit id,Q)):wpJ P n l k (.exit id) Q t e w=goE Q (.exit id) ⟨⟩ e w:=by simp only [wpJ,wpI,goE]
theorem goE_seqJ (y:Code)(t:Tag (seqR (wpI P n l k y Q) Q,Exit.normal)):goE (seqR (wpI P n l k y Q) Q) .normal t e w=wpJ P n l k y Q ⟨⟩ e w:=nr rfl
end
theorem wpI_sound {P:Program}{n l k:Nat}:∀ (c:Code) (Q:Exit→Env→World→Prop) (e:Env) (w:World) (a:Act),noDefC c=true→Fits n e a→wpI P n l k c Q e w→c.wpIn (Fence.wide.inRound l) k P (lift n Q) a w:=by
 intro c
 induction c with
 | skip=>intro Q e w a _ hf h;simp only [wpI] at h;exact wpIn_skip ⟨e,hf,h⟩
 | region id ops draw =>
  intro Q e w a hd hf h;cases draw with
  | true=>simp only [wpI] at h;exact h a hf
  | false =>
   obtain ⟨L⟩:=ops;simp only [wpI] at h;simp only [noDefC,List.all_toArray,List.all_eq_true] at hd;exact wpIn_region_lit (opsIn_sound L e w a hd hf h)
 | seq x y ihx ihy =>
  intro Q e w a hd hf h;simp only [wpI] at h;simp only [noDefC,Bool.and_eq_true] at hd;refine wpIn_seq (wpIn_mono (ihx _ e w a hd.1 hf h) ?_);rintro z a' w' ⟨e',hf',hq⟩;cases z with
  | normal=>exact ihy Q e' w' a' hd.2 hf' hq
  | _=>exact ⟨e',hf',hq⟩
 | cond c x y ihx ihy =>
  intro Q e w a hd hf h;simp only [wpI] at h;simp only [noDefC,Bool.and_eq_true] at hd;cases hv:ev e c with
  | bool b =>
   rw [hv] at h;have hc:a.eval c=.bool b:=by rw [hf.eval];exact hv
   cases b with
   | true=>exact wpIn_cond hc (ihx Q e w a hd.1 hf h)
   | false=>exact wpIn_cond hc (ihy Q e w a hd.2 hf h)
  | _=>rw [hv] at h;exact h.elim
 | block id x ih =>
  intro Q e w a hd hf h;simp only [wpI] at h;refine wpIn_block (wpIn_mono (ih _ e w a hd hf h) ?_);rintro z a' w' ⟨e',hf',hq⟩;cases z with
  | exit i =>
   show if i=id then _ else _
   have hq':if i=id then Q .normal e' w' else Q (.exit i) e' w':=hq
   by_cases hi:i=id
   ·rw [if_pos hi] at hq' ⊢;exact ⟨e',hf',hq'⟩
   ·rw [if_neg hi] at hq' ⊢;exact ⟨e',hf',hq'⟩
  | _=>exact ⟨e',hf',hq⟩
 | exit id=>intro Q e w a _ hf h;simp only [wpI] at h;exact wpIn_exit ⟨e,hf,h⟩
 | _=>intro Q e w a _ hf h;simp only [wpI] at h;exact h a hf
theorem wpJ_sound {P:Program}{n l k:Nat}{c:Code}{e:Env}{w:World}{a:Act}{Q':Exit→Act→World→Prop}(Q:Exit→Env→World→Prop)(hd:noDefC c=true)(hf:Fits n e a)(hQ:∀ x e a w,Fits n e a→Q x e w→Q' x a w)(h:wpJ P n l k c Q ⟨⟩ e w):c.wpIn (Fence.wide.inRound l) k P Q' a w :=
 wpIn_mono (wpI_sound c Q e w a hd hf h) fun x a w ⟨e,hf,h⟩=>hQ x e a w hf h
theorem drawJ_mix {P:Program}{n l k id:Nat}{L:List Oper}{Q:Exit→Env→World→Prop}{t:Tag (P,n,l,k,Code.region id L.toArray true,Q)}{e:Env}{w:World}(st:List MStep){s2:List (MStep × Oper)}(hm:P.follows .mixedOrders=true)
  (hB:(Region.noSelect L.toArray&&(st.all fun s=>decide (s.num<L.length))&&decide (st.length=L.length)&&mixB .any L.toArray st [] (Array.replicate L.toArray.size false)&&L.toArray.all noDef)=true)
  (h2:withOps L st=s2) (h:mixE P n L.toArray (endN (Q .normal)) s2 [] ⟨⟩ e w.drew):wpJ P n l k (.region id L.toArray true) Q t e w:=by
 subst h2;simp only [wpJ,wpI];intro a hf;simp only [Bool.and_eq_true,decide_eq_true_eq] at hB;obtain ⟨⟨⟨⟨hsel,hv⟩,hlen⟩,hmB⟩,hnd⟩:=hB;have hmap:=withOps_map L st hv;have hl2:(withOps L st).length=L.toArray.size:=by rw [← List.length_map (f:=(·.1)),hmap,hlen];simp
 have H:=mixAny (P:=P) (n:=n) (md:=.any) (Q:=onlyQ Q) hsel (withOps L st) [] (Array.replicate L.toArray.size false) e a w.drew ClosedL.none (withOps_num L st) (by rw [hmap];exact hmB) hf h;rw [hl2] at H;exact wpIn_region_any hm (anyIn_of (Q':=lift n Q) hnd (fun a w ⟨e,hf,h⟩=>⟨e,hf,h⟩) _ _ _ _ (wpAny_of_D _ _ _ _ H))
theorem fits_args (L:List Value)(r:Nat):Fits (L.length+r) (argsE L 0 (fun _=>undef)) { tmps:=L.toArray++Array.replicate r undef,defers:=[] }:=by
 refine ⟨by simp,fun k=>?_,rfl⟩;rw [argsE_at];simp only [Nat.zero_le,true_and,Nat.zero_add,Nat.sub_zero];rw [Array.getD_eq_getD_getElem?,Array.getElem?_append];split
 ·rename_i h1;simp at h1;rw [if_pos h1];simp
 ·rename_i h1;simp at h1;rw [if_neg (by omega),Array.getElem?_replicate]
  split<;>rfl
attribute [go_sem] wpJ_skip wpJ_region wpJ_seq wpJ_cond wpJ_block wpJ_exit goE_seqJ
end
section
open Go Go.RowKit
def chunk (l:List (BitVec 8))(i:Nat):NM.Ln:=⟨(l.drop (64*i)).take 64,[],0⟩
def partD (l:List (BitVec 8))(n i:Nat):NM.Dv:=⟨(List.range n).map fun j=>if j<i then chunk l j else NM.line0,false,-1,0⟩
def ofD (l:List (BitVec 8)):NM.Dv:=partD l (l.length/64) (l.length/64)
def rightLen (n:Nat):Prop:=n%64=0∧1≤n/64∧n/64≤1024
theorem partD_len (l:List (BitVec 8))(n i:Nat):(partD l n i).ls.length=n:=by simp [partD]
theorem partD_ln (l:List (BitVec 8))(n i j:Nat)(hj:j<n):(partD l n i).ln j=if j<i then chunk l j else NM.line0:=by
 unfold NM.Dv.ln partD;simp [List.getD,hj]
theorem partD_zero (l:List (BitVec 8))(n:Nat):partD l n 0=NM.dev0 n:=by
 unfold partD NM.dev0;simp only [Nat.not_lt_zero,if_false,NM.Dv.mk.injEq,and_true];rw [List.map_const',List.length_range]
theorem partD_succ (l:List (BitVec 8))(n i:Nat)(hi:i<n):(partD l n i).setLn i (chunk l i)=partD l n (i+1):=by
 unfold NM.Dv.setLn partD;simp only [NM.Dv.mk.injEq,and_true];apply List.ext_getElem (by simp);intro j h1 h2;simp only [List.length_map,List.length_range] at h2;rw [List.getElem_set];simp only [List.getElem_map,List.getElem_range];by_cases e:i=j
 ·subst e;rw [if_pos rfl,if_pos (by omega)]
 ·rw [if_neg e];by_cases e2:j<i
  ·rw [if_pos e2,if_pos (by omega)]
  ·rw [if_neg e2,if_neg (by omega)]
theorem chunk_ok {l:List (BitVec 8)}{i:Nat}(h:64*i+64≤l.length):(chunk l i).Ok:=⟨by simp [chunk];omega,by simp [chunk],by simp [chunk]⟩
theorem ofD_ok {l:List (BitVec 8)}(h:rightLen l.length):(ofD l).Ok:=by
 obtain ⟨h1,h2,h3⟩:=h;have hm:∀ x∈(ofD l).ls,∃ i,i<l.length/64∧x=chunk l i:=by
  intro x hx;obtain ⟨i,hi,rfl⟩:=List.mem_map.1 hx;have:=List.mem_range.1 hi;exact ⟨i,this,by rw [if_pos this]⟩
 refine ⟨fun x hx=>?_,by simp [ofD,partD];omega,fun x hx=>?_,by simp [ofD,partD]⟩
 ·obtain ⟨i,hi,rfl⟩:=hm x hx;exact chunk_ok (by omega)
 ·obtain ⟨i,hi,rfl⟩:=hm x hx;simp [chunk]
set_option maxHeartbeats 4000000 in
theorem of_calls (a:Option Addr)(l:List (BitVec 8))(c:Nat)(w0:World)(hin:SlIn .u8 w0 a l c) :
  Ret Tryz.prog 9 #[.slice a l.length c] w0 fun v w'=>Below w0.heap.size w0 w' ∧
   ((¬ rightLen l.length∧v=.pointer none)∨(rightLen l.length∧∃ p F,v=.pointer (some ⟨p,0,none⟩)∧DevB w' p F (ofD l)∧∀ k,F k→w0.heap.size≤k)):=by
 have bel0:=Below.refl w0.heap.size w0;have harr:=Tryz.underlying85;have hle:=hin.le;have hmax:=hin.max;obtain ⟨n,hnn⟩:∃ n,n=l.length/64:=⟨_,rfl⟩;obtain ⟨r,hrr⟩:∃ r,r=l.length%64:=⟨_,rfl⟩;have hmd:(l.length:Int).tmod 64=(r:Int):=by rw [Int.tmod_eq_emod_of_nonneg (by omega)];omega
 have hmd':(l.length:Int)%64=(r:Int):=by omega
 have hdq:(l.length:Int)/64=(n:Int):=by omega
 have hdt:(l.length:Int).tdiv 64=(n:Int):=by rw [Int.tdiv_eq_ediv_of_nonneg (by omega)];omega
 have hdv:=IntWalk.i64_in (n:Int) (by omega);refine ret_of (args:=[_]) _ Tryz.func9 rfl Tryz.ntmps9 (by simp) ?_;by_cases h64:r=0
 ·subst h64;simp -implicitDefEqProofs [go_sem,hmd,hmd',hdv,hdq,hdt];refine callE_of (new_calls (n:Int) w0 (by unfold I64;omega)) ?_;rintro v w1 ⟨b1,⟨hn,rfl⟩|⟨hn,p,lb,rfl,hA,hp,hlb⟩⟩
  ·simp -implicitDefEqProofs [go_sem];refine body_tmp 2 rfl ?_;simp -implicitDefEqProofs [go_sem];exact ⟨b1,fun h=>hn ⟨by have:=h.2.1;omega,by have:=h.2.2;omega⟩⟩
  ·rw [Int.toNat_natCast] at hA;have hr:rightLen l.length:=⟨by omega,by omega,by omega⟩;have hlA:(NM.dev0 n).ls.length=n:=by simp [NM.dev0]
   have hdv1:=hA.dev;rw [hlA] at hdv1;simp -implicitDefEqProofs [go_sem,hdv1.cell];rw [← partD_zero l n] at hA;refine wpE_loop (fun e' w'=>∃ i,i≤n∧e' 0=.slice a l.length c∧e' 3=.pointer (some ⟨p,0,none⟩)∧e' 19=.int .i64 n∧e' 20=.int .i64 i∧DevAt w' p lb (partD l n i) S0∧Below w0.heap.size w0 w') (fun e' _=>n-(intOf (e' 20)).toNat) ?_ ?_
   ·refine ⟨0,by omega,?_⟩;simp -implicitDefEqProofs [go_sem];exact ⟨hA,b1⟩
   ·rintro e' w2 ⟨i,hi,g0,g3,g19,g20,h2,b2⟩;by_cases hlt:i<n
    ·have hlt':(i:Int)<n:=by omega
     have hwi:=IntWalk.i64_in ((i:Int)+1) (by omega);simp -implicitDefEqProofs [go_sem,g0,g3,g19,g20,hlt,hlt'];refine drawE_mix [.pure 0,.pure 1,.pure 2,.pure 4,.pure 5,.pure 6,.pure 7,.take 3,.run 8 [3],.run 9 [3],.run 10 [3],.pure 11,.pure 12,.run 13 []] mixed (by decide +kernel) (by simp only [wo];rfl) ?_;have hd:Below w2.heap.size w2 w2.drew:=(Below.refl _ _).drew;replace h2:=h2.next hd
     replace b2:=b2.drew;generalize World.drew w2=w3 at *;have hin3:=hin.below b2;have hlen:=partD_len l n i;have hdev:=h2.dev;rw [hlen] at hdev;have hck:(chunk l i).Ok:=chunk_ok (by omega);obtain h0|⟨b,o,rfl,hc⟩:=hin3.at_
     ·rw [h0] at hr;exact absurd hr.2.1 (by simp)
     obtain ⟨C,hL⟩:=h2.lines;have hsz:i*66+66≤C.size:=by rw [hL.size,hlen];omega
     have hb64:(byteCs (chunk l i).now).size=64:=by rw [byteCs_size,hck.len]
     have hld:=ldCells (P:=Tryz.prog) (w:=w3) (g:=b) (o:=o+i*64) (cs:=byteCs (chunk l i).now) harr rfl arrI hb64 (fun j hj=>by
      have hj':j<64:=by rw [hb64] at hj;exact hj
      have h3:=hc (i*64+j) (by omega);rw [Nat.add_assoc,h3];simp [byteCs,cellsK,chunk,Nat.mul_comm])
     have hst:=stE (P:=Tryz.prog) (ty:=85) (o:=i*66) (cs:=byteCs (chunk l i).now) hL.blk (by rw [hb64];exact arrI) (by omega) (byteCs_one _);have hm2:Mod (fun k=>k=lb) w3 (w3.setRow lb (segPut C (i*66) (byteCs (chunk l i).now))):=(Mod.refl (fun k=>k=lb) w3).row (g:=lb) (.inl rfl) _;have hown:=h2.ownMod (i:=i) (by omega) hm2 (fun k hk e=>(h2.notp i (by omega)).2 (e▸hk));have hg:=segPut_get C (i*66) (byteCs (chunk l i).now) (by omega);rw [hb64] at hg;have hlnI:=partD_ln l n i i hlt
     rw [if_neg (by omega)] at hlnI;have hD:=h2.setLine (i:=i) (l':=chunk l i) (s':=S0 i) hL (by omega) hck (hL.blk.row _) (segPut_size _ _ _ (by omega)) (fun k hk=>by rw [hg,if_neg (by omega)])
      (fun j hj=>by rw [hg,if_pos (by omega),show i*66+j-i*66=j by omega,byteCs_get _ _ (by rw [hck.len];omega)])
      (by rw [hg,if_neg (by omega)];have:=hL.chg i (by omega);rw [hlnI] at this;exact this) (by rw [hg,if_neg (by omega)];have:=hL.mark i (by omega);rw [hlnI] at this;exact this) hm2 (fun k hk=>.inl hk)
      (by rw [hlnI] at hown;exact hown) (fun k hk=>.inl (by rw [hlnI];exact hk))
     rw [setS_same,partD_succ l n i hlt] at hD;simp -implicitDefEqProofs [go_sem,g0,g3,g19,g20,hlt,hlt'];refine onTake_of (fun w'=>Below w3.heap.size w3 w') (.slice (some ⟨lb,0,none⟩) n n) (Below.refl _ _) (fun w' hw=>by simp -implicitDefEqProofs [go_sem,(hdev.next hw).cell,g3]) ?_;have hw64:=IntWalk.i64_in ((i:Int)*64) (by omega);have hif:(0≤(i:Int)*64∧(i:Int)*64≤(l.length:Int))=True:=eq_true (by omega);have e64:((i:Int)*64).toNat=i*64:=by omega
     have hcne:(c=i*64)=False:=eq_false (by omega);have h64l:64≤l.length-i*64:=by omega
     have hwi:=IntWalk.i64_in ((i:Int)+1) (by omega);have har:=fun w a=>run_arrayAt (P:=Tryz.prog) (w:=w) 85 5 64 a (l.length-i*64) (c-i*64) harr h64l
     simp -implicitDefEqProofs [go_sem,g0,g3,g19,g20,hlt,hlt',hw64,hif,e64,hcne,har,hwi,↓hld,↓hst];refine goE_round ⟨i+1,by omega,?_,?_,?_,?_,hD,?_⟩ ?_
     ·simp -implicitDefEqProofs [go_sem,g0]
     ·simp -implicitDefEqProofs [go_sem,g3]
     ·simp -implicitDefEqProofs [go_sem,g19]
     ·simp -implicitDefEqProofs [go_sem]
     ·exact hm2.below b2.size (fun k hk=>hk▸hlb) |> b2.trans
     ·simp -implicitDefEqProofs [go_sem,intOf,g20];omega
    ·have hi':i=n:=by omega
     have hlt':¬ (i:Int)<n:=by omega
     rw [hi'] at h2;simp -implicitDefEqProofs [go_sem,g0,g3,g19,g20,hlt'];refine body_tmp 2 rfl ?_;simp -implicitDefEqProofs [go_sem];have hofD:ofD l=partD l n n:=by unfold ofD;rw [hnn]
     refine ⟨b2,hr,DevF p lb (ofD l) S0,⟨lb,S0,by rw [hofD];exact h2,rfl,ofD_ok hr⟩,?_⟩;rintro k (rfl|rfl|⟨j,hj,hk⟩)
     ·exact hp
     ·exact hlb
     ·rw [hofD,partD_len] at hj;rw [hofD,partD_ln l n n j hj,if_pos hj] at hk;cases hk
 ·have h64':((r:Int) != 0)=true:=by rw [bne_iff_ne];omega
  have h64'':((r:Int)=0)=False:=eq_false (by omega);simp -implicitDefEqProofs [go_sem,hmd,hmd',h64',h64''];refine body_tmp 2 rfl ?_;simp -implicitDefEqProofs [go_sem];exact ⟨bel0,fun h=>h64 (by have:=h.1;omega)⟩
end
section
open Go Go.RowKit
open TR
theorem flat_chunk:∀ (L:List (List (BitVec 8))) (_:∀ x∈L,x.length=64) (i:Nat) (h:i<L.length),(L.flatten.drop (64*i)).take 64=L[i]
 | x::L,h,0,_=>by
  have h1:=h x List.mem_cons_self;rw [List.flatten_cons,Nat.mul_zero,List.drop_zero,← h1,List.take_left];rfl
 | x::L,h,i+1,hi=>by
  have h1:=h x List.mem_cons_self;rw [List.flatten_cons,List.drop_append,h1,List.drop_eq_nil_of_le (by omega),List.nil_append,show 64*(i+1)-64=64*i by omega];exact flat_chunk L (fun y hy=>h y (List.mem_cons_of_mem _ hy)) i (by simpa using hi)
theorem flat_size:∀ (L:List (List (BitVec 8))) (_:∀ x∈L,x.length=64),L.flatten.length=64*L.length
 | [],_=>rfl
 | x::L,h=>by
  rw [List.flatten_cons,List.length_append,h x List.mem_cons_self,flat_size L fun y hy=>h y (List.mem_cons_of_mem _ hy),List.length_cons];omega
theorem image_size {D:NM.Dv}(h:D.Ok):D.image.length=64*D.ls.length:=by
 unfold NM.Dv.image;rw [flat_size _ fun x hx=>by obtain ⟨l,hl,rfl⟩:=List.mem_map.1 hx;exact (h.line l hl).len,List.length_map]
theorem image_right {D:NM.Dv}(h:D.Ok)(h1:1≤D.ls.length):rightLen D.image.length:=by
 have:=image_size h;have:=h.most;exact ⟨by omega,by omega,by omega⟩
theorem image_ln {D:NM.Dv}(h:D.Ok){i:Nat}(hi:i<D.ls.length):((ofD D.image).ln i).now=(D.ln i).now:=by
 have h1:=image_size h;unfold ofD;rw [partD_ln _ _ _ _ (by omega),if_pos (by omega)];unfold chunk NM.Dv.image NM.Dv.ln;dsimp only;rw [flat_chunk _ (fun x hx=>by obtain ⟨l,hl,rfl⟩:=List.mem_map.1 hx;exact (h.line l hl).len) i (by simpa using hi)];simp [List.getD,hi]
theorem image_word {D:NM.Dv}(h:D.Ok)(x:Nat):(ofD D.image).word x=D.word x:=by
 unfold NM.Dv.word;by_cases hx:x/64<D.ls.length
 ·rw [image_ln h hx]
 ·have h1:=image_size h;have e1:(ofD D.image).ln (x/64)=NM.line0:=by
   unfold NM.Dv.ln;rw [List.getD,List.getElem?_eq_none (by unfold ofD;rw [partD_len];omega)];rfl
  have e2:D.ln (x/64)=NM.line0:=by
   unfold NM.Dv.ln;rw [List.getD,List.getElem?_eq_none (by omega)];rfl
  rw [e1,e2]
theorem Sto.image {m t:Nat}{V:PV}{o:Option Tr}{ch:ChF}(h:Sto m V o ch [] t)(hm:m=6∨m=24):Sto m { V with D:=ofD V.D.image } o ch [] t:=by
 have zf:=sz hm;have hr:=h.own.rest;have hok:=hr.well.ok;have hl:=hr.well.lines;have h1:=image_size hok;have hR:Rest m { V with D:=ofD V.D.image }:=hr.dev hm ⟨rfl,rfl⟩ (ofD_ok (image_right hok (by omega))) (by unfold ofD;rw [partD_len];omega) fun x _ _ _=>image_word hok x
 have hG:Grew m V { V with D:=ofD V.D.image } []:=⟨hR,fun _ _=>rfl,(fun _ h=>by cases h),List.nodup_nil,fun x _ _=>image_word hok x,fun y i _=>image_word hok _,Nat.zero_le _⟩;exact ⟨h.own.grew hm hG,fun e he=>⟨(h.chain e he).1.side (hG.side (X:=chL ch (itemsO o)) fun y hy=>h.pos hy) fun y hy=>chL_mem he hy,(h.chain e he).2⟩⟩
end
section
open Go Go.RowKit
theorem WrV.cs_eq (x:WrV):x.cs=#[.string x.key,.string x.text,.bool x.gone]:=rfl
theorem wrIR:(Tryz.prog.info? 48).map (·.size)=some 3:=by kernel_rfl
theorem eI_wrR:EInfo Tryz.prog 48 3 40:=by unfold EInfo;kernel_rfl
section
variable {w w':World} {a:Option Addr} {l:List WrV} {cap:Nat}
set_option maxHeartbeats 4000000
theorem refWRight_calls (x:WrV)(w:World):Ret Tryz.prog 41 #[.agg x.cs] w fun v w'=>∃ r,v=.bool r∧(r=true↔x.right)∧Below w.heap.size w w':=by
 have bel0:=Below.refl w.heap.size w;have hb:=bel0.alloc (Nat.le_refl _) (.cells x.cs 48);refine ret_of (args:=[_]) _ Tryz.func41 rfl Tryz.ntmps41 (by simp) ?_;have hB:=Blk.new w x.cs 48;have h0:x.cs[0]?=some (.string x.key):=rfl;have h1:x.cs[1]?=some (.string x.text):=rfl;have h2:x.cs[2]?=some (.bool x.gone):=rfl;by_cases hk:(x.key.size:Int)≤16
 ·by_cases ht:(x.text.size:Int)≤40
  ·cases hg:x.gone
   ·rw [hg] at h2;simp -implicitDefEqProofs [go_sem,hB.cell,h0,h1,h2,hk,ht];refine body_tmp 2 rfl ?_;simp -implicitDefEqProofs [go_sem];exact ⟨⟨by omega,by omega,fun h=>by rw [hg] at h;cases h⟩,hb⟩
   ·rw [hg] at h2;simp -implicitDefEqProofs [go_sem,hB.cell,h0,h1,h2,hk,ht];refine body_tmp 2 rfl ?_;simp -implicitDefEqProofs [go_sem];exact ⟨⟨fun h=>⟨by omega,by omega,fun _=>by rw [h];rfl⟩,fun h=>ByteArray.size_eq_zero_iff.1 (h.2.2 hg)⟩,hb⟩
  ·simp -implicitDefEqProofs [go_sem,hB.cell,h0,h1,h2,hk,ht];refine body_tmp 2 rfl ?_;simp -implicitDefEqProofs [go_sem];refine ⟨fun h=>?_,hb⟩;have:=h.2.1;omega
 ·simp -implicitDefEqProofs [go_sem,hB.cell,h0,h1,h2,hk];refine body_tmp 2 rfl ?_;simp -implicitDefEqProofs [go_sem];refine ⟨fun h=>?_,hb⟩;have:=h.1;omega
theorem refWGet_calls (key:ByteArray)(w0:World)(hin:RIn w0 3 a (l.map WrV.cs) cap)(hl:l.length≤1000) :
  Ret Tryz.prog 40 #[.slice a l.length cap,.string key] w0 fun v w'=>∃ (y:WrV) (is:Bool),v=.tuple #[.agg y.cs,.bool is]∧Below w0.heap.size w0 w':=by
 have bel0:=Below.refl w0.heap.size w0;refine ret_of (args:=[_,_]) _ Tryz.func40 rfl Tryz.ntmps40 (by simp) ?_;simp -implicitDefEqProofs [go_sem];generalize hw1:World.alloc w0 _=w1 at *;obtain ⟨hB1,b1,sz1,bel1⟩:=newF hw1 bel0;replace hin:=hin.next b1
 refine wpE_loop (fun e' w'=>∃ k:Nat,k≤l.length∧e' 0=.slice a l.length cap∧e' 1=.string key∧e' 4=.pointer (some ⟨w0.heap.size,0,none⟩)∧e' 6=.int .i64 (k:Int)∧w'=w1) (fun e' _=>l.length-(intOf (e' 6)).toNat) ?_ ?_
 ·refine ⟨0,Nat.zero_le _,?_⟩;simp -implicitDefEqProofs [go_sem]
 ·rintro e' w2 ⟨k,hk,g0,g1,g4,g6,rfl⟩;by_cases hlt:k<l.length
  ·have hlt':(k:Int)<(l.length:Int):=by omega
   have i1:=IntWalk.i64_in ((k:Int)+1) (by omega);obtain ⟨ib,io,rfl,hc⟩:=hin.get (i:=k) (by simpa using hlt);obtain ⟨ib',io',hib,hld⟩:=hin.ld (i:=k) (by simpa using hlt) Tryz.underlying48 rfl wrIR;obtain ⟨rfl,rfl⟩:ib=ib'∧io=io':=by simpa using hib
   have hcs:(l.map WrV.cs)[k]'(by simpa using hlt)=l[k].cs:=by simp
   have c0:=hc 0 (by simp [WrV.cs]);simp [WrV.cs] at c0;rw [hcs] at hld;by_cases he:l[k].key=key
   ·have stX:=stAll (P:=Tryz.prog) (ty:=48) (cs:=l[k].cs) hB1 wrIR rfl l[k].cs_one;simp -implicitDefEqProofs [go_sem,g0,g1,g4,g6,hlt,hlt',c0,he,↓hld,↓stX];refine bodyCell 4 5 rfl (by simp -implicitDefEqProofs [go_sem,g4]) (hB1.row l[k].cs) Tryz.underlying48 rfl wrIR ?_;simp -implicitDefEqProofs [go_sem];exact ⟨⟨l[k],rfl⟩,Below.row bel1 (Nat.le_refl _) _⟩
   ·have he':=he;simp -implicitDefEqProofs [go_sem,g0,g1,g4,g6,hlt,hlt',c0,he'];refine goE_round ⟨k+1,by omega,?_⟩ ?_
    ·simp -implicitDefEqProofs [go_sem,g0,g1,g4,g6,i1]
    ·simp -implicitDefEqProofs [go_sem,g6,intOf,i1];omega
  ·obtain rfl:k=l.length:=by omega
   have stX:=stAll (P:=Tryz.prog) (ty:=48) (cs:=#[.string ⟨#[]⟩,.string ⟨#[]⟩,.bool false]) hB1 wrIR rfl (WrV.cs_one ⟨⟨#[]⟩,⟨#[]⟩,false⟩);simp -implicitDefEqProofs [go_sem,g0,g1,g4,g6,↓stX];refine bodyCell 4 5 rfl (by simp -implicitDefEqProofs [go_sem,g4]) (hB1.row (WrV.cs ⟨⟨#[]⟩,⟨#[]⟩,false⟩)) Tryz.underlying48 rfl wrIR ?_;simp -implicitDefEqProofs [go_sem];exact ⟨⟨⟨⟨#[]⟩,⟨#[]⟩,false⟩,rfl⟩,Below.row bel1 (Nat.le_refl _) _⟩
def RPutP (l:List WrV)(a:Option Addr)(x:WrV)(w0:World)(v:Value)(w':World):Prop :=
 ∃ (l':List WrV) (a':Option Addr) (c':Nat) (e:Int),v=.tuple #[.slice a' l'.length c',.int .i64 e]∧RIn w' 3 a' (l'.map WrV.cs) c'∧(x.right→l'≠[])∧(x.right→l=[]→l'.length=1)∧(¬ x.right→l'=l)∧l'.length≤l.length+1∧(∀ y,a'=some y→a'=a∨(w0.heap.size≤y.block∧y.block<w'.heap.size))∧Below w0.heap.size w0 w'
def OutR (w:World)(B:Nat)(ao:Option Addr)(n co:Nat)(out:List WrV):Prop:=w.ownsRow B 48 3 (.slice ao n co) n (flatR (out.map WrV.cs))∧out.length=n
def RI (dn:Bool)(out:List WrV)(k:Nat):Prop:=out.length≤k+1∧(dn=false→out.length≤k)∧(dn=true→out≠[])
theorem RI.step {dn:Bool}{out:List WrV}{k:Nat}(h:RI dn out k):RI dn out (k+1):=⟨by have:=h.1;omega,fun e=>by have:=h.2.1 e;omega,h.2.2⟩
theorem RI.push {dn:Bool}{out:List WrV}{k:Nat}(h:RI dn out k)(y:WrV):RI dn (out++[y]) (k+1):=⟨by have:=h.1;simp;omega,fun e=>by have:=h.2.1 e;simp;omega,fun _=>by simp⟩
theorem RI.here {out:List WrV}{k:Nat}(h:RI false out k)(y:WrV):RI true (out++[y]) (k+1):=⟨by have:=h.2.1 rfl;simp;omega,fun e=>(by cases e),fun _=>by simp⟩
theorem RI.both {out:List WrV}{k:Nat}(h:RI false out k)(y z:WrV):RI true ((out++[y])++[z]) (k+1):=⟨by have:=h.2.1 rfl;simp;omega,fun e=>(by cases e),fun _=>by simp⟩
theorem OutR.next {w w':World}{B n co:Nat}{ao:Option Addr}{out:List WrV}(h:OutR w B ao n co out)(hb:Below w.heap.size w w'):OutR w' B ao n co out:=⟨ownsRow_next h.1 hb,h.2⟩
theorem OutR.push {w w4:World}{n co:Nat}{ao:Option Addr}{out:List WrV}{x:WrV}(h:OutR w w4.heap.size ao n co out)(hs:w4.heap.size≤w.heap.size)(hb:Below w4.heap.size w4 w)(hn:n≤1100) :
  ∃ g c2 w2,(appendB #[29,29] 29 #[.slice ao n co,.slice (some ⟨w.heap.size,0,none⟩) 1 1]).run Tryz.prog (w.alloc (.cells #[.string x.key,.string x.text,.bool x.gone] 48))=.ok (.slice (some ⟨g,0,none⟩) (n+1) c2) w2 ∧
   OutR w2 w4.heap.size (some ⟨g,0,none⟩) (n+1) c2 (out++[x])∧Below w4.heap.size w4 w2:=by
 obtain ⟨g,c2,w2,hr,ho,h1,h2,h3,t⟩:=push_own (P:=Tryz.prog) (t:=29) (ty:=29) (cs:=#[.string x.key,.string x.text,.bool x.gone]) Tryz.underlying29 eI_wrR (by decide) rfl x.cs_one (by decide) (by omega) hs h.1;refine ⟨g,c2,w2,hr,⟨?_,by rw [List.length_append,h.2];rfl⟩,hb.trans (t.mod.below hs fun q hq=>(ownsRow_blk h.1 q hq).1)⟩
 have hfl:flatR (out.map WrV.cs)++(#[.string x.key,.string x.text,.bool x.gone]:Array Value).toList=flatR ((out++[x]).map WrV.cs):=by rw [List.map_append,flatR_append,List.map_cons,List.map_nil,flatR_one];rfl
 rw [← hfl];exact ho
theorem refWPut_calls (x:WrV)(w0:World)(hin:RIn w0 3 a (l.map WrV.cs) cap)(hl:l.length≤1000) :
  Ret Tryz.prog 22 #[.slice a l.length cap,.agg x.cs] w0 fun v w'=>RPutP l a x w0 v w':=by
 have bel0:=Below.refl w0.heap.size w0;have hk0:x.cs[0]?=some (.string x.key):=rfl;refine ret_of (args:=[_,_]) _ Tryz.func22 rfl Tryz.ntmps22 (by simp) ?_;simp -implicitDefEqProofs [go_sem];generalize hw1:World.alloc w0 _=w1 at *;obtain ⟨hB1,b1,sz1,bel1⟩:=newF hw1 bel0;replace hin:=hin.next b1
 simp -implicitDefEqProofs [go_sem,hB1.cell,hk0];refine callE_of (refWGet_calls x.key w1 hin hl) ?_;rintro v w2 ⟨y,is,rfl,b2⟩;have bel2:=btr bel1 b2;replace hin:=hin.next b2
 replace hB1:=hB1.next b2
 have stY:=stNew (P:=Tryz.prog) (t:=48) (cs:=y.cs) (C0:=#[.string ⟨#[]⟩,.string ⟨#[]⟩,.bool false]) wrIR rfl y.cs_one;have ldX:=ldAll (P:=Tryz.prog) (hB1.next ((Below.refl w2.heap.size w2).alloc (Nat.le_refl _) (.cells y.cs 48))) Tryz.underlying48 rfl wrIR (n:=3) x.cs_size;simp -implicitDefEqProofs [go_sem,↓stY,↓ldX];generalize hw3:World.alloc w2 _=w3 at *;obtain ⟨hB3,b3,sz3,bel3⟩:=newF hw3 bel2;replace hin:=hin.next b3
 replace hB1:=hB1.next b3
 refine callE_of (refWRight_calls x w3) ?_;rintro v w4 ⟨r,rfl,hr,b4⟩;have bel4:=btr bel3 b4;replace hin:=hin.next b4
 replace hB1:=hB1.next b4
 cases r with
 | false =>
  simp -implicitDefEqProofs [go_sem];refine body_tmp2 4 5 rfl ?_;simp -implicitDefEqProofs [go_sem];have hx:¬ x.right:=fun h=>by have:=hr.2 h;cases this
  exact ⟨l,a,cap,2,rfl,hin,fun h=>absurd h hx,fun h=>absurd h hx,fun _=>rfl,by omega,fun y _=>.inl rfl,bel4⟩
 | true =>
  have hx:x.right:=hr.1 rfl;by_cases hfull:is=false∧16≤l.length
  ·obtain ⟨rfl,hf⟩:=hfull;have hf':(16:Int)≤(l.length:Int):=by omega
   simp -implicitDefEqProofs [go_sem,hf,hf'];refine body_tmp2 4 5 rfl ?_;simp -implicitDefEqProofs [go_sem];exact ⟨l,a,cap,3,rfl,hin,fun _ e=>by rw [e] at hf;simp at hf,fun _ e=>by rw [e] at hf;simp at hf,fun h=>absurd hx h,by omega,fun y _=>.inl rfl,bel4⟩
  ·have hor:is=true∨(is=false∧¬ 16≤l.length):=by
    cases is
    ·exact .inr ⟨rfl,fun h=>hfull ⟨rfl,h⟩⟩
    ·exact .inl rfl
   clear hfull
   rcases hor with rfl|⟨rfl,hf⟩
   case' inl=>simp -implicitDefEqProofs [go_sem]
   case' inr =>
    have hf':¬ (16:Int)≤(l.length:Int):=by omega
    simp -implicitDefEqProofs [go_sem,hf,hf']
   all_goals
    refine wpE_loop (fun e' w'=>∃ (k:Nat) (out:List WrV) (ao:Option Addr) (n co:Nat) (dn:Bool),k≤l.length∧e' 0=.slice a l.length cap∧e' 3=.pointer (some ⟨w0.heap.size,0,none⟩)∧e' 8=.slice ao n co∧e' 9=.bool dn∧e' 10=.int .i64 (k:Int) ∧
     OutR w' w4.heap.size ao n co out∧Below w4.heap.size w4 w'∧RI dn out k) (fun e' _=>l.length-(intOf (e' 10)).toNat) ?_ ?_
    ·refine ⟨0,[],none,0,0,false,Nat.zero_le _,?_⟩;simp -implicitDefEqProofs [go_sem];exact ⟨⟨World.ownsRow_nil _ _ _ _,rfl⟩,Below.refl _ _,Nat.zero_le _,fun _=>Nat.le_refl _,fun h=>by cases h⟩
    ·rintro e' w5 ⟨k,out,ao,n,co,dn,hk,g0,g3,g8,g9,g10,hown,b5,hri⟩;have hin5:=hin.next b5
     have hB5:=hB1.next b5
     have hnl:n≤1001:=by have:=hown.2;have:=hri.1;omega
     have hs5:=b5.size;by_cases hlt:k<l.length
     ·have hlt':(k:Int)<(l.length:Int):=by omega
      have i1:=IntWalk.i64_in ((k:Int)+1) (by omega);obtain ⟨ib,io,rfl,hc⟩:=hin5.get (i:=k) (by simpa using hlt);have hcs:(l.map WrV.cs)[k]'(by simpa using hlt)=l[k].cs:=by simp
      have c0:=hc 0 (by simp [WrV.cs]);simp [WrV.cs] at c0;have bd5:=(Below.refl w5.heap.size w5).drew;have st1:dn=true∨(dn=false∧Op.bytesLess l[k].key.toList x.key.toList=true)∨(dn=false∧Op.bytesLess l[k].key.toList x.key.toList=false):=by
       cases dn
       ·cases Op.bytesLess l[k].key.toList x.key.toList
        ·exact .inr (.inr ⟨rfl,rfl⟩)
        ·exact .inr (.inl ⟨rfl,rfl⟩)
       ·exact .inl rfl
      rcases st1 with rfl|⟨rfl,hls⟩|⟨rfl,hls⟩
      case' inl =>
       simp -implicitDefEqProofs [go_sem,g0,g3,g8,g9,g10,hlt,hlt'];refine drawE_still mixed (by decide +kernel) ?_;simp -implicitDefEqProofs [go_sem,g0,g3,g8,g9,g10,hlt,hlt',c0,hB5.cell,hk0];unfold endE;simp -implicitDefEqProofs [go_sem,g0,g3,g8,g9,g10,hlt,hlt'];have hown1:=hown.next bd5
       have b6:=b5.drew;generalize World.drew w5=w6 at *;obtain ⟨n1,hn1⟩:∃ z,z=n:=⟨_,rfl⟩;obtain ⟨ao1,hao1⟩:∃ o,o=ao:=⟨_,rfl⟩;obtain ⟨co1,hco1⟩:∃ o,o=co:=⟨_,rfl⟩;obtain ⟨dv,hdv⟩:∃ dv:Bool,dv=true:=⟨_,rfl⟩;have hri1:RI dv out (k+1):=by rw [hdv];exact hri.step
       have hri2:∀ y:WrV,RI dv (out++[y]) (k+1):=fun y=>by rw [hdv];exact hri.push y
       have hn7:n≤1100:=by omega
      case' inr.inr =>
       simp -implicitDefEqProofs [go_sem,g0,g3,g8,g9,g10,hlt,hlt'];refine drawE_still mixed (by decide +kernel) ?_;simp -implicitDefEqProofs [go_sem,g0,g3,g8,g9,g10,hlt,hlt',c0,hB5.cell,hk0,hls];unfold endE;have hownd:=hown.next bd5
       have hBd:=hB5.next bd5
       have b5d:=b5.drew;generalize World.drew w5=wd at *;have ldx:=ldAll (P:=Tryz.prog) hBd Tryz.underlying48 rfl wrIR (n:=3) x.cs_size;rw [x.cs_eq] at ldx;obtain ⟨g6,c6,w6,hr6,hown1,b6⟩:=hownd.push (x:=x) b5d.size b5d (by omega);simp -implicitDefEqProofs [go_sem,g0,g3,g8,g9,g10,hlt,hlt',↓ldx,hr6];obtain ⟨n1,hn1⟩:∃ z,z=n+1:=⟨_,rfl⟩;obtain ⟨ao1,hao1⟩:∃ o:Option Addr,o=some ⟨g6,0,none⟩:=⟨_,rfl⟩;obtain ⟨co1,hco1⟩:∃ o,o=c6:=⟨_,rfl⟩;obtain ⟨dv,hdv⟩:∃ dv:Bool,dv=true:=⟨_,rfl⟩
       have hri1:RI dv (out++[x]) (k+1):=by rw [hdv];exact hri.here x
       have hri2:∀ y:WrV,RI dv ((out++[x])++[y]) (k+1):=fun y=>by rw [hdv];exact hri.both x y
       have hn7:n+1≤1100:=by omega
      case' inr.inl =>
       simp -implicitDefEqProofs [go_sem,g0,g3,g8,g9,g10,hlt,hlt'];refine drawE_still mixed (by decide +kernel) ?_;simp -implicitDefEqProofs [go_sem,g0,g3,g8,g9,g10,hlt,hlt',c0,hB5.cell,hk0,hls];unfold endE;simp -implicitDefEqProofs [go_sem,g0,g3,g8,g9,g10,hlt,hlt'];have hown1:=hown.next bd5
       have b6:=b5.drew;generalize World.drew w5=w6 at *;obtain ⟨n1,hn1⟩:∃ z,z=n:=⟨_,rfl⟩;obtain ⟨ao1,hao1⟩:∃ o,o=ao:=⟨_,rfl⟩;obtain ⟨co1,hco1⟩:∃ o,o=co:=⟨_,rfl⟩;obtain ⟨dv,hdv⟩:∃ dv:Bool,dv=false:=⟨_,rfl⟩;have hri1:RI dv out (k+1):=by rw [hdv];exact hri.step
       have hri2:∀ y:WrV,RI dv (out++[y]) (k+1):=fun y=>by rw [hdv];exact hri.push y
       have hn7:n≤1100:=by omega
      all_goals
       have hin6:=hin.next b6
       have hB6:=hB1.next b6
       have hs6:=b6.size;obtain ⟨ib6,io6,hib6,hc6⟩:=hin6.get (i:=k) (by simpa using hlt);obtain ⟨rfl,rfl⟩:ib=ib6∧io=io6:=by simpa using hib6
       have c06:=hc6 0 (by simp [WrV.cs]);simp [WrV.cs] at c06;have bd6:=(Below.refl w6.heap.size w6).drew;replace hown1:=hown1.next bd6
       have b7:=b6.drew;have hB7:=hB6.next bd6
       refine drawE_still mixed (by decide +kernel) ?_;by_cases hke:l[k].key=x.key
       ·simp -implicitDefEqProofs [go_sem,g0,g3,g8,g9,g10,hlt,hlt',c06,hB6.cell,hk0,hke];unfold endE;generalize World.drew w6=w7 at *;simp -implicitDefEqProofs [go_sem,g0,g3,g8,g9,g10,i1];refine goE_round ⟨k+1,_,ao1,n1,co1,dv,by omega,?_,?_,?_,?_,?_,by rw [hao1,hn1,hco1];exact hown1,b7,hri1⟩ ?_
        ·simp -implicitDefEqProofs [go_sem,g0]
        ·simp -implicitDefEqProofs [go_sem,g3]
        ·simp -implicitDefEqProofs [go_sem,g8,hao1,hn1,hco1]
        ·simp -implicitDefEqProofs [go_sem,g9,hdv]
        ·simp -implicitDefEqProofs [go_sem,i1]
        ·simp -implicitDefEqProofs [go_sem,g10,intOf,i1];omega
       ·simp -implicitDefEqProofs [go_sem,g0,g3,g8,g9,g10,hlt,hlt',c06,hB6.cell,hk0,hke];unfold endE;have ldk:=ldCells (P:=Tryz.prog) (w:=World.drew w6) (g:=ib) (o:=io+k*3) (cs:=l[k].cs) Tryz.underlying48 rfl wrIR rfl (fun i hi=>by
         have:=hc6 i (by simpa using hi);simpa using this)
        generalize World.drew w6=w7 at *;rw [l[k].cs_eq] at ldk;obtain ⟨g8',c8,w8,hr8,hown8,b8⟩:=hown1.push (x:=l[k]) (by have:=b7.size;omega) b7 hn7;simp -implicitDefEqProofs [go_sem,g0,g3,g8,g9,g10,hlt,hlt',↓ldk,hr8,i1];refine goE_round ⟨k+1,_,some ⟨g8',0,none⟩,n1+1,c8,dv,by omega,?_,?_,?_,?_,?_,by rw [hn1];exact hown8,b8,hri2 l[k]⟩ ?_
        ·simp -implicitDefEqProofs [go_sem,g0]
        ·simp -implicitDefEqProofs [go_sem,g3]
        ·simp -implicitDefEqProofs [go_sem,hn1]
        ·simp -implicitDefEqProofs [go_sem,g9,hdv]
        ·simp -implicitDefEqProofs [go_sem,i1]
        ·simp -implicitDefEqProofs [go_sem,g10,intOf,i1];omega
     ·obtain rfl:k=l.length:=by omega
      have hB6:=hB5;have hs4:=bel4.size;simp -implicitDefEqProofs [go_sem,g0,g3,g8,g9,g10];cases dn with
      | true =>
       simp -implicitDefEqProofs [go_sem,g0,g3,g8,g9,g10];refine body_tmp2 4 5 rfl ?_;have hol:=hown.2;simp -implicitDefEqProofs [go_sem,g8];exact ⟨out,ao,co,0,by rw [hol],owns_rin (wr_size out) (by rw [List.length_map,hol]) hown.1,fun _=>hri.2.2 rfl,fun _ e=>by
        have h1:=hri.1;have h2:=List.length_pos_iff.2 (hri.2.2 rfl);rw [e] at h1;simp at h1;omega,fun h=>absurd hx h,hri.1,fun y hy=>.inr (by have:=ownsRow_blk hown.1 _ ⟨y,hy,rfl⟩;omega),btr bel4 b5⟩
      | false =>
       have ldx:=ldAll (P:=Tryz.prog) hB6 Tryz.underlying48 rfl wrIR (n:=3) x.cs_size;rw [x.cs_eq] at ldx;obtain ⟨g6,c6,w6,hr6,hown1,b6⟩:=hown.push (x:=x) hs5 b5 (by omega);simp -implicitDefEqProofs [go_sem,g0,g3,g8,g9,g10,↓ldx,hr6];refine body_tmp2 4 5 rfl ?_;have hol:=hown1.2;simp -implicitDefEqProofs [go_sem];exact ⟨out++[x],some ⟨g6,0,none⟩,c6,0,by rw [hol],owns_rin (wr_size _) (by rw [List.length_map,hol]) hown1.1,fun _=>by simp,fun _ e=>by
        have h1:=hri.2.1 rfl;rw [e] at h1;rw [List.length_append];simp at h1 ⊢;exact h1,fun h=>absurd hx h,by have h1:=hri.2.1 rfl;rw [List.length_append];simp;omega,fun y hy=>.inr (by have:=ownsRow_blk hown1.1 _ ⟨y,hy,rfl⟩;omega),btr bel4 b6⟩
end
end
end Go.Proofs.YtaaihijkdhmcdaaGreatDoor
